/- Part of the proof: PSep6, PSep7, PSep8, PSep9, PSep10, PSep11, PAdv, PZ, PFast, KOne, KTypes, PSel, PHook, KBase, KMem. Names and blanks are cut short to keep within the size of a claim. -/
import Derived.KernelRfl
import Derived.ProofKit
import Derived.Test.YtlhcpplnlgehbaaGreatM3
import Derived.Test.YtlhcpplnlgehbaaGreatRows
import Derived.WalkKit
set_option linter.unusedVariables false
set_option linter.unusedSimpArgs false
set_option maxRecDepth 100000
namespace Go.Px
open Go Go.RowKit
section
variable {P:Program} {F:zD} {zB:yy} {ops:Array Oper} {o:Oper} {l:List Oper} {T:Tm} {L R:List SP} {Q:Tm→List SP→Prop} {x:It} {m:List It} {H:Hp}
theorem Sub.one {κ α κ2 α2:Type} {K:κ→α→SP} {a:κ} {x:α} {K2:κ2→α2→SP} {a2:κ2} {x2:α2} [t:Tk L K a x R] (h: ∀f,K a x f→K2 a2 x2 f):Sub L (z3 K2 a2 x2::R):=⟨fun f s=>(t.h f s).cons h fun _ e=>e⟩
theorem Ns {i:Nat} {cs:List z0} [t:Tk L zC i cs R] (f:Nat→z0) (e: ∀j,j<cs.length→cs[j]? =some (f j)) (k:WO P F zB ops l T (z3 zO i (cs.length,f)::R) Q):WO P F zB ops l T L Q:=zd (Sub.one (t:=t) (vE e)) k
theorem Nd {i:Nat} {cs:List z0} [t:Tk L zC i cs R] (f:Nat→z0) (e: ∀j,j<cs.length→cs[j]? =some (f j)) (k:WK P F ops m T (z3 zO i (cs.length,f)::R) Q):WK P F ops m T L Q:=fun H hH=>k H (hH.sub (Sub.one (t:=t) (vE e)))
theorem VU {i n:Nat} {cs:List z0} [t:Tk L zC i cs R] (f:Nat→z0) (hn:cs.length=n) (e: ∀j,j<cs.length→cs[j]? =some (f j)) (k:WO P F zB ops l T (z3 zO i (n,f)::R) Q):WO P F zB ops l T L Q:=by subst hn;exact Ns f e k
theorem sh {n j:Nat} {v:z0} (h:j<(List.replicate n v).length):(List.replicate n v)[j]? =some v:=by rw [List.getElem?_replicate,if_pos (by simpa using h)]
theorem tB {t:TypeId} {y lo hi:Operand} {i off n sz m:Nat} {f:Nat→z0} {z1 z2:Int} [AR P t n sz] [tk:Tk L zO i (m,f) R] (ho:o.op= .slice t y (some lo) (some hi) none) (hx:zK T y=some (.ptr (some (i,off)))) (h1:zK T lo=some (.int .i64 (.lit z1))) (h2:zK T hi=some (.int .i64 (.lit z2)))
 (hz:0≤z1) (XY:z1≤z2) (hz3:z2≤(n:Nat)) (hz4:z1<(n:Nat)) (hm:off+n*sz≤m) (h:zU L H):yd P F T H o=some (.val (.slice (some (i,off+z1.toNat*sz)) (z2.toNat-z1.toNat) (some (n-z1.toNat)) sz) H):=by
 obtain⟨e,g1,g2⟩:=(inferInstance:AR P t n sz).h
 obtain⟨a,rfl⟩: ∃a:Nat,z1=a:=⟨z1.toNat,by omega⟩
 obtain⟨b,rfl⟩: ∃b:Nat,z2=b:=⟨z2.toNat,by omega⟩
 obtain⟨c,w,k1,k2,k3⟩:=Sat.Ms (R:=R) (tk.h _ h.s)
 have hr:H.row i=some w:=by simp only [Hp.row,k1]
 have n1: ∀a:Nat,uj (.int .i64 (.lit (a:Int)))=some a:=fun a=>rfl
 have b1:Nat.ble b n=true:=Nat.ble_eq_true_of_le (by omega)
 have b2:Nat.ble a b=true:=Nat.ble_eq_true_of_le (by omega)
 have b3:Nat.ble (off+n*sz) w=true:=Nat.ble_eq_true_of_le (by omega)
 have b4:Nat.beq n a=false:=by
  cases h:Nat.beq n a with
  |false=>rfl
  |true=>have:=Nat.eq_of_beq_eq_true h;omega
 simp only [yd,ho,wW,Option.map,Option.getD,hx,h1,h2,vf,g1,g2,qQ,Y0,vP,vJ,n1,b1,b2,cond_true,hr,b3,b4,cond_false,zN.qK,Int.toNat_natCast]
end
def ye (z:Int):List z0:= [.int .i64 (.lit z)]
theorem QZ (z:Int):(ye z).length=1:=rfl
def Own (v:z0) (n es:Nat):Prop:=(v= .slice none 0 (some 0) 0∧n=0)∨ ∃i,v= .slice (some (i,0)) n none es
theorem Own.nil (es:Nat):Own (.slice none 0 (some 0) 0) 0 es:= .inl ⟨rfl,rfl⟩
theorem Own.nc {v:z0} {n es:Nat} (h:Own v n es): ∀p l k e,v≠ .slice (some p) l (some k) e:=by
 rcases h with⟨rfl,_⟩|⟨i,rfl⟩<;>nofun
theorem Own.cell {v:z0} {n es:Nat} (h:Own v n es):v.yK=true∧v.cells= [v]:=by
 rcases h with⟨rfl,_⟩|⟨i,rfl⟩<;>exact⟨rfl,rfl⟩
theorem rO {α:Type} {en:α→List z0} {es:Nat} {xs:List α} {i:Nat} : ∀h,zX en es (.slice (some (i,0)) xs.length none es) xs h→zO i (xs.length*es,jW (xs.flatMap en)) h:=by
 rintro h ⟨h1,h2,h3⟩
 have hl:=wF h2 xs
 generalize kD:xs.flatMap en=cs at h1 hl ⊢
 generalize xs.length=q at h1 hl ⊢
 cases h1 with
 |own i off len n _ f _ hr hn hc=>
  obtain⟨c,w,g1,g2,g3⟩:=hr
  have g2:n≤w:=g2
  refine⟨c,w,g1,by show q*es≤w;omega,fun j (hj:j<q*es)=> ?_⟩
  have:=y7 f (q*es) 0 j hj
  rw [←hc,Nat.zero_add]at this
  rw [g3 j (by show j<n;omega)]
  show _=some (jW cs j)
  unfold jW
  rw [this];rfl
theorem fW {α:Type} {en:α→List z0} {es:Nat} (he: ∀x,(en x).length=es) (h0:0<es) (e:Nat) {L:List SP} {h:q7} (s:Sat L h):Sat (z3 (zX en es) (.slice none 0 (some 0) e) ([]:List α)::L) h:=
 ⟨fun _=>none,h,fun _=> .inl rfl,(fun _ _ h=>nomatch h),(fun _ _ h=>h),⟨.nil e es,he,h0⟩,s⟩
theorem Sub.jF {α:Type} {en:α→List z0} {es:Nat} (he: ∀x,(en x).length=es) (h0:0<es) (e:Nat) (L:List SP):Sub L (z3 (zX en es) (.slice none 0 (some 0) e) ([]:List α)::L):=⟨fun _ s=>fW he h0 e s⟩
section
variable {P:Program} {F:zD} {zB:yy} {ops:Array Oper} {o:Oper} {l:List Oper} {T:Tm} {L R:List SP} {Q:Tm→List SP→Prop} {H:Hp}
theorem bg {t:TypeId} {x y:Operand} {cs:List z0} {len:Nat} {k:IntKind} {z:Int} {v:z0} [ha:AE P t len] (ho:o.op= .index t x y) (hx:zK T x=some (.agg cs)) (hy:zK T y=some (.int k (.lit z))) (hz:0≤z) (hl:z<(len:Nat)) (hv:cs[z.toNat]? =some v):yd P F T H o=some (.val v H):=Iw ho hx hy hz hl hv
end
section
variable {β:Type}
def B4 (e:β→z0) (l:List (Int×β)):List (Int×z0):=l.map fun p=>(p.1,e p.2)
def kJ (l:List (Int×β)) (z:Int):Option β:=match l with
 | []=>none
 |p::l=>if p.1=z then some p.2 else kJ l z
def du (l:List (Int×β)) (z:Int) (v:β):List (Int×β):=match l with
 | []=> [(z,v)]
 |p::l=>if p.1=z then(z,v)::l else p::du l z v
def Gh (l:List (Int×β)) (z:Int):List (Int×β):=match l with
 | []=> []
 |p::l=>if p.1=z then l else p::Gh l z
theorem I0 (e:β→z0) (l:List (Int×β)) (z:Int):B3 (B4 e l) z=(kJ l z).map e:=by
 induction l with
 |nil=>rfl
 |cons p l ih=>simp only [B4,List.map_cons,B3,kJ]at ih ⊢;split<;>simp [ih]
theorem Ho (e:β→z0) (l:List (Int×β)) (z:Int) (v:β):ins (B4 e l) z (e v)=B4 e (du l z v):=by
 induction l with
 |nil=>rfl
 |cons p l ih=>simp only [B4,List.map_cons,ins,du]at ih ⊢;split<;>simp [ih]
theorem H5 (e:β→z0) (l:List (Int×β)) (z:Int):del (B4 e l) z=B4 e (Gh l z):=by
 induction l with
 |nil=>rfl
 |cons p l ih=>simp only [B4,List.map_cons,del,Gh]at ih ⊢;split<;>simp [ih]
theorem Hy {l:List (Int×β)} {z:Int} {v:β} (h:kJ l z=some v):(z,v) ∈ l:=by
 induction l with
 |nil=>cases h
 |cons p l ih=>
  simp only [kJ]at h
  split at h
  ·rename_i e;cases h;subst e;simp
  exact List.mem_cons_of_mem _ (ih h)
theorem DP {l:List (Int×β)} {z:Int} {v:β} {p:Int×β} (h:p ∈ du l z v):p=(z,v)∨p ∈ l:=by
 induction l with
 |nil=>simp only [du,List.mem_singleton]at h;exact .inl h
 |cons q l ih=>
  simp only [du]at h
  split at h
  ·rcases List.mem_cons.1 h with h|h
   ·exact .inl h
   exact .inr (List.mem_cons_of_mem _ h)
  rcases List.mem_cons.1 h with h|h
  ·exact .inr (by rw [h];simp)
  rcases ih h with h|h
  ·exact .inl h
  exact .inr (List.mem_cons_of_mem _ h)
theorem DN {l:List (Int×β)} {z:Int} {p:Int×β} (h:p ∈ Gh l z):p ∈ l:=by
 induction l with
 |nil=>cases h
 |cons q l ih=>
  simp only [Gh]at h
  split at h
  ·exact List.mem_cons_of_mem _ h
  rcases List.mem_cons.1 h with h|h
  ·rw [h];simp
  exact List.mem_cons_of_mem _ (ih h)
def DR (e:β→z0) (i:Nat) (l:List (Int×β)):SP:=dw i (B4 e l)
variable {P:Program} {F:zD} {zB:yy} {ops:Array Oper} {o:Oper} {l:List Oper} {T:Tm} {L R:List SP} {Q:Tm→List SP→Prop} {H:Hp} {e:β→z0}
theorem tA {t:TypeId} {x k:Operand} {i:Nat} {z:Int} {m:List (Int×β)} {zv:z0} [hM:MI P t zv] (zb:β) (hz:zv=e zb) [tk:Tk L (DR e) i m R] (ho:o.op= .lookup t x k true) (hx:zK T x=some (.map (some i))) (hk:zK T k=some (.int .i64 (.lit z))) (h:zU L H):yd P F T H o=some (.val (.tuple [e ((kJ m z).getD zb),.bool (kJ m z).isSome]) H):=by
 rw [bh ho hx hk (zU.mp (R:=R) (m:=B4 e m) ⟨h.ok,tk.h _ h.s⟩),cond_true,I0]
 cases kJ m z with
 |none=>rw [hz];rfl
 |some v=>rfl
theorem IN {t:TypeId} {m k x:Operand} {i:Nat} {z:Int} {y:β} {es:List (Int×β)} {zv:z0} [hM:MI P t zv] [tk:Tk L (DR e) i es R] (hw:zP ops T o=some true) (ho:o.op= .mapUpdate t m k x) (h1:zK T m=some (.map (some i))) (h2:zK T k=some (.int .i64 (.lit z))) (h3:zK T x=some (e y))
 (kk:WO P F zB ops l (zp T o.dst unit) (z3 (DR e) i (du es z y)::R) Q):WO P F zB ops (o::l) T L Q:=by
 intro H hH
 have h0:zU (z3 dw i (B4 e es)::R) H:=⟨hH.ok,tk.h _ hH.s⟩
 obtain⟨H',g1,g2,g3,_⟩:=rk (P:=P) (F:=F) (m:=m) (k:=k) (x:=x) (z:=z) (v:=e y) (hM:=hM) h0.mp
 rw [Ho]at g2
 exact qz hw (g1 ho h1 h2 h3) (kk H' (h0.I9 g2 g3))
theorem eT {t:TypeId} {c:Call} {ts:List TypeId} {m k:Operand} {i:Nat} {z:Int} {es:List (Int×β)} {zv:z0} [hM:MI P t zv] [tk:Tk L (DR e) i es R] (hw:zP ops T o=some true) (ho:o.op= .call c) (hc:c.callee= .builtin .delete) (ht:c.argTypes.toList=t::ts) (ha:c.args.toList= [m,k]) (h1:zK T m=some (.map (some i))) (h2:zK T k=some (.int .i64 (.lit z)))
 (kk:WO P F zB ops l (zp T o.dst unit) (z3 (DR e) i (Gh es z)::R) Q):WO P F zB ops (o::l) T L Q:=by
 intro H hH
 have h0:zU (z3 dw i (B4 e es)::R) H:=⟨hH.ok,tk.h _ hH.s⟩
 obtain⟨H',g1,g2,g3,_⟩:=rj (P:=P) (F:=F) (m:=m) (k:=k) (z:=z) (hM:=hM) h0.mp
 rw [H5]at g2
 exact qz hw (g1 ho hc ht ha h1 h2) (kk H' (h0.I9 g2 g3))
theorem sR {t:TypeId} [hM:MT P t] (hw:zP ops T o=some true) (ho:o.op= .makeMap t none) (k: ∀i,WO P F zB ops l (zp T o.dst (.map (some i))) (z3 (DR e) i []::L) Q):WO P F zB ops (o::l) T L Q:=pe hw ho k
end
section
variable {P:Program} {F:zD} {zB:yy} {ops:Array Oper} {o:Oper} {l:List Oper} {T:Tm} {L R:List SP} {Q:Tm→List SP→Prop} {H:Hp}
class MS (P:Program) (t:Nat) (sz:outParam Nat) (z:outParam z0):Prop where
 h: ∃e bt,yj P t=some (.slice e)∧yb P e=some sz∧zeroOf P e=some z∧bytesOf P e=some bt∧bt≤yi∧z.cells.length=sz∧z.isTuple=false
theorem Il {zc:List z0} {v:z0} (hz: ∀u,u ∈ zc→u=v): ∀n j,j<n*zc.length→(yR zc n)[j]? =some v:=by
 intro n
 induction n with
 |zero=>intro j h;simp at h
 |succ n ih=>
  intro j h
  show(zc++yR zc n)[j]? =_
  by_cases hj:j<zc.length
  ·rw [List.getElem?_append_left hj,List.getElem?_eq_getElem hj];exact congrArg some (hz _ (List.getElem_mem hj))
  rw [List.getElem?_append_right (by omega)];exact ih _ (by rw [Nat.add_mul]at h;omega)
theorem rX (zc:List z0): ∀n,(yR zc n).length=n*zc.length:=by
 intro n
 induction n with
 |zero=>simp [yR]
 |succ n ih=>show(zc++yR zc n).length=_;rw [List.length_append,ih,Nat.add_mul];omega
theorem bL {t:TypeId} {x y:Operand} {n sz:Nat} {z:z0} [hs:MS P t sz z] (u:z0) (hz: ∀w,w ∈ z.cells→w=u) (hw:zP ops T o=some true) (ho:o.op= .makeSlice t x y) {k1 k2:IntKind} {z1 z2:Int} (hx:zK T x=some (.int k1 (.lit z1))) (hy:zK T y=some (.int k2 (.lit z2))) (e1:z1=n) (e2:z2=n) (hn:n≤65536)
 (k: ∀i,WO P F zB ops l (zp T o.dst (.slice (some (i,0)) n (some n) sz)) (z3 zO i (n*sz,fun _=>u)::L) Q):WO P F zB ops (o::l) T L Q:=by
 intro H hH
 subst e1 e2
 obtain⟨e,bt,h1,h2,h3,h4,h5,h6,h7⟩:=hs.h
 have n1: ∀(k:IntKind) (a:Nat),uj (.int k (.lit (a:Int)))=some a:=fun k a=>rfl
 have b1:Nat.beq z.cells.length sz=true:=by rw [h6];exact Nat.beq_refl sz
 have b2:Nat.ble n 65536=true:=Nat.ble_eq_true_of_le hn
 have b3:Nat.ble n n=true:=Nat.ble_eq_true_of_le (Nat.le_refl _)
 have b4:Nat.ble bt yi=true:=Nat.ble_eq_true_of_le h5
 refine qz hw (v:= .slice (some (H.next,0)) n (some n) sz) (H':=wy H (yR z.cells n)) ?_ (k _ _ ?_)
 ·simp only [yd,ho,gu,h1,hx,hy,n1,h2,h3,h4,b1,b2,b3,b4,h7,Bool.not_false,Bool.and_true,cond_true]
 have:=hH.new (yR z.cells n)
 refine⟨this.ok,this.s.cons (fun f hf=> ?_) fun _ e=>e⟩
 have hl:(yR z.cells n).length=n*sz:=by rw [rX,h6]
 have:=vE (f:=fun _=>u) (fun j hj=>Il hz n j (by rw [hl]at hj;rw [h6];exact hj)) f hf
 rw [hl]at this;exact this
end
theorem Yz (p:SP): ∀E R:List SP,Sub (p::(E++R)) (E++(p::R))
 | [],_=>Sub.refl _
 |e::E,R=>⟨fun h s=>(Sub.wU (p:=e) (Yz p E R)).h h (Sat.swap s)⟩
theorem jn (p:SP): ∀E R:List SP,Sub (E++(p::R)) (p::(E++R))
 | [],_=>Sub.refl _
 |e::E,R=>⟨fun h s=>Sat.swap ((Sub.wU (p:=e) (jn p E R)).h h s)⟩
theorem o7 (p q:SP) (E R:List SP):Sub (p::q::(E++R)) (E++(p::q::R)):=(Sub.wU (Yz q E R)).trans (Yz p E (q::R))
theorem ry (p q:SP) (E R:List SP):Sub (E++(p::q::R)) (p::q::(E++R)):=(jn p E (q::R)).trans (Sub.wU (jn q E R))
theorem Ek (f:Nat→z0) (k:Nat) (v:z0):upd f k v=ua f k [v]:=by
 funext j
 unfold upd ua
 by_cases e:j=k
 ·rw [if_pos e,if_pos (by omega),e,Nat.sub_self];rfl
 rw [if_neg e]
 by_cases h:k≤j
 ·rw [if_pos h,List.getElem?_eq_none (by show 1≤_;omega)];rfl
 rw [if_neg h]
instance (priority:=60) tk_app {κ α:Type} (M L:List SP) (K:κ→α→SP) (a:κ) (x:α) (R:List SP) [t:Tk L K a x R]:Tk (M++L) K a x (M++R):=⟨by
 intro f s
 obtain⟨p,q,h1,h2,h3,h4,h5⟩:=s.append
 exact(jn (z3 K a x) M R).h _ (Sat.join h1 h2 h3 h4 (t.h _ h5)),by
 intro f s
 obtain⟨p,q,h1,h2,h3,h4,h5⟩:=((Yz (z3 K a x) M R).h _ s).append
 exact Sat.join h1 h2 h3 h4 (t.b _ h5)⟩
theorem Ul (f:Nat→z0) (o n k:Nat) (h:k≤n):(zj f o n).drop k=zj f (o+k) (n-k):=by
 apply List.ext_getElem?
 intro j
 rw [List.getElem?_drop]
 by_cases hj:j<n-k
 ·rw [y7 _ _ _ _ (by omega),y7 _ _ _ _ hj,Nat.add_assoc]
 rw [List.getElem?_eq_none (by rw [y8];omega),List.getElem?_eq_none (by rw [y8];omega)]
theorem Um (f:Nat→z0) (o n k:Nat) (h:k≤n):(zj f o n).take k=zj f o k:=by
 apply List.ext_getElem?
 intro j
 rw [List.getElem?_take]
 by_cases hj:j<k
 ·rw [if_pos hj,y7 _ _ _ _ (by omega),y7 _ _ _ _ hj]
 rw [if_neg hj,List.getElem?_eq_none (by rw [y8];omega)]
theorem jg (f:Nat→z0) (a:Nat) (vs:List z0) (o n:Nat) (h:o+n≤a∨a+vs.length≤o):zj (ua f a vs) o n=zj f o n:=by
 apply List.ext_getElem?
 intro j
 by_cases hj:j<n
 ·rw [y7 _ _ _ _ hj,y7 _ _ _ _ hj]
  congr 1
  unfold ua
  by_cases e:a≤o+j
  ·rw [if_pos e,List.getElem?_eq_none (by omega)];rfl
  rw [if_neg e]
 rw [List.getElem?_eq_none (by rw [y8];omega),List.getElem?_eq_none (by rw [y8];omega)]
section
variable {α:Type} {en:α→List z0} {es:Nat}
theorem iF (he: ∀x,(en x).length=es) (xs:List α) (k:Nat):(xs.drop k).flatMap en=(xs.flatMap en).drop (k*es):=by
 induction xs generalizing k with
 |nil=>simp
 |cons x xs ih=>
  cases k with
  |zero=>simp
  |succ k=>rw [List.drop_succ_cons,ih,List.flatMap_cons,List.drop_append,he,(List.drop_eq_nil_of_le (by rw [he,Nat.add_mul];omega):(en x).drop _= []),List.nil_append];congr 1;rw [Nat.add_mul];omega
theorem pT (he: ∀x,(en x).length=es) (xs:List α) (k:Nat):(xs.take k).flatMap en=(xs.flatMap en).take (k*es):=by
 induction xs generalizing k with
 |nil=>simp
 |cons x xs ih=>
  cases k with
  |zero=>simp
  |succ k=>rw [List.take_succ_cons,List.flatMap_cons,ih,List.flatMap_cons,List.take_append,he,List.take_of_length_le (l:=en x) (by rw [he,Nat.add_mul];omega)];congr 2;rw [Nat.add_mul];omega
theorem LC {xs:List α} {off k:Nat} {x:α} {g:Nat→z0} (he: ∀x,(en x).length=es) (hg:zj g off (xs.length*es)=xs.flatMap en) (hx:xs[k]? =some x):zj g (k*es+off) es=en x:=by
 have hk:k<xs.length:=(List.getElem?_eq_some_iff.1 hx).1
 have hm:(k+1)*es≤xs.length*es:=Nat.mul_le_mul_right es hk
 rw [Nat.add_mul,Nat.one_mul]at hm
 apply List.ext_getElem?
 intro j
 by_cases hj:j<es
 ·rw [y7 _ _ _ _ hj,←Y1 he xs k j x hx hj,←hg,y7 _ _ _ _ (by omega)];congr 2;omega
 rw [List.getElem?_eq_none (by rw [y8];omega),List.getElem?_eq_none (by rw [he];omega)]
def Dz (c:Option Nat) (off len es n:Nat):Prop:=off+len*es≤n∧ ∀k,c=some k→off+k*es≤n∧len≤k
theorem Uv {xs:List α} {i off n len:Nat} {c:Option Nat} {f:Nat→z0} (he: ∀x,(en x).length=es) (h0:0<es) (hl:len=xs.length) (hr:Dz c off len es n) (hf:zj f off (len*es)=xs.flatMap en): ∀h,zO i (n,f) h→zX en es (.slice (some (i,off)) len c es) xs h:=by
 intro h s
 refine⟨?_,he,h0⟩
 cases c with
 |none=>exact .own i off len n es f _ s hr.1 hf.symm
 |some k=>exact .part i off len k n es f _ s (hr.2 k rfl).1 (hr.2 k rfl).2 hf.symm
end
section
variable {P:Program} {F:zD} {zB:yy} {ops:Array Oper} {o:Oper} {l:List Oper} {T:Tm} {L R:List SP} {Q:Tm→List SP→Prop} {H:Hp} {α:Type} {en:α→List z0} {es:Nat} {v:z0} {xs:List α}
theorem eU [t:dL L v en es xs R] (wY:xs≠ []) (k: ∀i off c n f,v= .slice (some (i,off)) xs.length c es→Dz c off xs.length es n→zj f off (xs.length*es)=xs.flatMap en→(∀x,(en x).length=es)→0<es→WO P F zB ops l T (z3 zO i (n,f)::R) Q):WO P F zB ops l T L Q:=by
 intro H hH
 have s:=t.h _ hH.s
 obtain⟨p,q,h1,h2,h3,h4,h5⟩:=s
 obtain⟨g1,g2,g3⟩:=h4
 have hl:=j9 (en:=en) ⟨g1,g2,g3⟩
 have NH:xs.flatMap en≠ []:=by
  intro e
  have:=wF g2 xs
  rw [e]at this
  have h0:0<xs.length:=List.length_pos_iff.2 wY
  have:=Nat.mul_pos h0 g3
  simp_all
 generalize kD:xs.flatMap en=cs at g1 NH
 cases g1 with
 |nil e=>exact absurd rfl NH
 |emp i off=>exact absurd rfl NH
 |own i off len n _ f _ hr hn hc=>
  have hl:len=xs.length:=hl
  subst hl
  exact k i off none n f rfl ⟨hn,nofun⟩ (by rw [kD,hc]) g2 g3 H ⟨hH.ok,p,q,h1,h2,h3,hr,h5⟩
 |part i off len cap n _ f _ hr hn hle hc=>
  have hl:len=xs.length:=hl
  subst hl
  exact k i off (some cap) n f rfl ⟨by have:=Nat.mul_le_mul_right es hle;omega,fun k e=>by cases e;exact⟨hn,hle⟩⟩ (by rw [kD,hc]) g2 g3 H ⟨hH.ok,p,q,h1,h2,h3,hr,h5⟩
theorem E4 {t:TypeId} {x lo:Operand} {i off len:Nat} {c:Option Nat} {z:Int} [hs:SL P t es] (ho:o.op= .slice t x (some lo) none none) (hx:zK T x=some (.slice (some (i,off)) len c es)) (hl:zK T lo=some (.int .i64 (.lit z))) (h0:0≤z) (uE:z<(len:Nat)) (hc: ∀k,c=some k→len≤k):
 yd P F T H o=some (.val (.slice (some (i,off+z.toNat*es)) (len-z.toNat) (c.map (· -z.toNat)) es) H):=by
 obtain⟨e,g1,g2⟩:=hs.h
 obtain⟨a,rfl⟩: ∃a:Nat,z=a:=⟨z.toNat,by omega⟩
 have n1:uj (.int .i64 (.lit (a:Int)))=some a:=rfl
 have b1:Nat.ble a len=true:=Nat.ble_eq_true_of_le (by omega)
 have b2:Nat.beq es es=true:=Nat.beq_refl es
 have nb: ∀k,len≤k→Nat.beq k a=false:=fun k hk=>by
  cases h:Nat.beq k a with
  |false=>rfl
  |true=>have:=Nat.eq_of_beq_eq_true h;omega
 cases c with
 |none=>simp only [yd,ho,wW,Option.map,Option.getD,hx,hl,vf,g1,g2,qQ,Y0,vP,vJ,n1,b1,b2,nb len (Nat.le_refl _),cond_true,cond_false,zN.qK,Int.toNat_natCast]
 |some k=>simp only [yd,ho,wW,Option.map,Option.getD,hx,hl,vf,g1,g2,qQ,Y0,vP,vJ,n1,b1,b2,nb k (hc k rfl),cond_true,cond_false,zN.qK,Int.toNat_natCast]
theorem bj {t:TypeId} {x hi:Operand} {i off len:Nat} {c:Option Nat} {z:Int} [hs:SL P t es] (ho:o.op= .slice t x none (some hi) none) (hx:zK T x=some (.slice (some (i,off)) len c es)) (hh:zK T hi=some (.int .i64 (.lit z))) (h0:0≤z) (hle:z≤(len:Nat)) (hc: ∀k,c=some k→len≤k):
 yd P F T H o=some (.val (.slice (some (i,off)) z.toNat c es) H):=by
 obtain⟨e,g1,g2⟩:=hs.h
 obtain⟨a,rfl⟩: ∃a:Nat,z=a:=⟨z.toNat,by omega⟩
 have n1:uj (.int .i64 (.lit (a:Int)))=some a:=rfl
 have b0:Nat.ble 0 a=true:=Nat.ble_eq_true_of_le (Nat.zero_le _)
 have b1:Nat.ble a len=true:=Nat.ble_eq_true_of_le (by omega)
 have b2:Nat.beq es es=true:=Nat.beq_refl es
 cases c with
 |none=>
  cases hb:Nat.beq len 0 with
  |false=>simp only [yd,ho,wW,Option.map,Option.getD,hx,hh,vf,g1,g2,qQ,Y0,vP,vJ,n1,b1,b2,hb,cond_true,cond_false,zN.qK,Int.toNat_natCast,Nat.zero_mul,Nat.add_zero,Nat.sub_zero]
  |true=>
   have:len=0:=Nat.eq_of_beq_eq_true hb
   have ha:a=0:=by omega
   subst ha
   simp only [yd,ho,wW,Option.map,Option.getD,hx,hh,vf,g1,g2,qQ,Y0,vP,vJ,n1,b1,b2,hb,cond_true,cond_false,zN.qK,Int.toNat_natCast,Nat.zero_mul,Nat.add_zero,Nat.sub_zero]
 |some k=>
  have b3:Nat.ble a k=true:=Nat.ble_eq_true_of_le (by have:=hc k rfl;omega)
  cases hb:Nat.beq k 0<;>simp only [yd,ho,wW,Option.map,Option.getD,hx,hh,vf,g1,g2,qQ,Y0,vP,vJ,n1,b3,b2,hb,cond_true,cond_false,zN.qK,Int.toNat_natCast,Nat.zero_mul,Nat.add_zero,Nat.sub_zero]
theorem rL {c:Call} {t:TypeId} {ts:List TypeId} {x:Operand} {i off n m:Nat} {cp:Option Nat} {e0:Nat} {f:Nat→z0} {z:z0} [hs:MS P t es z] [tk:Tk L zO i (m,f) R] (hw:zP ops T o=some true) (ho:o.op= .call c) (hc:c.callee= .builtin .clear) (ht:c.argTypes.toList=t::ts) (ha:c.args.toList= [x]) (hx:zK T x=some (.slice (some (i,off)) n cp e0))
 (hv:yf z.cells=true) (hl:off+n*es≤m) (k: ∀vs:List z0,vs.length=n*es→WO P F zB ops l (zp T o.dst unit) (z3 zO i (m,ua f off vs)::R) Q):WO P F zB ops (o::l) T L Q:=by
 intro H hH
 obtain⟨e,bt,h1,h2,h3,h4,h5,h6,h7⟩:=hs.h
 have hln:(yR z.cells n).length=n*es:=by rw [rX,h6]
 have Vl:yf (yR z.cells n)=true:=by
  clear hl hln hx k
  induction n with
  |zero=>rfl
  |succ n ih=>show yf (z.cells++yR z.cells n)=true;rw [vH]at ih ⊢;intro u hu;rcases List.mem_append.1 hu with hu|hu;exact(vH _).1 hv u hu;exact ih u hu
 obtain⟨H',g1,g2⟩:=(zU.Xi (R:=R) ⟨hH.ok,tk.h _ hH.s⟩ (a:=off) (vs:=yR z.cells n) (by omega) Vl)
 refine qz hw (v:=unit) (H':=H') ?_ (k _ hln H' g2)
 simp only [yd,ho,hc,ht,ha,wQ,hx,yq,yc,h1,h3,g1]
theorem eV {t:TypeId} {x lo:Operand} {z:Int} [hs:SL P t es] [tk:dL L v en es xs R] (hw:zP ops T o=some true) (ho:o.op= .slice t x (some lo) none none) (hx:zK T x=some v) (hl:zK T lo=some (.int .i64 (.lit z))) (h0:0≤z) (hle:z≤(xs.length:Nat))
 (k: ∀w,WO P F zB ops l (zp T o.dst w) (z3 (zX en es) w (xs.drop z.toNat)::R) Q):WO P F zB ops (o::l) T L Q:=by
 intro H hH
 obtain⟨p,q,s1,s2,s3,⟨q1,q2,q3⟩,s5⟩:=tk.h _ hH.s
 have hlen:=j9 (en:=en) ⟨q1,q2,q3⟩
 obtain⟨e,g1,g2⟩:=hs.h
 obtain⟨a,rfl⟩: ∃a:Nat,z=a:=⟨z.toNat,by omega⟩
 have n1:uj (.int .i64 (.lit (a:Int)))=some a:=rfl
 have b2:Nat.beq es es=true:=Nat.beq_refl es
 have XO:((xs.drop a).flatMap en)=(xs.flatMap en).drop (a*es):=iF q2 xs a
 rw [Int.toNat_natCast]at k
 have fin: ∀w,(nh p w es ((xs.flatMap en).drop (a*es)))→yd P F T H o=some (.val w H)→uY P F zB ops (o::l) T H (fun T' H'=> ∃L',Q T' L'∧zU L' H'):=fun w FT ha=>by
  refine qz hw ha (k w H ⟨hH.ok,p,q,s1,s2,s3,⟨by rw [XO];exact FT,q2,q3⟩,s5⟩)
 generalize kD:xs.flatMap en=cs at q1 fin
 cases q1 with
 |nil e0=>
  have:a=0:=by have:(0:Nat)=xs.length:=hlen;omega
  subst this
  have b0:Nat.ble 0 0=true:=rfl
  exact fin (.slice none 0 (some 0) e0) (by rw [Nat.zero_mul];exact .nil e0 es) (by simp only [yd,ho,wW,Option.map,Option.getD,hx,hl,vf,g1,g2,qQ,Y0,vP,vJ,n1,b0,cond_true,zN.qK])
 |emp i off=>
  have:a=0:=by have:(0:Nat)=xs.length:=hlen;omega
  subst this
  have b0:Nat.ble 0 0=true:=rfl
  have b3:Nat.beq 0 0=true:=rfl
  exact fin (.slice (some (i,off)) 0 (some 0) es) (by rw [Nat.zero_mul];exact .emp i off es) (by simp only [yd,ho,wW,Option.map,Option.getD,hx,hl,vf,g1,g2,qQ,Y0,vP,vJ,n1,b2,b0,b3,cond_true,zN.qK])
 |own i off len n _ f _ hr hn hc=>
  have hlen:len=xs.length:=hlen
  have dq:a≤len:=by omega
  have b1:Nat.ble a len=true:=Nat.ble_eq_true_of_le dq
  have hm:a*es+(len-a)*es=len*es:=by rw [←Nat.add_mul];congr 1;omega
  have hd:cs.drop (a*es)=zj f (off+a*es) ((len-a)*es):=by rw [hc,Ul _ _ _ _ (by omega)];congr 1;omega
  refine fin (.slice (some (i,off+a*es)) (len-a) none es) (.own i (off+a*es) (len-a) n es f _ hr (by omega) hd) ?_
  cases hb:Nat.beq len a with
  |false=>simp only [yd,ho,wW,Option.map,Option.getD,hx,hl,vf,g1,g2,qQ,Y0,vP,vJ,n1,b1,b2,hb,cond_true,cond_false,zN.qK]
  |true=>
   have:=Nat.eq_of_beq_eq_true hb
   have h0:len-a=0:=by omega
   simp only [yd,ho,wW,Option.map,Option.getD,hx,hl,vf,g1,g2,qQ,Y0,vP,vJ,n1,b1,b2,hb,cond_true,cond_false,zN.qK,h0]
 |part i off len cap n _ f _ hr hn hle2 hc=>
  have hlen:len=xs.length:=hlen
  have dq:a≤len:=by omega
  have b1:Nat.ble a len=true:=Nat.ble_eq_true_of_le dq
  have hm:a*es+(len-a)*es=len*es:=by rw [←Nat.add_mul];congr 1;omega
  have PA:a*es+(cap-a)*es=cap*es:=by rw [←Nat.add_mul];congr 1;omega
  have hd:cs.drop (a*es)=zj f (off+a*es) ((len-a)*es):=by rw [hc,Ul _ _ _ _ (by omega)];congr 1;omega
  cases hb:Nat.beq cap a with
  |false=>
   refine fin (.slice (some (i,off+a*es)) (len-a) (some (cap-a)) es) (.part i (off+a*es) (len-a) (cap-a) n es f _ hr (by omega) (by omega) hd) ?_
   simp only [yd,ho,wW,Option.map,Option.getD,hx,hl,vf,g1,g2,qQ,Y0,vP,vJ,n1,b1,b2,hb,cond_true,cond_false,zN.qK]
  |true=>
   have hca:=Nat.eq_of_beq_eq_true hb
   have h0:len-a=0:=by omega
   have h1:cap-a=0:=by omega
   have hd0:cs.drop (a*es)= []:=by rw [hd,h0,Nat.zero_mul];rfl
   refine fin (.slice (some (i,off)) 0 (some 0) es) (by rw [hd0];exact .emp i off es) ?_
   simp only [yd,ho,wW,Option.map,Option.getD,hx,hl,vf,g1,g2,qQ,Y0,vP,vJ,n1,b1,b2,hb,cond_true,cond_false,zN.qK,h0,h1]
theorem zU.EA [t:dL L v en es xs R] (hH:zU L H): ∃a c e,v= .slice a xs.length c e∧(a=none→xs= []∧c=some 0):=by
 obtain⟨p,q,h1,h2,h3,h4,h5⟩:=t.h _ hH.s
 obtain⟨a,c,e,rfl⟩:=Zh h4
 refine⟨a,c,e,rfl,fun ha=> ?_⟩
 subst ha
 obtain⟨g1,g2,g3⟩:=h4
 have hc:(xs.flatMap en)= []∧c=some 0:=by
  generalize xs.flatMap en=cs at g1
  generalize xs.length=n at g1
  cases g1 with
  |nil=>exact⟨rfl,rfl⟩
 obtain⟨hc,dO⟩:=hc
 refine⟨?_,dO⟩
 have h:=wF g2 xs
 rw [hc]at h
 rcases Nat.eq_zero_or_pos xs.length with h0|h0
 ·exact List.eq_nil_of_length_eq_zero h0
 have:=Nat.mul_pos h0 g3
 rw [←h]at this;exact absurd this (Nat.lt_irrefl _)
theorem mN {a:Option (Nat×Nat)} {n e:Nat} {c:Option Nat} (h:a=none→c=some 0):Vi (.slice a n c e) (.slice a n c e)=true:=by
 cases a with
 |none=>rw [h rfl];exact z6 _ rfl
 |some p=>cases c<;>exact z6 _ rfl
theorem yW [t:dL L v en es xs R] (k: ∀a c e,v= .slice a xs.length c e→(a=none→xs= []∧c=some 0)→WO P F zB ops l T L Q):WO P F zB ops l T L Q:=fun H hH=>by
 obtain⟨a,c,e,h1,h2⟩:=zU.EA (t:=t) hH
 exact k a c e h1 h2 H hH
theorem WZ {cd:Code} {Q:ym→Tm→List SP→Prop} [t:dL L v en es xs R] (k: ∀a c e,v= .slice a xs.length c e→(a=none→xs= []∧c=some 0)→WC P F zB cd T L Q):WC P F zB cd T L Q:=fun H hH=>by
 obtain⟨a,c,e,h1,h2⟩:=zU.EA (t:=t) hH
 exact k a c e h1 h2 H hH
end
theorem Sub.Mo {α:Type} {en:α→List z0} {es:Nat} (he: ∀x,(en x).length=es) (h0:0<es) (i off:Nat) (L:List SP):Sub L (z3 (zX en es) (.slice (some (i,off)) 0 (some 0) es) ([]:List α)::L):=
 ⟨fun h s=>⟨fun _=>none,h,fun _=> .inl rfl,(fun _ _ h=>nomatch h),(fun _ _ h=>h),⟨.emp i off es,he,h0⟩,s⟩⟩
section
variable {P:Program} {F:zD} {H:Hp}
abbrev YS (a b:Nat):Nat:=(a+b)%18446744073709551616
theorem nJ (a b:Nat):YS a b≤18446744073709551615:=by have:=Nat.mod_lt (a+b) (show 0<18446744073709551616 by decide);unfold YS;omega
theorem WY {t:TypeId} {c:Bool} {x y:Nat} :vI P F H .add t c (.int .u64 (.lit (x:Int))) (.int .u64 (.lit (y:Int)))=some (.int .u64 (.lit ((YS x y:Nat):Int))):=by
 have e:(if UN .u64 ((x:Int)+y)then((x:Int)+y)else IntKind.u64.wrap ((x:Int)+y))=((YS x y:Nat):Int):=by
  have hw:IntKind.u64.wrap ((x:Int)+y)=((YS x y:Nat):Int):=by
   simp only [IntKind.wrap,IntKind.bits,IntKind.signed,Bool.false_and,Bool.false_eq_true,if_false]
   unfold YS
   rw [Int.natCast_emod,Int.natCast_add];rfl
  split
  ·rename_i h;exact(jq (k:= .u64) h).symm.trans hw
  exact hw
 have hk:gN .u64 .u64=true:=rfl
 rw [←e]
 cases hb:UN .u64 ((x:Int)+y)<;>simp [vI,hk,jR,SInt.add,SInt.wrap,hb]
end
theorem Ht {P:Program} {F:zD} {ops:Array Oper} {m:List It} {T:Tm} {L R:List SP} {Q:Tm→List SP→Prop} {i n:Nat} {cs:List z0} [t:Tk L zC i cs R] (f:Nat→z0) (hn:cs.length=n) (e: ∀j,j<cs.length→cs[j]? =some (f j)) (k:WK P F ops m T (z3 zO i (n,f)::R) Q):WK P F ops m T L Q:=by subst hn;exact Nd f e k
theorem QA {P:Program} {F:zD} {ops:Array Oper} {m:List It} {T:Tm} {d:Option Tmp} {L:List SP} {Q:Tm→List SP→Prop} {v w:z0} (e:v=w) (k:WK P F ops m (zp T d w) L Q):WK P F ops m (zp T d v) L Q:=by subst e;exact k
theorem Sat.perm {L M:List SP} (p:L.Perm M): ∀ {h:q7},Sat L h→Sat M h:=by
 induction p with
 |nil=>intro h s;exact s
 |cons x _ ih=>intro h s;exact s.cons (fun _ e=>e) fun _ e=>ih e
 |swap x y l=>intro h s;exact s.swap
 |trans _ _ XZ Xa=>intro h s;exact Xa (XZ s)
def zL {β:Type} (K:β→SP) (_:Nat) (x:List Nat×(Nat→β)):SP:=Sat (x.1.map fun s=>K (x.2 s))
section
variable {β:Type} {K:β→SP} {b:Nat} {l:List Nat} {f g:Nat→β} {s:Nat} {R:List SP}
theorem vF (hs:s ∈ l):Sub (z3 (zL K) b (l,f)::R) (K (f s)::z3 (zL K) b (l.erase s,f)::R):=⟨fun h x=>by
 have e:Sat ((l.map fun s=>K (f s))++R) h:=QJ x
 have p:(l.map fun s=>K (f s)).Perm (K (f s)::((l.erase s).map fun s=>K (f s))):=(List.perm_cons_erase hs).map _
 have e2:Sat ((K (f s)::((l.erase s).map fun s=>K (f s)))++R) h:=Sat.perm (p.append_right R) e
 exact e2.cons (fun _ e=>e) fun _ e=>qo e⟩
theorem jJ (hs:s ∈ l) (hd:l.Nodup) (hg: ∀j,j ∈ l→j≠s→g j=f j):Sub (K (g s)::z3 (zL K) b (l.erase s,f)::R) (z3 (zL K) b (l,g)::R):=⟨fun h x=>by
 have e:((l.erase s).map fun s=>K (f s))=(l.erase s).map fun s=>K (g s):=by
  refine List.map_congr_left fun j hj=> ?_
  obtain⟨h1,h2⟩:=(List.Nodup.mem_erase_iff hd).1 hj
  rw [hg j h2 h1]
 have e2:Sat ((K (g s)::((l.erase s).map fun s=>K (g s)))++R) h:=x.cons (fun _ e=>e) fun k y=>by
  rw [←e];exact QJ y
 have p:(l.map fun s=>K (g s)).Perm (K (g s)::((l.erase s).map fun s=>K (g s))):=(List.perm_cons_erase hs).map _
 exact qo (Sat.perm (p.symm.append_right R) e2)⟩
theorem GN (hg: ∀j,j ∈ l→g j=f j): ∀h,zL K b (l,f) h→zL K b (l,g) h:=fun h x=>by
 have e:(l.map fun s=>K (f s))=l.map fun s=>K (g s):=List.map_congr_left fun j hj=>by rw [hg j hj]
 show Sat (l.map fun s=>K (g s)) h
 rw [←e];exact x
theorem QL:Sub R (z3 (zL K) b ([],f)::R):=⟨fun h s=>⟨fun _=>none,h,fun _=> .inl rfl,(fun _ _ h=>nomatch h),(fun _ _ h=>h),trivial,s⟩⟩
theorem Zn {n:Nat} (hg: ∀j,j<n→g j=f j):Sub (K (g n)::z3 (zL K) b (List.range n,f)::R) (z3 (zL K) b (List.range (n+1),g)::R):=⟨fun h x=>by
 have e2:Sat ((K (g n)::((List.range n).map fun s=>K (g s)))++R) h:=x.cons (fun _ e=>e) fun k y=>QJ (y.cons (q:=z3 (zL K) b (List.range n,g)) (fun f e=>GN (fun j hj=>hg j (List.mem_range.1 hj)) f e) fun _ e=>e)
 refine qo (L:=(List.range (n+1)).map fun s=>K (g s)) (Sat.perm ?_ e2)
 rw [List.range_succ,List.map_append]
 exact(List.perm_append_singleton _ _).symm.append_right R⟩
end
theorem wJ {s n:Nat} (h:s<n):s ∈ List.range n:=List.mem_range.2 h
section
variable {P:Program} {F:zD} {zB:yy} {ops:Array Oper} {o:Oper} {l:List Oper} {T:Tm} {L:List SP} {Q:Tm→List SP→Prop}
theorem zU.tk5 {κ1 α1:Type} {K1:κ1→α1→SP} {a1:κ1} {x1:α1} {κ2 α2:Type} {K2:κ2→α2→SP} {a2:κ2} {x2:α2} {κ3 α3:Type} {K3:κ3→α3→SP} {a3:κ3} {x3:α3} {κ4 α4:Type} {K4:κ4→α4→SP} {a4:κ4} {x4:α4} {κ5 α5:Type} {K5:κ5→α5→SP} {a5:κ5} {x5:α5} {L R1 R2 R3 R4 R:List SP} {H:Hp} [t1:Tk L K1 a1 x1 R1] [t2:Tk R1 K2 a2 x2 R2] [t3:Tk R2 K3 a3 x3 R3] [t4:Tk R3 K4 a4 x4 R4] [t5:Tk R4 K5 a5 x5 R] (h:zU L H):zU (z3 K1 a1 x1::z3 K2 a2 x2::z3 K3 a3 x3::z3 K4 a4 x4::z3 K5 a5 x5::R) H:=⟨h.ok,(t1.h _ h.s).cons (fun _ e=>e) fun _ e=>(t2.h _ e).cons (fun _ e=>e) fun _ e=>(t3.h _ e).cons (fun _ e=>e) fun _ e=>(t4.h _ e).cons (fun _ e=>e) t5.h⟩
theorem IJ {f:FuncId} {zC0:List z0} {κ1 α1:Type} {K1:κ1→α1→SP} {a1:κ1} {x1:α1} {κ2 α2:Type} {K2:κ2→α2→SP} {a2:κ2} {x2:α2} {κ3 α3:Type} {K3:κ3→α3→SP} {a3:κ3} {x3:α3} {κ4 α4:Type} {K4:κ4→α4→SP} {a4:κ4} {x4:α4} {κ5 α5:Type} {K5:κ5→α5→SP} {a5:κ5} {x5:α5} {R1 R2 R3 R4 R:List SP} {Q':z0→List SP→Prop} [t1:Tk L K1 a1 x1 R1] [t2:Tk R1 K2 a2 x2 R2] [t3:Tk R2 K3 a3 x3 R3] [t4:Tk R3 K4 a4 x4 R4] [t5:Tk R4 K5 a5 x5 R] (hc:SW P F zB f zC0 (z3 K1 a1 x1::z3 K2 a2 x2::z3 K3 a3 x3::z3 K4 a4 x4::z3 K5 a5 x5::R) Q')
 (hw:zP ops T o=some true) (ha: ∀H,yd P F T H o=some (.call f zC0)) (k: ∀v L',Q' v L'→WO P F zB ops l (zp T o.dst v) L' Q):WO P F zB ops (o::l) T L Q:=
 qZ (fun H hH=>hc H hH.tk5) hw ha k
theorem zU.tk6 {κ1 α1:Type} {K1:κ1→α1→SP} {a1:κ1} {x1:α1} {κ2 α2:Type} {K2:κ2→α2→SP} {a2:κ2} {x2:α2} {κ3 α3:Type} {K3:κ3→α3→SP} {a3:κ3} {x3:α3} {κ4 α4:Type} {K4:κ4→α4→SP} {a4:κ4} {x4:α4} {κ5 α5:Type} {K5:κ5→α5→SP} {a5:κ5} {x5:α5} {κ6 α6:Type} {K6:κ6→α6→SP} {a6:κ6} {x6:α6} {L R1 R2 R3 R4 R5 R:List SP} {H:Hp} [t1:Tk L K1 a1 x1 R1] [t2:Tk R1 K2 a2 x2 R2] [t3:Tk R2 K3 a3 x3 R3] [t4:Tk R3 K4 a4 x4 R4] [t5:Tk R4 K5 a5 x5 R5] [t6:Tk R5 K6 a6 x6 R] (h:zU L H):zU (z3 K1 a1 x1::z3 K2 a2 x2::z3 K3 a3 x3::z3 K4 a4 x4::z3 K5 a5 x5::z3 K6 a6 x6::R) H:=⟨h.ok,(t1.h _ h.s).cons (fun _ e=>e) fun _ e=>(t2.h _ e).cons (fun _ e=>e) fun _ e=>(t3.h _ e).cons (fun _ e=>e) fun _ e=>(t4.h _ e).cons (fun _ e=>e) fun _ e=>(t5.h _ e).cons (fun _ e=>e) t6.h⟩
theorem IK {f:FuncId} {zC0:List z0} {κ1 α1:Type} {K1:κ1→α1→SP} {a1:κ1} {x1:α1} {κ2 α2:Type} {K2:κ2→α2→SP} {a2:κ2} {x2:α2} {κ3 α3:Type} {K3:κ3→α3→SP} {a3:κ3} {x3:α3} {κ4 α4:Type} {K4:κ4→α4→SP} {a4:κ4} {x4:α4} {κ5 α5:Type} {K5:κ5→α5→SP} {a5:κ5} {x5:α5} {κ6 α6:Type} {K6:κ6→α6→SP} {a6:κ6} {x6:α6} {R1 R2 R3 R4 R5 R:List SP} {Q':z0→List SP→Prop} [t1:Tk L K1 a1 x1 R1] [t2:Tk R1 K2 a2 x2 R2] [t3:Tk R2 K3 a3 x3 R3] [t4:Tk R3 K4 a4 x4 R4] [t5:Tk R4 K5 a5 x5 R5] [t6:Tk R5 K6 a6 x6 R] (hc:SW P F zB f zC0 (z3 K1 a1 x1::z3 K2 a2 x2::z3 K3 a3 x3::z3 K4 a4 x4::z3 K5 a5 x5::z3 K6 a6 x6::R) Q')
 (hw:zP ops T o=some true) (ha: ∀H,yd P F T H o=some (.call f zC0)) (k: ∀v L',Q' v L'→WO P F zB ops l (zp T o.dst v) L' Q):WO P F zB ops (o::l) T L Q:=
 qZ (fun H hH=>hc H hH.tk6) hw ha k
theorem zU.tk7 {κ1 α1:Type} {K1:κ1→α1→SP} {a1:κ1} {x1:α1} {κ2 α2:Type} {K2:κ2→α2→SP} {a2:κ2} {x2:α2} {κ3 α3:Type} {K3:κ3→α3→SP} {a3:κ3} {x3:α3} {κ4 α4:Type} {K4:κ4→α4→SP} {a4:κ4} {x4:α4} {κ5 α5:Type} {K5:κ5→α5→SP} {a5:κ5} {x5:α5} {κ6 α6:Type} {K6:κ6→α6→SP} {a6:κ6} {x6:α6} {κ7 α7:Type} {K7:κ7→α7→SP} {a7:κ7} {x7:α7} {L R1 R2 R3 R4 R5 R6 R:List SP} {H:Hp} [t1:Tk L K1 a1 x1 R1] [t2:Tk R1 K2 a2 x2 R2] [t3:Tk R2 K3 a3 x3 R3] [t4:Tk R3 K4 a4 x4 R4] [t5:Tk R4 K5 a5 x5 R5] [t6:Tk R5 K6 a6 x6 R6] [t7:Tk R6 K7 a7 x7 R] (h:zU L H):zU (z3 K1 a1 x1::z3 K2 a2 x2::z3 K3 a3 x3::z3 K4 a4 x4::z3 K5 a5 x5::z3 K6 a6 x6::z3 K7 a7 x7::R) H:=⟨h.ok,(t1.h _ h.s).cons (fun _ e=>e) fun _ e=>(t2.h _ e).cons (fun _ e=>e) fun _ e=>(t3.h _ e).cons (fun _ e=>e) fun _ e=>(t4.h _ e).cons (fun _ e=>e) fun _ e=>(t5.h _ e).cons (fun _ e=>e) fun _ e=>(t6.h _ e).cons (fun _ e=>e) t7.h⟩
theorem IL {f:FuncId} {zC0:List z0} {κ1 α1:Type} {K1:κ1→α1→SP} {a1:κ1} {x1:α1} {κ2 α2:Type} {K2:κ2→α2→SP} {a2:κ2} {x2:α2} {κ3 α3:Type} {K3:κ3→α3→SP} {a3:κ3} {x3:α3} {κ4 α4:Type} {K4:κ4→α4→SP} {a4:κ4} {x4:α4} {κ5 α5:Type} {K5:κ5→α5→SP} {a5:κ5} {x5:α5} {κ6 α6:Type} {K6:κ6→α6→SP} {a6:κ6} {x6:α6} {κ7 α7:Type} {K7:κ7→α7→SP} {a7:κ7} {x7:α7} {R1 R2 R3 R4 R5 R6 R:List SP} {Q':z0→List SP→Prop} [t1:Tk L K1 a1 x1 R1] [t2:Tk R1 K2 a2 x2 R2] [t3:Tk R2 K3 a3 x3 R3] [t4:Tk R3 K4 a4 x4 R4] [t5:Tk R4 K5 a5 x5 R5] [t6:Tk R5 K6 a6 x6 R6] [t7:Tk R6 K7 a7 x7 R] (hc:SW P F zB f zC0 (z3 K1 a1 x1::z3 K2 a2 x2::z3 K3 a3 x3::z3 K4 a4 x4::z3 K5 a5 x5::z3 K6 a6 x6::z3 K7 a7 x7::R) Q')
 (hw:zP ops T o=some true) (ha: ∀H,yd P F T H o=some (.call f zC0)) (k: ∀v L',Q' v L'→WO P F zB ops l (zp T o.dst v) L' Q):WO P F zB ops (o::l) T L Q:=
 qZ (fun H hH=>hc H hH.tk7) hw ha k
theorem zU.tk8 {κ1 α1:Type} {K1:κ1→α1→SP} {a1:κ1} {x1:α1} {κ2 α2:Type} {K2:κ2→α2→SP} {a2:κ2} {x2:α2} {κ3 α3:Type} {K3:κ3→α3→SP} {a3:κ3} {x3:α3} {κ4 α4:Type} {K4:κ4→α4→SP} {a4:κ4} {x4:α4} {κ5 α5:Type} {K5:κ5→α5→SP} {a5:κ5} {x5:α5} {κ6 α6:Type} {K6:κ6→α6→SP} {a6:κ6} {x6:α6} {κ7 α7:Type} {K7:κ7→α7→SP} {a7:κ7} {x7:α7} {κ8 α8:Type} {K8:κ8→α8→SP} {a8:κ8} {x8:α8} {L R1 R2 R3 R4 R5 R6 R7 R:List SP} {H:Hp} [t1:Tk L K1 a1 x1 R1] [t2:Tk R1 K2 a2 x2 R2] [t3:Tk R2 K3 a3 x3 R3] [t4:Tk R3 K4 a4 x4 R4] [t5:Tk R4 K5 a5 x5 R5] [t6:Tk R5 K6 a6 x6 R6] [t7:Tk R6 K7 a7 x7 R7] [t8:Tk R7 K8 a8 x8 R] (h:zU L H):zU (z3 K1 a1 x1::z3 K2 a2 x2::z3 K3 a3 x3::z3 K4 a4 x4::z3 K5 a5 x5::z3 K6 a6 x6::z3 K7 a7 x7::z3 K8 a8 x8::R) H:=⟨h.ok,(t1.h _ h.s).cons (fun _ e=>e) fun _ e=>(t2.h _ e).cons (fun _ e=>e) fun _ e=>(t3.h _ e).cons (fun _ e=>e) fun _ e=>(t4.h _ e).cons (fun _ e=>e) fun _ e=>(t5.h _ e).cons (fun _ e=>e) fun _ e=>(t6.h _ e).cons (fun _ e=>e) fun _ e=>(t7.h _ e).cons (fun _ e=>e) t8.h⟩
theorem IM {f:FuncId} {zC0:List z0} {κ1 α1:Type} {K1:κ1→α1→SP} {a1:κ1} {x1:α1} {κ2 α2:Type} {K2:κ2→α2→SP} {a2:κ2} {x2:α2} {κ3 α3:Type} {K3:κ3→α3→SP} {a3:κ3} {x3:α3} {κ4 α4:Type} {K4:κ4→α4→SP} {a4:κ4} {x4:α4} {κ5 α5:Type} {K5:κ5→α5→SP} {a5:κ5} {x5:α5} {κ6 α6:Type} {K6:κ6→α6→SP} {a6:κ6} {x6:α6} {κ7 α7:Type} {K7:κ7→α7→SP} {a7:κ7} {x7:α7} {κ8 α8:Type} {K8:κ8→α8→SP} {a8:κ8} {x8:α8} {R1 R2 R3 R4 R5 R6 R7 R:List SP} {Q':z0→List SP→Prop} [t1:Tk L K1 a1 x1 R1] [t2:Tk R1 K2 a2 x2 R2] [t3:Tk R2 K3 a3 x3 R3] [t4:Tk R3 K4 a4 x4 R4] [t5:Tk R4 K5 a5 x5 R5] [t6:Tk R5 K6 a6 x6 R6] [t7:Tk R6 K7 a7 x7 R7] [t8:Tk R7 K8 a8 x8 R] (hc:SW P F zB f zC0 (z3 K1 a1 x1::z3 K2 a2 x2::z3 K3 a3 x3::z3 K4 a4 x4::z3 K5 a5 x5::z3 K6 a6 x6::z3 K7 a7 x7::z3 K8 a8 x8::R) Q')
 (hw:zP ops T o=some true) (ha: ∀H,yd P F T H o=some (.call f zC0)) (k: ∀v L',Q' v L'→WO P F zB ops l (zp T o.dst v) L' Q):WO P F zB ops (o::l) T L Q:=
 qZ (fun H hH=>hc H hH.tk8) hw ha k
end
section
variable {α:Type} {en:α→List z0} {es:Nat} {xs ys:List α} {v w:z0}
theorem C6 {f:q7} (s:zX en es v xs f) (wY:xs≠ []): ∃i off c,v= .slice (some (i,off)) xs.length c es∧ ∀k,c=some k→xs.length≤k:=by
 have hlen:=j9 s
 obtain⟨h1,h2,h3⟩:=s
 have wY:xs.flatMap en≠ []:=by
  intro e
  cases xs with
  |nil=>exact wY rfl
  |cons x l=>
   have:(en x).length=0:=by
    rw [List.flatMap_cons,List.append_eq_nil_iff]at e
    rw [e.1];rfl
   rw [h2]at this;omega
 generalize xs.flatMap en=cs at h1 wY
 cases h1 with
 |nil e es=>exact absurd rfl wY
 |emp i off es=>exact absurd rfl wY
 |own i off len n es f cs hr hn hc=>
  have hlen:len=xs.length:=hlen
  subst hlen
  exact⟨i,off,none,rfl,fun k h=>by cases h⟩
 |part i off len cap n es f cs hr hn hl hc=>
  have hlen:len=xs.length:=hlen
  subst hlen
  exact⟨i,off,some cap,rfl,fun k h=>by cases h;exact hl⟩
theorem Aa (h: ∀x,(en x).length=es): ∀(n:Nat) (xs:List α),(xs.take n).flatMap en=(xs.flatMap en).take (n*es):=by
 intro n
 induction n with
 |zero=>intro xs;simp
 |succ n ih=>
  intro xs
  cases xs with
  |nil=>simp
  |cons x l=>
   rw [List.take_succ_cons,List.flatMap_cons,List.flatMap_cons,ih,List.take_append,h,List.take_of_length_le (l:=en x) (by rw [h,Nat.succ_mul];omega),show(n+1)*es-es=n*es by rw [Nat.succ_mul];omega]
theorem oy (h: ∀x,(en x).length=es): ∀(n:Nat) (xs:List α),(xs.drop n).flatMap en=(xs.flatMap en).drop (n*es):=by
 intro n
 induction n with
 |zero=>intro xs;simp
 |succ n ih=>
  intro xs
  cases xs with
  |nil=>simp
  |cons x l=>
   rw [List.drop_succ_cons,List.flatMap_cons,ih,List.drop_append,h,List.drop_of_length_le (l:=en x) (by rw [h,Nat.succ_mul];omega),List.nil_append,show(n+1)*es-es=n*es by rw [Nat.succ_mul];omega]
theorem Vw {f:Nat→z0} {o a b:Nat} (h:a≤b):(zj f o b).take a=zj f o a:=by
 apply List.ext_getElem?
 intro j
 by_cases hj:j<a
 ·rw [List.getElem?_take_of_lt hj,y7 _ _ _ _ (by omega),y7 _ _ _ _ hj]
 rw [List.getElem?_eq_none (by rw [List.length_take,y8];omega),List.getElem?_eq_none (by rw [y8];omega)]
theorem Yt {f:Nat→z0} {o a b:Nat} (h:a≤b):(zj f o b).drop a=zj f (o+a) (b-a):=by
 apply List.ext_getElem?
 intro j
 rw [List.getElem?_drop]
 by_cases hj:j<b-a
 ·rw [y7 _ _ _ _ (by omega),y7 _ _ _ _ hj,Nat.add_assoc]
 rw [List.getElem?_eq_none (by rw [y8];omega),List.getElem?_eq_none (by rw [y8];omega)]
theorem Mm {f:q7} {i off len:Nat} {c:Option Nat} {n:Nat} (s:zX en es (.slice (some (i,off)) len c es) xs f) (hn:n≤xs.length):zX en es (.slice (some (i,off)) n c es) (xs.take n) f:=by
 have hlen:len=xs.length:=j9 s
 obtain⟨h1,h2,h3⟩:=s
 refine⟨?_,h2,h3⟩
 rw [Aa h2]
 generalize xs.flatMap en=cs at h1
 cases h1 with
 |emp i off es=>
  have:n=0:=by omega
  subst this
  rw [Nat.zero_mul,List.take_zero];exact .emp _ _ _
 |own i off len m es g cs hr hm hc=>
  have hk:n*es≤len*es:=Nat.mul_le_mul_right _ (by omega)
  exact .own i off n m es g _ hr (by omega) (by rw [hc,Vw hk])
 |part i off len cap m es g cs hr hm hl hc=>
  have hk:n*es≤len*es:=Nat.mul_le_mul_right _ (by omega)
  exact .part i off n cap m es g _ hr hm (by omega) (by rw [hc,Vw hk])
def I1 (i off len:Nat) (c:Option Nat) (es a:Nat):z0:=match c with
 |some k=>bif Nat.beq k a then .slice (some (i,off)) (len-a) (some (k-a)) es else .slice (some (i,off+a*es)) (len-a) (some (k-a)) es
 |none=> .slice (some (i,off+a*es)) (len-a) none es
theorem Mn {f:q7} {i off len:Nat} {c:Option Nat} {n:Nat} (s:zX en es (.slice (some (i,off)) len c es) xs f) (hn:n≤xs.length):zX en es (I1 i off len c es n) (xs.drop n) f:=by
 have hlen:len=xs.length:=j9 s
 obtain⟨h1,h2,h3⟩:=s
 refine⟨?_,h2,h3⟩
 rw [oy h2]
 generalize xs.flatMap en=cs at h1
 cases h1 with
 |emp i off es=>
  have:n=0:=by omega
  subst this
  rw [List.drop_nil]
  exact .emp _ _ _
 |own i off len m es g cs hr hm hc=>
  have hk:n*es≤len*es:=Nat.mul_le_mul_right _ (by omega)
  have e:(len-n)*es=len*es-n*es:=Nat.sub_mul _ _ _
  exact .own i (off+n*es) (len-n) m es g _ hr (by omega) (by rw [hc,Yt hk,e])
 |part i off len cap m es g cs hr hm hl hc=>
  have hk:n*es≤len*es:=Nat.mul_le_mul_right _ (by omega)
  have XR:n*es≤cap*es:=Nat.mul_le_mul_right _ (by omega)
  have e:(len-n)*es=len*es-n*es:=Nat.sub_mul _ _ _
  have e2:(cap-n)*es=cap*es-n*es:=Nat.sub_mul _ _ _
  unfold I1
  dsimp only
  cases hb:Nat.beq cap n with
  |true=>
   have:=Nat.eq_of_beq_eq_true hb
   have a1:len-n=0:=by omega
   have a2:cap-n=0:=by omega
   have a3:cs.drop (n*es)= []:=by rw [hc,Yt hk,←e,a1,Nat.zero_mul];rfl
   rw [a3,a1,a2,cond_true]
   exact .emp _ _ _
  |false=>exact .part i (off+n*es) (len-n) (cap-n) m es g _ hr (by omega) (by omega) (by rw [hc,Yt hk,e])
end
section
variable {P:Program} {F:zD} {zB:yy} {ops:Array Oper} {o:Oper} {l:List Oper} {T:Tm} {H:Hp} {L R R2:List SP} {Q:Tm→List SP→Prop} {α:Type} {en:α→List z0} {es:Nat} {xs ys:List α} {v w:z0}
theorem eu {t:TypeId} {x lo:Operand} {i off len:Nat} {c:Option Nat} {z:Int} [hs:SL P t es] (ho:o.op= .slice t x (some lo) none none) (hx:zK T x=some (.slice (some (i,off)) len c es)) (hl:zK T lo=some (.int .i64 (.lit z))) (h0:0≤z) (uE:z≤(len:Nat)) (hc: ∀k,c=some k→len≤k):
 yd P F T H o=some (.val (I1 i off len c es z.toNat) H):=by
 obtain⟨e,g1,g2⟩:=hs.h
 obtain⟨a,rfl⟩: ∃a:Nat,z=a:=⟨z.toNat,by omega⟩
 have n1:uj (.int .i64 (.lit (a:Int)))=some a:=rfl
 have b1:Nat.ble a len=true:=Nat.ble_eq_true_of_le (by omega)
 have b2:Nat.beq es es=true:=Nat.beq_refl es
 rw [show((a:Nat):Int).toNat=a from rfl]
 cases c with
 |none=>
  cases hb:Nat.beq len a with
  |true=>
   have:=Nat.eq_of_beq_eq_true hb
   have a1:len-a=0:=by omega
   have b3:Nat.ble len len=true:=Nat.ble_eq_true_of_le (Nat.le_refl _)
   simp only [yd,ho,wW,Option.map,Option.getD,hx,hl,vf,g1,g2,qQ,Y0,vP,vJ,n1,b1,b2,b3,hb,a1,I1,cond_true,cond_false,zN.qK]
  |false=>
   have b3:Nat.ble len len=true:=Nat.ble_eq_true_of_le (Nat.le_refl _)
   simp only [yd,ho,wW,Option.map,Option.getD,hx,hl,vf,g1,g2,qQ,Y0,vP,vJ,n1,b1,b2,b3,hb,I1,cond_true,cond_false,zN.qK]
 |some k=>
  have b3:Nat.ble len k=true:=Nat.ble_eq_true_of_le (hc k rfl)
  cases hb:Nat.beq k a<;>simp only [yd,ho,wW,Option.map,Option.getD,hx,hl,vf,g1,g2,qQ,Y0,vP,vJ,n1,b1,b2,b3,hb,I1,cond_true,cond_false,zN.qK]
theorem N4 {c:Call} {t:TypeId} {ts:List TypeId} {x:Operand} {sz:Nat} [hs:SL P t sz] (Ci:zX en es w ys fun k=>H.t.get k) (ho:o.op= .call c) (hc:c.callee= .builtin .len) (ht:c.argTypes.toList=t::ts) (ha:c.args.toList= [x]) (hx:zK T x=some w):
 yd P F T H o=some (.val (.int .i64 (.lit ((ys.length:Nat):Int))) H):=by
 obtain⟨a,c,e,rfl⟩:=Zh Ci
 exact vD ho hc ht ha hx
theorem Np {c:Call} {ts:List TypeId} {t xt:TypeId} {a b:Operand} [AP P t es] [AP P xt es] [t1:dL L v en es xs R] (Ci: ∀H,zU L H→zX en es w ys fun k=>H.t.get k) (hw:zP ops T o=some true) (ho:o.op= .call c) (hc:c.callee= .builtin .append) (ht:c.argTypes.toList=t::xt::ts) (ha:c.args.toList= [a,b]) (hx:zK T a=some v) (hy:zK T b=some w)
 (hlen:xs.length+ys.length≤1048576) (vk: ∀y,yf (en y)=true)
 (k: ∀a c e,WO P F zB ops l (zp T o.dst (.slice a (xs.length+ys.length) c e)) (z3 (zX en es) (.slice a (xs.length+ys.length) c e) (xs++ys)::R) Q):WO P F zB ops (o::l) T L Q:=by
 intro H hH
 have dp:zU (z3 (zX en es) v xs::R) H:=⟨hH.ok,t1.h _ hH.s⟩
 replace Ci:=Ci H hH
 by_cases h0:ys= []
 ·subst h0
  have NA:zX en es v xs fun k=>H.t.get k:=by
   obtain⟨a,b,h1,h2,h3,h4,h5⟩:=dp.s
   exact Uu h2 h4
  obtain⟨p,q,e,rfl⟩:=Zh NA
  obtain⟨e1,FL,z,h1,h2,h3,h4,h5,h6⟩:=(inferInstance:AP P t es).h
  obtain⟨e2,_,_,k1,_⟩:=(inferInstance:AP P xt es).h
  obtain⟨g1,g3⟩:=VH Ci
  have b1:Nat.beq z.cells.length es=true:=by rw [h6];exact Nat.beq_refl es
  have b2:Nat.ble (xs.length+0) yi=true:=Nat.ble_eq_true_of_le (by show xs.length+0≤1048576;simpa using hlen)
  have b3:Nat.ble FL yi=true:=Nat.ble_eq_true_of_le h4
  have b4:Nat.beq 0 0=true:=rfl
  have kk:=k p q e H (by simpa using dp)
  refine qz hw (v:= .slice p xs.length q e) ?_ kk
  rw [List.length_nil]at g1 g3
  cases p with
  |none=>simp only [yd,ho,hc,ht,ha,wQ,hx,hy,yq,yc,uS,h1,k1,h2,h3,h5,g1,b1,b2,b3,Bool.and_true,cond_true,g3,b4]
  |some p=>cases q<;>simp only [yd,ho,hc,ht,ha,wQ,hx,hy,yq,yc,uS,h1,k1,h2,h3,h5,g1,b1,b2,b3,Bool.and_true,cond_true,g3,b4]
 obtain⟨i,q,cap,H',g1,g2,g3⟩:=Uf (P:=P) (F:=F) (t:=t) (xt:=xt) (a:=a) (b:=b) dp (VH Ci) h0 hlen ((vH _).2 fun u hu=>by
  obtain⟨y,_,hy⟩:=List.mem_flatMap.1 hu
  exact(vH _).1 (vk y) u hy)
 exact qz hw (g1 ho hc ht ha hx hy) (k _ _ _ H' g2)
theorem Nq {c:Call} {ts:List TypeId} {t xt:TypeId} {a b:Operand} {ee:Nat} {kk:IntKind} {n:Nat} [N5:AP P t es] (hxt: ∃k,yj P xt=some (.int k)) (hw:zP ops T o=some true) (ho:o.op= .call c) (hc:c.callee= .builtin .append) (ht:c.argTypes.toList=t::xt::ts) (ha:c.args.toList= [a,b]) (hx:zK T a=some (.slice none 0 (some 0) ee)) (hy:zK T b=some (.int kk (.lit (n:Nat))))
 (h0:0<n) (hn:n≤1024) (Yh:0<es) (hz: ∀e z,yj P t=some (.slice e)→zeroOf P e=some z→yf z.cells=true) (k: ∀i f,WO P F zB ops l (zp T o.dst (.slice (some (i,0)) n none es)) (z3 zO i (n*es,f)::L) Q):WO P F zB ops (o::l) T L Q:=by
 intro H hH
 obtain⟨e,FL,z,h1,h2,h3,h4,h5,h6⟩:=N5.h
 obtain⟨kn,k1⟩:=hxt
 have b1:Nat.beq z.cells.length es=true:=by rw [h6];exact Nat.beq_refl es
 have b2:Nat.blt 0 es=true:=by rw [Nat.blt_eq];exact Yh
 have b3:Nat.blt 0 ((n:Nat):Int).toNat=true:=by rw [Nat.blt_eq];exact h0
 have b4:Nat.ble ((n:Nat):Int).toNat 1024=true:=Nat.ble_eq_true_of_le hn
 have b5:Nat.ble FL yi=true:=Nat.ble_eq_true_of_le h4
 have b6:=hz e z h1 h5
 have NI:=hH.new (yR z.cells n)
 have hlen:(yR z.cells n).length=n*es:=by rw [gz,h6]
 have hf:=NI.toF
 rw [hlen]at hf
 refine qz hw (v:= .slice (some (H.next,0)) n none es) ?_ (k H.next _ _ hf)
 simp only [yd,ho,hc,ht,ha,wQ,hx,hy,yq,yc,uS,kR,h1,k1,h2,h3,h5,b1,b2,b3,b4,b5,b6,Bool.and_true,cond_true]
 rfl
end
theorem jl {P:Program} {F:zD} {zB:yy} {ops:Array Oper} {l:List Oper} {T:Tm} {L R:List SP} {Q:Tm→List SP→Prop} {κ α:Type} {K:κ→α→SP} {a:κ} {x:α} {p:Prop} [t:Tk L K a x R] (hu: ∀h,K a x h→p) (k:p→WO P F zB ops l T L Q):WO P F zB ops l T L Q:=fun H hH=>by
 obtain⟨a,b,h1,h2,h3,h4,h5⟩:=t.h _ hH.s
 exact k (hu _ h4) H hH
noncomputable section
inductive Fr where
 |seq (c:Code)
 |uD (id:Nat)
inductive St where
 |o (ops:Array Oper) (l:List Oper)
 |c (c:Code)
 |x (e:ym)
def Ep (P:Program) (F:zD) (T:Tm):Op→Option z0
 | .move x=>zK T x
 | .assign x=>zK T x
 | .nilCheck x=>match zK T x with
  |some (.ptr (some a))=>some (.ptr (some a))
  |some (.func f a b)=>some (.func f a b)
  |_=>none
 | .extract x n=>match zK T x with
  |some (.tuple vs)=>vs[n]?
  |_=>none
 | .pick c a b=>match zK T c with
  |some (.bool c)=>match c with
   |true=>zK T a
   |false=>zK T b
  |_=>none
 | .unOp op _ x=>match zK T x with
  |some a=>Xk F op a
  |none=>none
 | .makeFunc f a b=>match f,wQ T a.toList,wQ T b.toList with
  | .func f,some a,some b=>some (.func f a b)
  |_,_,_=>none
 | .makeInterface t x=>match zK T x,yj P t with
  |some _,some (.interface _)=>none
  |some v,some _=>some (.iface t v)
  |_,_=>none
 | .field t x n=>match zK T x,yj P t with
  |some (.agg cs),some (.struct fs)=>match fs[n]? with
   |some f=>Y9 P f.type cs f.offset
   |none=>none
  |_,_=>none
 | .binOp op _ x y _=>match zK T x,zK T y with
  |some (.int k (.lit a)),some (.int j (.lit b))=>match gN k j with
   |true=>match op with
    | .lss=>some (.bool (decide (a<b)))
    | .gtr=>some (.bool (decide (b<a)))
    | .leq=>some (.bool (decide (a≤b)))
    | .geq=>some (.bool (decide (b≤a)))
    | .eql=>some (.bool (decide (a=b)))
    | .neq=>some (.bool (decide (a≠b)))
    |_=>none
   |false=>none
  |_,_=>none
 |_=>none
theorem nL {P:Program} {F:zD} {T:Tm} {o:Oper} {v:z0} (h:Ep P F T o.op=some v) (H:Hp):yd P F T H o=some (.val v H):=by
 unfold yd
 generalize o.op=p at h
 cases p<;>(try (cases h;done))<;>dsimp only [Ep]at h ⊢
 case move x=>rw [h];rfl
 case assign x=>rw [h];rfl
 case pick c a b=>
  unfold xc
  split at h
  ·rename_i c0 hc
   rw [hc]
   cases c0<;>dsimp only at h ⊢ <;>simp only [cond_true,cond_false,h]<;>rfl
  cases h
 case nilCheck x=>
  unfold Zz
  split at h
  ·rename_i a ha;cases h;rw [ha]
  ·rename_i a ha;cases h;rw [ha]
  cases h
 case binOp op t x y yt=>
  unfold pN
  split at h
  ·rename_i k a j b hx hy
   rw [hx,hy]
   dsimp only
   split at h
   ·rename_i hk
    cases op<;>first|(cases h;done)|(cases h;(first|rw [Ui hk]|rw [Pg hk]|rw [Ph hk]|rw [pF hk]|rw [nu hk]|rw [uT hk]);rfl)
   cases h
  cases h
 case unOp op t x=>
  unfold cC
  split at h
  ·rename_i a ha;rw [ha];dsimp only;rw [h];rfl
  cases h
 case makeInterface t x=>
  unfold VD
  split at h
  ·cases h
  ·rename_i v d t' h1 h2
   cases h
   rw [h2]
   split
   ·rename_i e;cases e;exact(t' _ rfl).elim
   ·rename_i g1 g2;simp_all
   simp_all
  cases h
 case makeFunc f a b=>
  unfold xY
  split at h
  ·rename_i h1 h2;cases h;rw [h1,h2]
  cases h
 case field t x n=>
  unfold VC
  split at h
  ·rename_i h1 h2
   rw [h1,h2]
   dsimp only
   split at h
   ·rename_i h3;rw [h3];dsimp only;rw [h];rfl
   cases h
  cases h
 case extract x n=>
  unfold Zg
  split at h
  ·rename_i h1;rw [h1];dsimp only;rw [h];rfl
  cases h
section
variable (P:Program) (F:zD) (zB:yy)
def bS:List Fr→(ym→Tm→List SP→Prop)→ym→Tm→List SP→Prop
 | [],Q,e,T,L=>Q e T L
 | .seq c::st,Q,e,T,L=>match e with
  | .normal=>WC P F zB c T L (bS st Q)
  |e=>bS st Q e T L
 | .uD i::st,Q,e,T,L=>match e with
  | .exit j=>bif Nat.beq j i then bS st Q .normal T L else bS st Q (.exit j) T L
  |e=>bS st Q e T L
def nxF (st:List Fr) (Q:ym→Tm→List SP→Prop) (T:Tm) (L:List SP):Prop:=bS P F zB st Q .normal T L
def Vo:List Fr→ym→St×List Fr
 | [],e=>(.x e,[])
 | .seq c::st,e=>match e with
  | .normal=>(.c c,st)
  | .exit i=>Vo st (.exit i)
  | .ret=>Vo st .ret
 | .uD i::st,e=>match e with
  | .exit j=>match Nat.beq j i with
   |true=>Vo st .normal
   |false=>Vo st (.exit j)
  | .normal=>Vo st .normal
  | .ret=>Vo st .ret
def WM (s:St) (st:List Fr) (T:Tm) (L:List SP) (Q:ym→Tm→List SP→Prop):Prop:=match s with
 | .o ops l=>WO P F zB ops l T L (nxF P F zB st Q)
 | .c c=>WC P F zB c T L (bS P F zB st Q)
 | .x e=>bS P F zB st Q e T L
def nR:Nat→St×List Fr→Tm→Option ((St×List Fr)×Tm)
 |0,s,T=>some (s,T)
 |n+1,(s,st),T=>match s with
  | .o ops l=>match l with
   | []=>nR n (Vo st .normal) T
   |o::l=>match zP ops T o with
    |some true=>match Ep P F T o.op with
     |some v=>nR n (.o ops l,st) (zp T o.dst v)
     |none=>none
    |some false=>nR n (.o ops l,st) (zp T o.dst unit)
    |none=>none
  | .c c=>match c with
   | .seq a b=>nR n (.c a,.seq b::st) T
   | .region _ ops false=>nR n (.o ops ops.toList,st) T
   | .cond x a b=>match zK T x with
    |some (.bool true)=>nR n (.c a,st) T
    |some (.bool false)=>nR n (.c b,st) T
    |_=>none
   | .skip=>nR n (Vo st .normal) T
   | .exit i=>nR n (Vo st (.exit i)) T
   | .ret=>nR n (Vo st .ret) T
   | .block i b=>nR n (.c b,.uD i::st) T
   |_=>none
  | .x _=>none
end
section
variable {P:Program} {F:zD} {zB:yy} {ops:Array Oper} {l:List Oper} {T T':Tm} {L:List SP} {Q:ym→Tm→List SP→Prop} {st:List Fr} {s':St} {EE:List Fr}
theorem GF: ∀(st:List Fr) (e:ym),WM P F zB (Vo st e).1 (Vo st e).2 T L Q→bS P F zB st Q e T L:=by
 intro st
 induction st with
 |nil=>intro e h;exact h
 |cons f st ih=>
  intro e h
  cases f with
  |seq c=>cases e with
   |normal=>exact h
   |exit i=>exact ih _ h
   |ret=>exact ih _ h
  |uD i=>cases e with
   |normal=>exact ih _ h
   |exit j=>
    show cond (Nat.beq j i) _ _
    unfold Vo at h
    dsimp only at h
    split at h
    ·rename_i e;rw [e];exact ih _ h
    rename_i e;rw [e];exact ih _ h
   |ret=>exact ih _ h
theorem mK: ∀(n:Nat) (s:St) (st:List Fr) (T:Tm),nR P F n (s,st) T=some ((s',EE),T')→WM P F zB s' EE T' L Q→WM P F zB s st T L Q:=by
 intro n
 induction n with
 |zero=>intro s st T h k;cases h;exact k
 |succ n ih=>
  intro s st T h k
  cases s with
  |o ops l=>
   cases l with
   |nil=>exact zJ (GF st .normal (ih _ _ _ h k))
   |cons o l=>
    simp only [nR]at h
    split at h
    ·rename_i hw
     split at h
     ·rename_i v hv
      exact zo hw (nL hv) (ih _ _ _ h k)
     cases h
    ·rename_i hw;exact ZT hw (ih _ _ _ h k)
    cases h
  |c c=>
   cases c with
   |seq a b=>
    refine vj (mS (ih (.c a) (.seq b::st) T h k) fun e T L h=> ?_)
    cases e<;>exact h
   |region id ops d=>
    cases d with
    |false=>exact j8 (ih _ _ _ h k)
    |true=>cases h
   |cond x a b=>
    simp only [nR]at h
    split at h
    ·rename_i hx;exact mU hx (ih _ _ _ h k)
    ·rename_i hx;exact kS hx (ih _ _ _ h k)
    cases h
   |skip=>exact mT (GF st .normal (ih _ _ _ h k))
   |exit i=>exact Mf (GF st (.exit i) (ih _ _ _ h k))
   |ret=>exact xS (GF st .ret (ih _ _ _ h k))
   |block i b=>
    refine Fq (mS (ih (.c b) (.uD i::st) T h k) fun e T L h=> ?_)
    cases e<;>exact h
   |_=>cases h
  |x e=>cases h
end
end
noncomputable section
theorem J {α:Type} {a:α} :a=a:=rfl
abbrev Y:= @inferInstance.{0}
def Ko (ops:Array Oper) (T:Tm) (o:Oper):Option Op:=match zP ops T o with
 |some true=>some o.op
 |_=>none
def TN (T:Tm) (x:Operand):Option (Nat×Nat):=match zK T x with
 |some (.ptr (some (i,a)))=>some (i,a)
 |_=>none
def iu (ops:Array Oper) (T:Tm) (o:Oper):Option (TypeId×Nat×Nat):=match Ko ops T o with
 |some (.load t x)=>match TN T x with
  |some (i,a)=>some (t,i,a)
  |none=>none
 |_=>none
def XH (ops:Array Oper) (T:Tm) (o:Oper):Option (TypeId×Nat×Nat×Nat):=match Ko ops T o with
 |some (.fieldAddr t x n)=>match TN T x with
  |some (i,a)=>some (t,n,i,a)
  |none=>none
 |_=>none
def Xc (T:Tm) (x:Operand):Option Int:=match zK T x with
 |some (.int .i64 (.lit z))=>some z
 |_=>none
def P0 (ops:Array Oper) (T:Tm) (o:Oper):Option (BinOp×Int×Int):=match Ko ops T o with
 |some (.binOp op _ x y _)=>match Xc T x,Xc T y with
  |some a,some b=>some (op,a,b)
  |_,_=>none
 |_=>none
def TW (ops:Array Oper) (T:Tm) (o:Oper):Option (TypeId×Nat×Nat×z0):=match Ko ops T o with
 |some (.store t x y)=>match TN T x,zK T y with
  |some (i,a),some v=>some (t,i,a,v)
  |_,_=>none
 |_=>none
def XF (ops:Array Oper) (T:Tm) (o:Oper):Option (TypeId×List (Nat×z0)):=match Ko ops T o with
 |some (.build t parts)=>match partsOf T parts.toList with
  |some l=>some (t,l)
  |none=>none
 |_=>none
def iA (T:Tm) (o:Oper):Option z0:=match o.dst with
 |some d=>Tm.get d T
 |none=>none
section
variable {P:Program} {F:zD} {zB:yy} {ops:Array Oper} {o:Oper} {l:List Oper} {T T':Tm} {L R:List SP} {Q:Tm→List SP→Prop}
theorem jd {p:Op} (h:Ko ops T o=some p):zP ops T o=some true∧o.op=p:=by
 unfold Ko at h
 split at h
 ·rename_i e;cases h;exact⟨e,rfl⟩
 cases h
theorem se {x:Operand} {i a:Nat} (h:TN T x=some (i,a)):zK T x=some (.ptr (some (i,a))):=by
 unfold TN at h
 split at h
 ·rename_i e;cases h;exact e
 cases h
theorem D1 {x:Operand} {z:Int} (h:Xc T x=some z):zK T x=some (.int .i64 (.lit z)):=by
 unfold Xc at h
 split at h
 ·rename_i e;cases h;exact e
 cases h
theorem Y5 {t:TypeId} {i a:Nat} (h:iu ops T o=some (t,i,a)):zP ops T o=some true∧ ∃x,o.op= .load t x∧zK T x=some (.ptr (some (i,a))):=by
 unfold iu at h
 split at h
 ·rename_i t x e
  split at h
  ·rename_i e2;cases h;exact⟨(jd e).1,x,(jd e).2,se e2⟩
  cases h
 cases h
theorem CG {t:TypeId} {n i a:Nat} (h:XH ops T o=some (t,n,i,a)):zP ops T o=some true∧ ∃x,o.op= .fieldAddr t x n∧zK T x=some (.ptr (some (i,a))):=by
 unfold XH at h
 split at h
 ·rename_i t x n e
  split at h
  ·rename_i e2;cases h;exact⟨(jd e).1,x,(jd e).2,se e2⟩
  cases h
 cases h
theorem mO {op:BinOp} {a b:Int} (h:P0 ops T o=some (op,a,b)):zP ops T o=some true∧ ∃t x y yt,o.op= .binOp op t x y yt∧zK T x=some (.int .i64 (.lit a))∧zK T y=some (.int .i64 (.lit b)):=by
 unfold P0 at h
 split at h
 ·rename_i op t x y yt e
  split at h
  ·rename_i e2 e3;cases h;exact⟨(jd e).1,t,x,y,yt,(jd e).2,D1 e2,D1 e3⟩
  cases h
 cases h
theorem aB {t:TypeId} {i a:Nat} {v:z0} (h:TW ops T o=some (t,i,a,v)):zP ops T o=some true∧ ∃x y,o.op= .store t x y∧zK T x=some (.ptr (some (i,a)))∧zK T y=some v:=by
 unfold TW at h
 split at h
 ·rename_i t x y e
  split at h
  ·rename_i e2 e3;cases h;exact⟨(jd e).1,x,y,(jd e).2,se e2,e3⟩
  cases h
 cases h
theorem BZ {t:TypeId} {pl:List (Nat×z0)} (h:XF ops T o=some (t,pl)):zP ops T o=some true∧ ∃parts,o.op= .build t parts∧partsOf T parts.toList=some pl:=by
 unfold XF at h
 split at h
 ·rename_i t parts e
  split at h
  ·rename_i e2;cases h;exact⟨(jd e).1,parts,(jd e).2,e2⟩
  cases h
 cases h
theorem kV {v:z0} (h:iA T o=some v): ∃d,o.dst=some d∧Tm.get d T=some v:=by
 unfold iA at h
 split at h
 ·rename_i d e;exact⟨d,e,h⟩
 cases h
variable {st:List Fr} {s':St} {EE:List Fr} {QE:ym→Tm→List SP→Prop}
theorem Z (n:Nat) (h:nR P F n (.o ops l,st) T=some ((s',EE),T')) (k:WM P F zB s' EE T' L QE):WO P F zB ops l T L (nxF P F zB st QE):=mK n (.o ops l) st T h k
theorem O (n:Nat) {c:Code} (h:nR P F n (.c c,st) T=some ((s',EE),T')) (k:WM P F zB s' EE T' L QE):WC P F zB c T L (bS P F zB st QE):=mK n (.c c) st T h k
theorem O0 (n:Nat) {c:Code} (h:nR P F n (.c c,[]) T=some ((s',EE),T')) (k:WM P F zB s' EE T' L QE):WC P F zB c T L QE:=mS (mK n (.c c) [] T h k) fun _ _ _ h=>h
theorem OX (n:Nat) {e:ym} (h:nR P F n (Vo st e) T=some ((s',EE),T')) (k:WM P F zB s' EE T' L QE):bS P F zB st QE e T L:=GF st e (mK n (Vo st e).1 (Vo st e).2 T h k)
theorem fa {t:TypeId} {n i a off:Nat} (h:XH ops T o=some (t,n,i,a)) (i1:FA P t n off) (k:WO P F zB ops l (zp T o.dst (.ptr (some (i,a+off)))) L Q):WO P F zB ops (o::l) T L Q:=by
 obtain⟨hw,x,ho,hx⟩:=CG h
 exact zo hw (fun _=>TQ ho hx) k
theorem ld {t:TypeId} {i a:Nat} {v:z0} {cs:List z0} (h:iu ops T o=some (t,i,a)) [L1 P t] (i1:Tk L zC i cs R) (hv:cs[a]? =some v) (k:WO P F zB ops l (zp T o.dst v) L Q):WO P F zB ops (o::l) T L Q:=by
 obtain⟨hw,x,ho,hx⟩:=Y5 h
 exact qJ hw (fun _ hH=>WH ho hx hv hH) k
theorem lN {t:TypeId} {i a n:Nat} {vs:List z0} {cs:List z0} (h:iu ops T o=some (t,i,a)) (i1:LN P t n) (i2:Tk L zC i cs R) (hv:(cs.drop a).take n=vs) (hl:Nat.ble (a+n) cs.length=true) (k:WO P F zB ops l (zp T o.dst (.agg vs)) L Q):WO P F zB ops (o::l) T L Q:=by
 obtain⟨hw,x,ho,hx⟩:=Y5 h
 exact qJ hw (fun _ hH=>Ca ho hx hv (Nat.le_of_ble_eq_true hl) hH) k
theorem lf {t:TypeId} {i a n:Nat} {v:z0} {f:Nat→z0} (h:iu ops T o=some (t,i,a)) [L1 P t] (i1:Tk L zO i (n,f) R) (hv:f a=v) (k:WO P F zB ops l (zp T o.dst v) L Q) (hl:a<n:=by omega):WO P F zB ops (o::l) T L Q:=by
 obtain⟨hw,x,ho,hx⟩:=Y5 h
 exact qJ hw (fun _ hH=>Jd ho hx hl hv hH) k
theorem lE {t:TypeId} {k0 a es:Nat} {α:Type} {v:z0} {en:α→List z0} {xs:List α} {x:α} {w:z0} (j:Nat) (h:iu ops T o=some (t,KH v,a)) [L1 P t] (i1:dL L v en es xs R) (ha:a=k0*es+KI v+j) (hk:xs[k0]? =some x) (hj:(en x)[j]? =some w) (k:WO P F zB ops l (zp T o.dst w) L Q):WO P F zB ops (o::l) T L Q:=by
 obtain⟨hw,y,ho,hx⟩:=Y5 h
 exact qJ hw (fun _ hH=>wX ho hx ha hk hj hH) k
theorem ad {a b:Int} (h:P0 ops T o=some (.add,a,b)) (k:WO P F zB ops l (zp T o.dst (.int .i64 (.lit (a+b)))) L Q) (hr: -9223372036854775808≤a+b∧a+b≤9223372036854775807:=by omega):WO P F zB ops (o::l) T L Q:=by
 obtain⟨hw,t,x,y,yt,ho,hx,hy⟩:=mO h
 exact zo hw (fun _=>zG ho hx hy (gJ hr)) k
theorem sb {a b:Int} (h:P0 ops T o=some (.sub,a,b)) (k:WO P F zB ops l (zp T o.dst (.int .i64 (.lit (a-b)))) L Q) (hr: -9223372036854775808≤a-b∧a-b≤9223372036854775807:=by omega):WO P F zB ops (o::l) T L Q:=by
 obtain⟨hw,t,x,y,yt,ho,hx,hy⟩:=mO h
 exact zo hw (fun _=>zG ho hx hy (aW hr)) k
theorem ml {a b:Int} (h:P0 ops T o=some (.mul,a,b)) (k:WO P F zB ops l (zp T o.dst (.int .i64 (.lit (a*b)))) L Q) (hr: -9223372036854775808≤a*b∧a*b≤9223372036854775807:=by omega):WO P F zB ops (o::l) T L Q:=by
 obtain⟨hw,t,x,y,yt,ho,hx,hy⟩:=mO h
 exact zo hw (fun _=>zG ho hx hy (gm hr)) k
theorem bu {t:TypeId} {pl:List (Nat×Nat)} {zc:List z0} {lp:List (Nat×z0)} (cs:List z0) (h:XF ops T o=some (t,lp)) (i1:SB P t pl) (i2:ZV P t (.agg zc)) (hf:Q7 (fun i=>pl[i]?) zc lp=some cs) (k:WO P F zB ops l (zp T o.dst (.agg cs)) L Q):WO P F zB ops (o::l) T L Q:=by
 obtain⟨hw,parts,ho,hp⟩:=BZ h
 exact zo hw (fun _=>bd ho hp hf) k
theorem sN {t:TypeId} {i a n:Nat} {v:z0} {cs ds:List z0} (h:TW ops T o=some (t,i,a,v)) (i1:SN P t n) (i2:Tk L zC i cs R) (hc:v.cells.length=n) (hv:yf v.cells=true) (hs:bI cs a v.cells=some ds) (k:WO P F zB ops l (zp T o.dst unit) (z3 zC i ds::R) Q):WO P F zB ops (o::l) T L Q:=by
 obtain⟨hw,x,y,ho,hx,hy⟩:=aB h
 exact TH hw ho hx hy hc hv hs k
theorem sO {t:TypeId} {i a:Nat} {v:z0} {cs ds:List z0} (h:TW ops T o=some (t,i,a,v)) [S1 P t] (i1:Tk L zC i cs R) (hc:v.cells= [v]) (hv:v.yK=true) (hs:DL cs a v=some ds) (k:WO P F zB ops l (zp T o.dst unit) (z3 zC i ds::R) Q):WO P F zB ops (o::l) T L Q:=by
 obtain⟨hw,x,y,ho,hx,hy⟩:=aB h
 exact z2O hw ho hx hy hc hv hs k
theorem sF {t:TypeId} {i a n:Nat} {v:z0} {f:Nat→z0} (h:TW ops T o=some (t,i,a,v)) [S1 P t] (i1:Tk L zO i (n,f) R) (hc:v.cells= [v]) (hv:v.yK=true) (k:WO P F zB ops l (zp T o.dst unit) (z3 zO i (n,upd f a v)::R) Q) (hl:a<n:=by omega):WO P F zB ops (o::l) T L Q:=by
 obtain⟨hw,x,y,ho,hx,hy⟩:=aB h
 exact TI hw ho hx hy hc hv hl k
variable {x:It} {m m':List It}
def BI (P:Program) (F:zD) (ops:Array Oper):Nat→List It→Tm→Option (List It×Tm)
 |0,m,T=>some (m,T)
 |n+1,m,T=>match m with
  | []=>none
  |x::m=>match zP ops T x.o with
   |some true=>match Ep P F T x.o.op with
    |some v=>BI P F ops n m (zp T x.o.dst v)
    |none=>none
   |some false=>BI P F ops n m (zp T x.o.dst unit)
   |none=>none
theorem Fc: ∀(n:Nat) (m:List It) (T:Tm),BI P F ops n m T=some (m',T')→WK P F ops m' T' L Q→WK P F ops m T L Q:=by
 intro n
 induction n with
 |zero=>intro m T h k;cases h;exact k
 |succ n ih=>
  intro m T h k
  cases m with
  |nil=>cases h
  |cons x m=>
   simp only [BI]at h
   split at h
   ·rename_i hw
    split at h
    ·rename_i v hv
     exact uc hw (nL hv) (ih _ _ h k)
    cases h
   ·rename_i hw;exact TC hw (ih _ _ h k)
   cases h
theorem ZK (n:Nat) (h:BI P F ops n m T=some (m',T')) (k:WK P F ops m' T' L Q):WK P F ops m T L Q:=Fc n m T h k
theorem zx {t:TypeId} {n i a off:Nat} (h:XH ops T x.o=some (t,n,i,a)) (i1:FA P t n off) (k:WK P F ops m (zp T x.o.dst (.ptr (some (i,a+off)))) L Q):WK P F ops (x::m) T L Q:=by
 obtain⟨hw,y,ho,hx⟩:=CG h
 exact uc hw (fun _=>TQ ho hx) k
theorem q9 {t:TypeId} {i a:Nat} {v:z0} {cs:List z0} (h:iu ops T x.o=some (t,i,a)) [L1 P t] (i1:Tk L zC i cs R) (hv:cs[a]? =some v) (k:WK P F ops m (zp T x.o.dst v) L Q):WK P F ops (x::m) T L Q:=by
 obtain⟨hw,y,ho,hx⟩:=Y5 h
 exact jM hw (fun _ hH=>WH ho hx hv hH) k
theorem kv {t:TypeId} {i a n:Nat} {vs:List z0} {cs:List z0} (h:iu ops T x.o=some (t,i,a)) (i1:LN P t n) (i2:Tk L zC i cs R) (hv:(cs.drop a).take n=vs) (hl:Nat.ble (a+n) cs.length=true) (k:WK P F ops m (zp T x.o.dst (.agg vs)) L Q):WK P F ops (x::m) T L Q:=by
 obtain⟨hw,y,ho,hx⟩:=Y5 h
 exact jM hw (fun _ hH=>Ca ho hx hv (Nat.le_of_ble_eq_true hl) hH) k
theorem YO {t:TypeId} {i a n:Nat} {v:z0} {f:Nat→z0} (h:iu ops T x.o=some (t,i,a)) [L1 P t] (i1:Tk L zO i (n,f) R) (hv:f a=v) (k:WK P F ops m (zp T x.o.dst v) L Q) (hl:a<n:=by omega):WK P F ops (x::m) T L Q:=by
 obtain⟨hw,y,ho,hx⟩:=Y5 h
 exact jM hw (fun _ hH=>Jd ho hx hl hv hH) k
theorem Gy {t:TypeId} {k0 a es:Nat} {α:Type} {v:z0} {en:α→List z0} {xs:List α} {y:α} {w:z0} (j:Nat) (h:iu ops T x.o=some (t,KH v,a)) [L1 P t] (i1:dL L v en es xs R) (ha:a=k0*es+KI v+j) (hk:xs[k0]? =some y) (hj:(en y)[j]? =some w) (k:WK P F ops m (zp T x.o.dst w) L Q):WK P F ops (x::m) T L Q:=by
 obtain⟨hw,y,ho,hx⟩:=Y5 h
 exact jM hw (fun _ hH=>wX ho hx ha hk hj hH) k
theorem PJ {a b:Int} (h:P0 ops T x.o=some (.add,a,b)) (k:WK P F ops m (zp T x.o.dst (.int .i64 (.lit (a+b)))) L Q) (hr: -9223372036854775808≤a+b∧a+b≤9223372036854775807:=by omega):WK P F ops (x::m) T L Q:=by
 obtain⟨hw,t,x,y,yt,ho,hx,hy⟩:=mO h
 exact uc hw (fun _=>zG ho hx hy (gJ hr)) k
theorem cz {t:TypeId} {pl:List (Nat×Nat)} {zc:List z0} {lp:List (Nat×z0)} (cs:List z0) (h:XF ops T x.o=some (t,lp)) (i1:SB P t pl) (i2:ZV P t (.agg zc)) (hf:Q7 (fun i=>pl[i]?) zc lp=some cs) (k:WK P F ops m (zp T x.o.dst (.agg cs)) L Q):WK P F ops (x::m) T L Q:=by
 obtain⟨hw,parts,ho,hp⟩:=BZ h
 exact uc hw (fun _=>bd ho hp hf) k
theorem kn (h1:WA P F ops [] T L) (h:Q T L):WK P F ops [] T L fun T L=>WA P F ops [] T L∧Q T L:=z8 ⟨h1,h⟩
theorem yN {t:TypeId} {i a:Nat} {v:z0} {cs:List z0} (h:iu ops T x.o=some (t,i,a)) [L1 P t] (i1:Tk L zC i cs R) (hv:cs[a]? =some v) (hd:iA T x.o=some v) (he:Da v=true) (k:WA P F ops m T L):WA P F ops (x::m) T L:=by
 obtain⟨hw,y,ho,hx⟩:=Y5 h
 obtain⟨d,h1,h2⟩:=kV hd
 exact va hw (fun _ hH=>WH ho hx hv hH) h1 h2 (z6 _ he) k
theorem jP {t:TypeId} {i a n:Nat} {v u:z0} {f:Nat→z0} (h:iu ops T x.o=some (t,i,a)) [L1 P t] (i1:Tk L zO i (n,f) R) (hv:f a=v) (hd:iA T x.o=some u) (he:Vi u v=true) (k:WA P F ops m T L) (hl:a<n:=by omega):WA P F ops (x::m) T L:=by
 obtain⟨hw,y,ho,hx⟩:=Y5 h
 obtain⟨d,h1,h2⟩:=kV hd
 exact va hw (fun _ hH=>Jd ho hx hl hv hH) h1 h2 he k
theorem Wm {t:TypeId} {i a n:Nat} {vs:List z0} {u:z0} {cs:List z0} (h:iu ops T x.o=some (t,i,a)) (i1:LN P t n) (i2:Tk L zC i cs R) (hv:(cs.drop a).take n=vs) (hl:Nat.ble (a+n) cs.length=true) (hd:iA T x.o=some u) (he:Vi u (.agg vs)=true) (k:WA P F ops m T L):WA P F ops (x::m) T L:=by
 obtain⟨hw,y,ho,hx⟩:=Y5 h
 obtain⟨d,h1,h2⟩:=kV hd
 exact va hw (fun _ hH=>Ca ho hx hv (Nat.le_of_ble_eq_true hl) hH) h1 h2 he k
theorem gv {u v:z0} (hw:Ko ops T x.o=some x.o.op) (hv:Ep P F T x.o.op=some v) (hd:iA T x.o=some u) (he:Vi u v=true) (k:WA P F ops m T L):WA P F ops (x::m) T L:=by
 obtain⟨d,h1,h2⟩:=kV hd
 exact uR (jd hw).1 (nL hv) h1 h2 he k
theorem lp2 {K:Nat} {T:Tm} {a0:Nat} {v0:z0} {a1:Nat} {v1:z0} (hl:T.len=K) (g0:Tm.get a0 T=some v0) (g1:Tm.get a1 T=some v1): ∃tg,T=Tm.put a1 v1 (Tm.put a0 v0 (Tm.U5 tg K)):=(Tm.shape K T hl).imp fun _ h=>by rw [←h,Tm.zr g0,Tm.zr g1]
theorem FV {K:Nat} {T:Tm} {a0:Nat} {v0:z0} {a1:Nat} {v1:z0} {a2:Nat} {v2:z0} (hl:T.len=K) (g0:Tm.get a0 T=some v0) (g1:Tm.get a1 T=some v1) (g2:Tm.get a2 T=some v2): ∃tg,T=Tm.put a2 v2 (Tm.put a1 v1 (Tm.put a0 v0 (Tm.U5 tg K))):=(Tm.shape K T hl).imp fun _ h=>by rw [←h,Tm.zr g0,Tm.zr g1,Tm.zr g2]
theorem GY {K:Nat} {T:Tm} {a0:Nat} {v0:z0} {a1:Nat} {v1:z0} {a2:Nat} {v2:z0} {a3:Nat} {v3:z0} (hl:T.len=K) (g0:Tm.get a0 T=some v0) (g1:Tm.get a1 T=some v1) (g2:Tm.get a2 T=some v2) (g3:Tm.get a3 T=some v3): ∃tg,T=Tm.put a3 v3 (Tm.put a2 v2 (Tm.put a1 v1 (Tm.put a0 v0 (Tm.U5 tg K)))):=(Tm.shape K T hl).imp fun _ h=>by rw [←h,Tm.zr g0,Tm.zr g1,Tm.zr g2,Tm.zr g3]
theorem I3 {K:Nat} {T:Tm} {a0:Nat} {v0:z0} {a1:Nat} {v1:z0} {a2:Nat} {v2:z0} {a3:Nat} {v3:z0} {a4:Nat} {v4:z0} (hl:T.len=K) (g0:Tm.get a0 T=some v0) (g1:Tm.get a1 T=some v1) (g2:Tm.get a2 T=some v2) (g3:Tm.get a3 T=some v3) (g4:Tm.get a4 T=some v4): ∃tg,T=Tm.put a4 v4 (Tm.put a3 v3 (Tm.put a2 v2 (Tm.put a1 v1 (Tm.put a0 v0 (Tm.U5 tg K))))):=(Tm.shape K T hl).imp fun _ h=>by rw [←h,Tm.zr g0,Tm.zr g1,Tm.zr g2,Tm.zr g3,Tm.zr g4]
theorem I4 {K:Nat} {T:Tm} {a0:Nat} {v0:z0} {a1:Nat} {v1:z0} {a2:Nat} {v2:z0} {a3:Nat} {v3:z0} {a4:Nat} {v4:z0} {a5:Nat} {v5:z0} (hl:T.len=K) (g0:Tm.get a0 T=some v0) (g1:Tm.get a1 T=some v1) (g2:Tm.get a2 T=some v2) (g3:Tm.get a3 T=some v3) (g4:Tm.get a4 T=some v4) (g5:Tm.get a5 T=some v5): ∃tg,T=Tm.put a5 v5 (Tm.put a4 v4 (Tm.put a3 v3 (Tm.put a2 v2 (Tm.put a1 v1 (Tm.put a0 v0 (Tm.U5 tg K)))))):=(Tm.shape K T hl).imp fun _ h=>by rw [←h,Tm.zr g0,Tm.zr g1,Tm.zr g2,Tm.zr g3,Tm.zr g4,Tm.zr g5]
theorem Xd {K:Nat} {T:Tm} {a0:Nat} {v0:z0} {a1:Nat} {v1:z0} {a2:Nat} {v2:z0} {a3:Nat} {v3:z0} {a4:Nat} {v4:z0} {a5:Nat} {v5:z0} {a6:Nat} {v6:z0} (hl:T.len=K) (g0:Tm.get a0 T=some v0) (g1:Tm.get a1 T=some v1) (g2:Tm.get a2 T=some v2) (g3:Tm.get a3 T=some v3) (g4:Tm.get a4 T=some v4) (g5:Tm.get a5 T=some v5) (g6:Tm.get a6 T=some v6): ∃tg,T=Tm.put a6 v6 (Tm.put a5 v5 (Tm.put a4 v4 (Tm.put a3 v3 (Tm.put a2 v2 (Tm.put a1 v1 (Tm.put a0 v0 (Tm.U5 tg K))))))):=(Tm.shape K T hl).imp fun _ h=>by rw [←h,Tm.zr g0,Tm.zr g1,Tm.zr g2,Tm.zr g3,Tm.zr g4,Tm.zr g5,Tm.zr g6]
theorem lp8 {K:Nat} {T:Tm} {a0:Nat} {v0:z0} {a1:Nat} {v1:z0} {a2:Nat} {v2:z0} {a3:Nat} {v3:z0} {a4:Nat} {v4:z0} {a5:Nat} {v5:z0} {a6:Nat} {v6:z0} {a7:Nat} {v7:z0} (hl:T.len=K) (g0:Tm.get a0 T=some v0) (g1:Tm.get a1 T=some v1) (g2:Tm.get a2 T=some v2) (g3:Tm.get a3 T=some v3) (g4:Tm.get a4 T=some v4) (g5:Tm.get a5 T=some v5) (g6:Tm.get a6 T=some v6) (g7:Tm.get a7 T=some v7): ∃tg,T=Tm.put a7 v7 (Tm.put a6 v6 (Tm.put a5 v5 (Tm.put a4 v4 (Tm.put a3 v3 (Tm.put a2 v2 (Tm.put a1 v1 (Tm.put a0 v0 (Tm.U5 tg K)))))))):=(Tm.shape K T hl).imp fun _ h=>by rw [←h,Tm.zr g0,Tm.zr g1,Tm.zr g2,Tm.zr g3,Tm.zr g4,Tm.zr g5,Tm.zr g6,Tm.zr g7]
theorem Ni {K:Nat} {T:Tm} {a0:Nat} {v0:z0} {a1:Nat} {v1:z0} {a2:Nat} {v2:z0} {a3:Nat} {v3:z0} {a4:Nat} {v4:z0} {a5:Nat} {v5:z0} {a6:Nat} {v6:z0} {a7:Nat} {v7:z0} {a8:Nat} {v8:z0} {a9:Nat} {v9:z0} (hl:T.len=K) (g0:Tm.get a0 T=some v0) (g1:Tm.get a1 T=some v1) (g2:Tm.get a2 T=some v2) (g3:Tm.get a3 T=some v3) (g4:Tm.get a4 T=some v4) (g5:Tm.get a5 T=some v5) (g6:Tm.get a6 T=some v6) (g7:Tm.get a7 T=some v7) (g8:Tm.get a8 T=some v8) (g9:Tm.get a9 T=some v9): ∃tg,T=Tm.put a9 v9 (Tm.put a8 v8 (Tm.put a7 v7 (Tm.put a6 v6 (Tm.put a5 v5 (Tm.put a4 v4 (Tm.put a3 v3 (Tm.put a2 v2 (Tm.put a1 v1 (Tm.put a0 v0 (Tm.U5 tg K)))))))))):=(Tm.shape K T hl).imp fun _ h=>by rw [←h,Tm.zr g0,Tm.zr g1,Tm.zr g2,Tm.zr g3,Tm.zr g4,Tm.zr g5,Tm.zr g6,Tm.zr g7,Tm.zr g8,Tm.zr g9]
theorem mo {e:ym} (he:(match e with| .exit _=>false|_=>true)=true):e= .normal∨e= .ret:=by
 cases e with
 |normal=>exact .inl rfl
 |ret=>exact .inr rfl
 |exit=>cases he
theorem zI {t:Tmp} {v:z0} {rs:Array ResultVar} {QR:z0→List SP→Prop} {e:ym} (hr:rs.toList= [.tmp t]) (he:(match e with| .exit _=>false|_=>true)=true) (h:Tm.get t T=some v) (k: ∃L',QR v L'∧Sub L L'):(e= .normal∨e= .ret)∧Fin P T L rs.toList QR:=
 ⟨mo he,[v],fun _ _=>by rw [hr];exact zu (zm h) qY,k⟩
def Wa (ops:Array Oper) (T:Tm) (o:Oper):Option (FuncId×List z0):=match Ko ops T o with
 |some (.call c)=>match c.callee with
  | .value f=>match me (zK T f) (wQ T c.args.toList)with
   |some (.call g zC0)=>some (g,zC0)
   |_=>none
  |_=>none
 |_=>none
theorem wE {f:FuncId} {zC0:List z0} (h:Wa ops T o=some (f,zC0)):zP ops T o=some true∧ ∀H,yd P F T H o=some (.call f zC0):=by
 unfold Wa at h
 split at h
 ·rename_i c e
  split at h
  ·rename_i x e2
   split at h
   ·rename_i g bs e3
    cases h
    refine⟨(jd e).1,fun H=> ?_⟩
    simp only [yd,(jd e).2,e2,e3]
   cases h
  cases h
 cases h
theorem Z0 {f:FuncId} {zC0:List z0} {w:z0} {L':List SP} (hc:SW P F zB f zC0 L fun v L2=>v=w∧L2=L') (h:Wa ops T o=some (f,zC0)) (k:WO P F zB ops l (zp T o.dst w) L' Q):WO P F zB ops (o::l) T L Q:=
 qZ hc (wE (P:=P) (F:=F) h).1 (wE h).2 (by rintro _ _ ⟨rfl,rfl⟩;exact k)
theorem Z1 {f:FuncId} {zC0:List z0} {w:z0} {L':List SP} {κ1 α1:Type} {K1:κ1→α1→SP} {a1:κ1} {x1:α1} (hc:SW P F zB f zC0 (z3 K1 a1 x1::R) fun v L2=>v=w∧L2=L') (h:Wa ops T o=some (f,zC0)) (t1:Tk L K1 a1 x1 R) (k:WO P F zB ops l (zp T o.dst w) L' Q):WO P F zB ops (o::l) T L Q:=
 yY hc (wE (P:=P) (F:=F) h).1 (wE h).2 (by rintro _ _ ⟨rfl,rfl⟩;exact k)
theorem Z2 {f:FuncId} {zC0:List z0} {w:z0} {L':List SP} {κ1 α1:Type} {K1:κ1→α1→SP} {a1:κ1} {x1:α1} {κ2 α2:Type} {K2:κ2→α2→SP} {a2:κ2} {x2:α2} {R1:List SP} (hc:SW P F zB f zC0 (z3 K1 a1 x1::z3 K2 a2 x2::R) fun v L2=>v=w∧L2=L') (h:Wa ops T o=some (f,zC0)) (t1:Tk L K1 a1 x1 R1) (t2:Tk R1 K2 a2 x2 R) (k:WO P F zB ops l (zp T o.dst w) L' Q):WO P F zB ops (o::l) T L Q:=
 VT hc (wE (P:=P) (F:=F) h).1 (wE h).2 (by rintro _ _ ⟨rfl,rfl⟩;exact k)
theorem Z3 {f:FuncId} {zC0:List z0} {w:z0} {L':List SP} {κ1 α1:Type} {K1:κ1→α1→SP} {a1:κ1} {x1:α1} {κ2 α2:Type} {K2:κ2→α2→SP} {a2:κ2} {x2:α2} {κ3 α3:Type} {K3:κ3→α3→SP} {a3:κ3} {x3:α3} {R1 R2:List SP} (hc:SW P F zB f zC0 (z3 K1 a1 x1::z3 K2 a2 x2::z3 K3 a3 x3::R) fun v L2=>v=w∧L2=L') (h:Wa ops T o=some (f,zC0)) (t1:Tk L K1 a1 x1 R1) (t2:Tk R1 K2 a2 x2 R2) (t3:Tk R2 K3 a3 x3 R) (k:WO P F zB ops l (zp T o.dst w) L' Q):WO P F zB ops (o::l) T L Q:=
 II hc (wE (P:=P) (F:=F) h).1 (wE h).2 (by rintro _ _ ⟨rfl,rfl⟩;exact k)
theorem Z4 {f:FuncId} {zC0:List z0} {w:z0} {L':List SP} {κ1 α1:Type} {K1:κ1→α1→SP} {a1:κ1} {x1:α1} {κ2 α2:Type} {K2:κ2→α2→SP} {a2:κ2} {x2:α2} {κ3 α3:Type} {K3:κ3→α3→SP} {a3:κ3} {x3:α3} {κ4 α4:Type} {K4:κ4→α4→SP} {a4:κ4} {x4:α4} {R1 R2 R3:List SP} (hc:SW P F zB f zC0 (z3 K1 a1 x1::z3 K2 a2 x2::z3 K3 a3 x3::z3 K4 a4 x4::R) fun v L2=>v=w∧L2=L') (h:Wa ops T o=some (f,zC0)) (t1:Tk L K1 a1 x1 R1) (t2:Tk R1 K2 a2 x2 R2) (t3:Tk R2 K3 a3 x3 R3) (t4:Tk R3 K4 a4 x4 R) (k:WO P F zB ops l (zp T o.dst w) L' Q):WO P F zB ops (o::l) T L Q:=
 Yk hc (wE (P:=P) (F:=F) h).1 (wE h).2 (by rintro _ _ ⟨rfl,rfl⟩;exact k)
theorem Z5 {f:FuncId} {zC0:List z0} {w:z0} {L':List SP} {κ1 α1:Type} {K1:κ1→α1→SP} {a1:κ1} {x1:α1} {κ2 α2:Type} {K2:κ2→α2→SP} {a2:κ2} {x2:α2} {κ3 α3:Type} {K3:κ3→α3→SP} {a3:κ3} {x3:α3} {κ4 α4:Type} {K4:κ4→α4→SP} {a4:κ4} {x4:α4} {κ5 α5:Type} {K5:κ5→α5→SP} {a5:κ5} {x5:α5} {R1 R2 R3 R4:List SP} (hc:SW P F zB f zC0 (z3 K1 a1 x1::z3 K2 a2 x2::z3 K3 a3 x3::z3 K4 a4 x4::z3 K5 a5 x5::R) fun v L2=>v=w∧L2=L') (h:Wa ops T o=some (f,zC0)) (t1:Tk L K1 a1 x1 R1) (t2:Tk R1 K2 a2 x2 R2) (t3:Tk R2 K3 a3 x3 R3) (t4:Tk R3 K4 a4 x4 R4) (t5:Tk R4 K5 a5 x5 R) (k:WO P F zB ops l (zp T o.dst w) L' Q):WO P F zB ops (o::l) T L Q:=
 IJ hc (wE (P:=P) (F:=F) h).1 (wE h).2 (by rintro _ _ ⟨rfl,rfl⟩;exact k)
theorem Z6 {f:FuncId} {zC0:List z0} {w:z0} {L':List SP} {κ1 α1:Type} {K1:κ1→α1→SP} {a1:κ1} {x1:α1} {κ2 α2:Type} {K2:κ2→α2→SP} {a2:κ2} {x2:α2} {κ3 α3:Type} {K3:κ3→α3→SP} {a3:κ3} {x3:α3} {κ4 α4:Type} {K4:κ4→α4→SP} {a4:κ4} {x4:α4} {κ5 α5:Type} {K5:κ5→α5→SP} {a5:κ5} {x5:α5} {κ6 α6:Type} {K6:κ6→α6→SP} {a6:κ6} {x6:α6} {R1 R2 R3 R4 R5:List SP} (hc:SW P F zB f zC0 (z3 K1 a1 x1::z3 K2 a2 x2::z3 K3 a3 x3::z3 K4 a4 x4::z3 K5 a5 x5::z3 K6 a6 x6::R) fun v L2=>v=w∧L2=L') (h:Wa ops T o=some (f,zC0)) (t1:Tk L K1 a1 x1 R1) (t2:Tk R1 K2 a2 x2 R2) (t3:Tk R2 K3 a3 x3 R3) (t4:Tk R3 K4 a4 x4 R4) (t5:Tk R4 K5 a5 x5 R5) (t6:Tk R5 K6 a6 x6 R) (k:WO P F zB ops l (zp T o.dst w) L' Q):WO P F zB ops (o::l) T L Q:=
 IK hc (wE (P:=P) (F:=F) h).1 (wE h).2 (by rintro _ _ ⟨rfl,rfl⟩;exact k)
theorem Z7 {f:FuncId} {zC0:List z0} {w:z0} {L':List SP} {κ1 α1:Type} {K1:κ1→α1→SP} {a1:κ1} {x1:α1} {κ2 α2:Type} {K2:κ2→α2→SP} {a2:κ2} {x2:α2} {κ3 α3:Type} {K3:κ3→α3→SP} {a3:κ3} {x3:α3} {κ4 α4:Type} {K4:κ4→α4→SP} {a4:κ4} {x4:α4} {κ5 α5:Type} {K5:κ5→α5→SP} {a5:κ5} {x5:α5} {κ6 α6:Type} {K6:κ6→α6→SP} {a6:κ6} {x6:α6} {κ7 α7:Type} {K7:κ7→α7→SP} {a7:κ7} {x7:α7} {R1 R2 R3 R4 R5 R6:List SP} (hc:SW P F zB f zC0 (z3 K1 a1 x1::z3 K2 a2 x2::z3 K3 a3 x3::z3 K4 a4 x4::z3 K5 a5 x5::z3 K6 a6 x6::z3 K7 a7 x7::R) fun v L2=>v=w∧L2=L') (h:Wa ops T o=some (f,zC0)) (t1:Tk L K1 a1 x1 R1) (t2:Tk R1 K2 a2 x2 R2) (t3:Tk R2 K3 a3 x3 R3) (t4:Tk R3 K4 a4 x4 R4) (t5:Tk R4 K5 a5 x5 R5) (t6:Tk R5 K6 a6 x6 R6) (t7:Tk R6 K7 a7 x7 R) (k:WO P F zB ops l (zp T o.dst w) L' Q):WO P F zB ops (o::l) T L Q:=
 IL hc (wE (P:=P) (F:=F) h).1 (wE h).2 (by rintro _ _ ⟨rfl,rfl⟩;exact k)
theorem Z8 {f:FuncId} {zC0:List z0} {w:z0} {L':List SP} {κ1 α1:Type} {K1:κ1→α1→SP} {a1:κ1} {x1:α1} {κ2 α2:Type} {K2:κ2→α2→SP} {a2:κ2} {x2:α2} {κ3 α3:Type} {K3:κ3→α3→SP} {a3:κ3} {x3:α3} {κ4 α4:Type} {K4:κ4→α4→SP} {a4:κ4} {x4:α4} {κ5 α5:Type} {K5:κ5→α5→SP} {a5:κ5} {x5:α5} {κ6 α6:Type} {K6:κ6→α6→SP} {a6:κ6} {x6:α6} {κ7 α7:Type} {K7:κ7→α7→SP} {a7:κ7} {x7:α7} {κ8 α8:Type} {K8:κ8→α8→SP} {a8:κ8} {x8:α8} {R1 R2 R3 R4 R5 R6 R7:List SP} (hc:SW P F zB f zC0 (z3 K1 a1 x1::z3 K2 a2 x2::z3 K3 a3 x3::z3 K4 a4 x4::z3 K5 a5 x5::z3 K6 a6 x6::z3 K7 a7 x7::z3 K8 a8 x8::R) fun v L2=>v=w∧L2=L') (h:Wa ops T o=some (f,zC0)) (t1:Tk L K1 a1 x1 R1) (t2:Tk R1 K2 a2 x2 R2) (t3:Tk R2 K3 a3 x3 R3) (t4:Tk R3 K4 a4 x4 R4) (t5:Tk R4 K5 a5 x5 R5) (t6:Tk R5 K6 a6 x6 R6) (t7:Tk R6 K7 a7 x7 R7) (t8:Tk R7 K8 a8 x8 R) (k:WO P F zB ops l (zp T o.dst w) L' Q):WO P F zB ops (o::l) T L Q:=
 IM hc (wE (P:=P) (F:=F) h).1 (wE h).2 (by rintro _ _ ⟨rfl,rfl⟩;exact k)
theorem wq {rs:Array ResultVar} {QR:z0→List SP→Prop} {e:ym} (hr:rs.toList= []) (he:(match e with| .exit _=>false|_=>true)=true) (k: ∃L',QR (.tuple []) L'∧Sub L L'):(e= .normal∨e= .ret)∧Fin P T L rs.toList QR:=
 ⟨mo he,[],fun _ _=>by rw [hr];exact qY,k⟩
theorem qt {t u:Tmp} {v w:z0} {rs:Array ResultVar} {QR:z0→List SP→Prop} {e:ym} (hr:rs.toList= [.tmp t,.tmp u]) (he:(match e with| .exit _=>false|_=>true)=true) (h:Tm.get t T=some v) (h2:Tm.get u T=some w) (k: ∃L',QR (.tuple [v,w]) L'∧Sub L L'):(e= .normal∨e= .ret)∧Fin P T L rs.toList QR:=
 ⟨mo he,[v,w],fun _ _=>by rw [hr];exact zu (zm h) (zu (zm h2) qY),k⟩
theorem fq {v:z0} {L':List SP} [s:Sub L L']: ∃L2,(v=v∧L2=L')∧Sub L L2:=⟨_,⟨rfl,rfl⟩,s⟩
end
end
noncomputable section
inductive RO where
 |fail
 |ok (T:Tm) (H:Hp)
inductive RV where
 |fail
 |ok (v:z0) (H:Hp)
inductive RC where
 |fail
 |norm (T:Tm) (H:Hp)
 |exit (i:Nat) (T:Tm) (H:Hp)
 |ret (T:Tm) (H:Hp)
structure yr where
 code:Code→Tm→Hp→RC
 call:FuncId→List z0→Hp→RV
def RO.opt:RO→Option (Tm×Hp)
 | .fail=>none
 | .ok T H=>some (T,H)
def RV.opt:RV→Option (z0×Hp)
 | .fail=>none
 | .ok v H=>some (v,H)
def RC.opt:RC→Option (ym×Tm×Hp)
 | .fail=>none
 | .norm T H=>some (.normal,T,H)
 | .exit i T H=>some (.exit i,T,H)
 | .ret T H=>some (.ret,T,H)
def RA (_v:z0) (T:Tm):Tm:=T
def RB (d:Tmp) (v:z0) (T:Tm):Tm:=Tm.put d v T
def bU (d:Option Tmp) (v:z0) (T:Tm):Tm:=Option.rec (motive:=fun _=>z0→Tm→Tm) RA RB d v T
def H9 (_d:Option Tmp) (_T:Tm):RO:= .fail
def RD (v:z0) (H:Hp) (d:Option Tmp) (T:Tm):RO:= .ok (bU d v T) H
def z00 (v:z0) (H:Hp) (QQ:yr) (T:Tm) (_H0:Hp) (o:Oper):RO:= .ok (bU o.dst v T) H
def CE (f:FuncId) (args:List z0) (rec:yr) (T:Tm) (H0:Hp) (o:Oper):RO:=
 RV.rec (motive:=fun _=>Option Tmp→Tm→RO) H9 RD (rec.call f args H0) o.dst T
def R9 (QQ:yr) (_T:Tm) (_H0:Hp) (_o:Oper):RO:= .fail
def RE (x:zN) (rec:yr) (T:Tm) (H0:Hp) (o:Oper):RO:=zN.rec (motive:=fun _=>yr→Tm→Hp→Oper→RO) z00 CE x rec T H0 o
def aa (r:Option zN) (rec:yr) (T:Tm) (H:Hp) (o:Oper):RO:=Option.rec (motive:=fun _=>yr→Tm→Hp→Oper→RO) R9 RE r rec T H o
def Ra (P:Program) (F:zD) (rec:yr) (Jy:Array Oper) (T:Tm) (H:Hp) (o:Oper):RO:=aa (WE P F T H o) rec T H o
def RZ (P:Program) (F:zD) (rec:yr) (T:Tm) (H:Hp) (o:Oper) (b:Bool):RO:=
 Bool.rec (motive:=fun _=>RO) (.ok (bU o.dst unit T) H) (aa (WE P F T H o) rec T H o) b
def LJ (w:Option Bool) (P:Program) (F:zD) (rec:yr) (T:Tm) (H:Hp) (o:Oper):RO:=
 Option.rec (motive:=fun _=>RO) .fail (fun b=>RZ P F rec T H o b) w
def Rb (_g:Nat×Bool) (P:Program) (F:zD) (rec:yr) (ops:Array Oper) (T:Tm) (H:Hp) (o:Oper):RO:=LJ (zP ops T o) P F rec T H o
def V3 (P:Program) (F:zD) (rec:yr) (ops:Array Oper) (T:Tm) (H:Hp) (o:Oper):RO:=
 Option.rec (motive:=fun _=>Program→zD→yr→Array Oper→Tm→Hp→Oper→RO) Ra Rb o.guard P F rec ops T H o
theorem GG (d:Option Tmp) (v:z0) (T:Tm):bU d v T=zp T d v:=by cases d<;>rfl
theorem ru {P:Program} {F:zD} {rec:Rec} {wz:yr} (hc: ∀f zC0 H,(wz.call f zC0 H).opt=rec.call f zC0 H) (ops:Array Oper) (T:Tm) (H:Hp) (o:Oper):
 (V3 P F wz ops T H o).opt=ZS P F rec ops T H o:=by
 have fo:(aa (WE P F T H o) wz T H o).opt=(match WE P F T H o with
  |some (.val v H)=>some (zp T o.dst v,H)
  |some (.call f args)=>match rec.call f args H with
   |some (v,H)=>some (zp T o.dst v,H)
   |none=>none
  |none=>none):=by
  cases h:WE P F T H o with
  |none=>rfl
  |some x=>
   cases x with
   |val v H'=>show some (bU o.dst v T,H')=_;rw [GG]
   |call f zC0=>
    have:=hc f zC0 H
    show(CE f zC0 wz T H o).opt=_
    unfold CE
    simp only
    rw [←this]
    cases wz.call f zC0 H with
    |fail=>rfl
    |ok v H'=>show some (bU o.dst v T,H')=_;rw [GG];rfl
 unfold ZS
 cases hg:o.guard with
 |none=>
  have hw:zP ops T o=some true:=by unfold zP;rw [hg]
  have e:V3 P F wz ops T H o=aa (WE P F T H o) wz T H o:=by unfold V3;rw [hg];rfl
  rw [e,hw];exact fo
 |some g=>
  have e:V3 P F wz ops T H o=LJ (zP ops T o) P F wz T H o:=by unfold V3;rw [hg];rfl
  rw [e]
  cases hw:zP ops T o with
  |none=>rfl
  |some b=>
   cases b with
   |true=>exact fo
   |false=>show some (bU o.dst unit T,H)=_;rw [GG]
abbrev lg:=Program→zD→yr→Array Oper→Tm→Hp→RO
def z2T (_P:Program) (_F:zD) (QQ:yr) (Jy:Array Oper) (T:Tm) (H:Hp):RO:= .ok T H
def Lq (_k:lg) (_P:Program) (_F:zD) (QQ:yr) (Jy:Array Oper):RO:= .fail
def rOk (T:Tm) (H:Hp) (k:lg) (P:Program) (F:zD) (rec:yr) (ops:Array Oper):RO:=k P F rec ops T H
def TP (o:Oper) (_os:List Oper) (k:lg) (P:Program) (F:zD) (rec:yr) (ops:Array Oper) (T:Tm) (H:Hp):RO:=
 RO.rec (motive:=fun _=>lg→Program→zD→yr→Array Oper→RO) Lq rOk (V3 P F rec ops T H o) k P F rec ops
def Nu (l:List Oper):lg:=List.rec (motive:=fun _=>lg) z2T TP l
theorem IS {P:Program} {F:zD} {rec:Rec} {wz:yr} (hc: ∀f zC0 H,(wz.call f zC0 H).opt=rec.call f zC0 H) (ops:Array Oper): ∀(l:List Oper) (T:Tm) (H:Hp),
 (Nu l P F wz ops T H).opt=Qs P F rec ops l T H:=by
 intro l
 induction l with
 |nil=>intro T H;rfl
 |cons o os ih=>
  intro T H
  have:=ru (P:=P) (F:=F) hc ops T H o
  show(RO.rec (motive:=fun _=>lg→Program→zD→yr→Array Oper→RO) Lq rOk (V3 P F wz ops T H o) (Nu os) P F wz ops:RO).opt=_
  unfold Qs
  rw [←this]
  cases V3 P F wz ops T H o with
  |fail=>rfl
  |ok T' H'=>exact ih T' H'
def z3E (v:z0) (H':Hp) (T:Tm) (H:Hp) (o:Oper):RO:= .ok (bU o.dst v T) (Bool.rec (motive:=fun _=>Hp) H H' (wA o.op))
def X0 (_f:FuncId) (BF:List z0) (_T:Tm) (_H:Hp) (_o:Oper):RO:= .fail
def X1 (_T:Tm) (_H:Hp) (_o:Oper):RO:= .fail
def X3 (x:zN) (T:Tm) (H:Hp) (o:Oper):RO:=zN.rec (motive:=fun _=>Tm→Hp→Oper→RO) z3E X0 x T H o
def Ev (r:Option zN) (T:Tm) (H:Hp) (o:Oper):RO:=Option.rec (motive:=fun _=>Tm→Hp→Oper→RO) X1 X3 r T H o
def MB (_P:Program) (_F:zD) (_T:Tm) (_H:Hp) (_o:Oper):RO:= .fail
def z3D (_P:Program) (_F:zD) (T:Tm) (H:Hp) (o:Oper):RO:= .ok (bU o.dst unit T) H
def wOn (P:Program) (F:zD) (T:Tm) (H:Hp) (o:Oper):RO:=Ev (WE P F T H o) T H o
def MA (b:Bool):Program→zD→Tm→Hp→Oper→RO:=Bool.rec (motive:=fun _=>Program→zD→Tm→Hp→Oper→RO) z3D wOn b
def Ri (P:Program) (F:zD) (Jy:Array Oper) (T:Tm) (H:Hp) (o:Oper):RO:=wOn P F T H o
def Rl (_g:Nat×Bool) (P:Program) (F:zD) (ops:Array Oper) (T:Tm) (H:Hp) (o:Oper):RO:=
 Option.rec (motive:=fun _=>Program→zD→Tm→Hp→Oper→RO) MB MA (zP ops T o) P F T H o
def Jw (P:Program) (F:zD) (ops:Array Oper) (T:Tm) (H:Hp) (o:Oper):RO:=
 Option.rec (motive:=fun _=>Program→zD→Array Oper→Tm→Hp→Oper→RO) Ri Rl o.guard P F ops T H o
theorem F2 (P:Program) (F:zD) (ops:Array Oper) (T:Tm) (H:Hp) (o:Oper):(Jw P F ops T H o).opt=YJ P F ops T H o:=by
 have fo:(Ev (WE P F T H o) T H o).opt=(match WE P F T H o with
  |some (.val v H')=>some (zp T o.dst v,bif wA o.op then H' else H)
  |_=>none):=by
  cases h:WE P F T H o with
  |none=>rfl
  |some x=>
   cases x with
   |val v H'=>
    show some (bU o.dst v T,_)=_
    rw [GG]
    cases wA o.op<;>rfl
   |call f zC0=>rfl
 unfold YJ
 cases hg:o.guard with
 |none=>
  have hw:zP ops T o=some true:=by unfold zP;rw [hg]
  have e:Jw P F ops T H o=Ev (WE P F T H o) T H o:=by unfold Jw;rw [hg];rfl
  rw [e,hw];exact fo
 |some g=>
  have e:Jw P F ops T H o=(Option.rec (motive:=fun _=>Program→zD→Tm→Hp→Oper→RO) MB MA (zP ops T o) P F T H o:RO):=by unfold Jw;rw [hg];rfl
  rw [e]
  cases hw:zP ops T o with
  |none=>rfl
  |some b=>
   cases b with
   |true=>exact fo
   |false=>show some (bU o.dst unit T,H)=_;rw [GG]
abbrev xK:=Program→zD→Array Oper→Tm→Hp→RO
def z2L (_P:Program) (_F:zD) (Jy:Array Oper) (T:Tm) (H:Hp):RO:= .ok T H
def Ln (_k:xK) (_P:Program) (_F:zD) (Jy:Array Oper):RO:= .fail
def lOk (T:Tm) (H:Hp) (k:xK) (P:Program) (F:zD) (ops:Array Oper):RO:=k P F ops T H
def TE (x:It) (_l:List It) (k:xK) (P:Program) (F:zD) (ops:Array Oper) (T:Tm) (H:Hp):RO:=
 RO.rec (motive:=fun _=>xK→Program→zD→Array Oper→RO) Ln lOk (Jw P F ops T H x.o) k P F ops
def dF (l:List It):xK:=List.rec (motive:=fun _=>xK) z2L TE l
theorem Al (P:Program) (F:zD) (ops:Array Oper): ∀(l:List It) (T:Tm) (H:Hp),(dF l P F ops T H).opt=Yl P F ops l T H:=by
 intro l
 induction l with
 |nil=>intro T H;rfl
 |cons x l ih=>
  intro T H
  have:=F2 P F ops T H x.o
  show(RO.rec (motive:=fun _=>xK→Program→zD→Array Oper→RO) Ln lOk (Jw P F ops T H x.o) (dF l) P F ops:RO).opt=_
  unfold Yl
  rw [←this]
  cases Jw P F ops T H x.o with
  |fail=>rfl
  |ok T' H'=>exact ih T' H'
def z2H (v:z0) (_H:Hp) (T:Tm) (o:Oper):Bool:=match o.dst with
 |none=>true
 |some d=>match Tm.get d T with
  |some u=>Vi u v
  |none=>true
def T6 (_f:FuncId) (BF:List z0) (_T:Tm) (_o:Oper):Bool:=false
def T7 (_T:Tm) (_o:Oper):Bool:=false
def T8 (x:zN) (T:Tm) (o:Oper):Bool:=zN.rec (motive:=fun _=>Tm→Oper→Bool) z2H T6 x T o
def Lg (r:Option zN) (T:Tm) (o:Oper):Bool:=Option.rec (motive:=fun _=>Tm→Oper→Bool) T7 T8 r T o
def Sz (P:Program) (F:zD) (Jy:Array Oper) (T:Tm) (H:Hp) (o:Oper):Bool:=Lg (WE P F T H o) T o
def T0 (_g:Nat×Bool) (P:Program) (F:zD) (ops:Array Oper) (T:Tm) (H:Hp) (o:Oper):Bool:=vt P F ops T H o
def Gc (P:Program) (F:zD) (ops:Array Oper) (T:Tm) (H:Hp) (o:Oper):Bool:=
 Option.rec (motive:=fun _=>Program→zD→Array Oper→Tm→Hp→Oper→Bool) Sz T0 o.guard P F ops T H o
theorem oU (P:Program) (F:zD) (ops:Array Oper) (T:Tm) (H:Hp) (o:Oper):Gc P F ops T H o=vt P F ops T H o:=by
 cases hg:o.guard with
 |none=>
  have hw:zP ops T o=some true:=by unfold zP;rw [hg]
  have e:Gc P F ops T H o=Lg (WE P F T H o) T o:=by unfold Gc;rw [hg];rfl
  rw [e]
  unfold vt
  rw [hw]
  cases WE P F T H o with
  |none=>rfl
  |some x=>cases x<;>rfl
 |some g=>unfold Gc;rw [hg];rfl
def Ff (P:Program) (F:zD) (ops:Array Oper) (T:Tm) (H:Hp) (l:List It):Bool:=List.rec (motive:=fun _=>Bool) true (fun x _ ih=>Bool.rec (motive:=fun _=>Bool) false ih (Gc P F ops T H x.o)) l
theorem Fg (P:Program) (F:zD) (ops:Array Oper) (T:Tm) (H:Hp): ∀l:List It,Ff P F ops T H l=l.all (fun x=>vt P F ops T H x.o):=by
 intro l
 induction l with
 |nil=>rfl
 |cons x l ih=>
  show(Bool.rec (motive:=fun _=>Bool) false (Ff P F ops T H l) (Gc P F ops T H x.o):Bool)=_
  rw [oU,ih,List.all_cons]
  cases vt P F ops T H x.o<;>rfl
abbrev wg:=Program→zD→yr→Array Oper→Tm→Hp→RO
def z34 (_P:Program) (_F:zD) (QQ:yr) (Jy:Array Oper) (_T:Tm) (_H:Hp):RO:= .fail
def Tq (_k:wg) (_P:Program) (_F:zD) (QQ:yr) (Jy:Array Oper) (T:Tm) (H:Hp):RO:= .ok T H
def M8 (_k:wg) (_P:Program) (_F:zD) (QQ:yr) (Jy:Array Oper):RO:= .fail
def tOk (T:Tm) (H:Hp) (k:wg) (P:Program) (F:zD) (rec:yr) (ops:Array Oper):RO:=k P F rec ops T H
def OP (c:It) (k:wg) (P:Program) (F:zD) (rec:yr) (ops:Array Oper) (T:Tm) (H:Hp):RO:=
 RO.rec (motive:=fun _=>wg→Program→zD→yr→Array Oper→RO) M8 tOk (V3 P F rec ops T H c.o) k P F rec ops
def l6 (_s:vZ) (_k:wg) (_P:Program) (_F:zD) (QQ:yr) (Jy:Array Oper) (_T:Tm) (_H:Hp):RO:= .fail
def GO (s:vZ) (k:wg) (P:Program) (F:zD) (rec:yr) (ops:Array Oper) (T:Tm) (H:Hp):RO:=
 Option.rec (motive:=fun _=>wg→Program→zD→yr→Array Oper→Tm→Hp→RO) Tq OP s.chain k P F rec ops T H
def EV (_s:vZ) (_k:wg) (_P:Program) (_F:zD) (QQ:yr) (Jy:Array Oper):RO:= .fail
def Ts (T:Tm) (H:Hp) (s:vZ) (k:wg) (P:Program) (F:zD) (rec:yr) (ops:Array Oper):RO:=
 Bool.rec (motive:=fun _=>vZ→wg→Program→zD→yr→Array Oper→Tm→Hp→RO) l6 GO (Ff P F ops T H s.again) s k P F rec ops T H
def Tp (s:vZ) (_ss:List vZ) (k:wg) (P:Program) (F:zD) (rec:yr) (ops:Array Oper) (T:Tm) (H:Hp):RO:=
 RO.rec (motive:=fun _=>vZ→wg→Program→zD→yr→Array Oper→RO) EV Ts (dF s.work P F ops T H) s k P F rec ops
def Vd (l:List vZ):wg:=List.rec (motive:=fun _=>wg) z34 Tp l
def Pv (_P:Program) (_F:zD) (QQ:yr) (Jy:Array Oper) (_T:Tm) (_H:Hp):RO:= .fail
def Pw (ss:List vZ) (P:Program) (F:zD) (rec:yr) (ops:Array Oper) (T:Tm) (H:Hp):RO:=Vd ss P F rec ops T H
def C3 (P:Program) (F:zD) (rec:yr) (ops:Array Oper) (T:Tm) (H:Hp):RO:=
 Option.rec (motive:=fun _=>wg) Pv Pw (UW ops) P F rec ops T H
theorem aC {P:Program} {F:zD} {rec:Rec} {wz:yr} (hc: ∀f zC0 H,(wz.call f zC0 H).opt=rec.call f zC0 H) (ops:Array Oper): ∀(l:List vZ) (T:Tm) (H:Hp),
 (Vd l P F wz ops T H).opt=ve P F rec ops l T H:=by
 intro l
 induction l with
 |nil=>intro T H;rfl
 |cons s ss ih=>
  intro T H
  have hw:=Al P F ops s.work T H
  show(RO.rec (motive:=fun _=>vZ→wg→Program→zD→yr→Array Oper→RO) EV Ts (dF s.work P F ops T H) s (Vd ss) P F wz ops:RO).opt=_
  unfold ve
  rw [←hw]
  cases dF s.work P F ops T H with
  |fail=>rfl
  |ok T1 H1=>
   show(Bool.rec (motive:=fun _=>vZ→wg→Program→zD→yr→Array Oper→Tm→Hp→RO) l6 GO (Ff P F ops T1 H1 s.again) s (Vd ss) P F wz ops T1 H1:RO).opt=_
   rw [Fg]
   simp only [RO.opt]
   cases s.again.all (fun x=>vt P F ops T1 H1 x.o)with
   |false=>rfl
   |true=>
    simp only [cond_true]
    show(GO s (Vd ss) P F wz ops T1 H1).opt=_
    unfold GO
    cases s.chain with
    |none=>rfl
    |some c=>
     have:=ru (P:=P) (F:=F) hc ops T1 H1 c.o
     show(RO.rec (motive:=fun _=>wg→Program→zD→yr→Array Oper→RO) M8 tOk (V3 P F wz ops T1 H1 c.o) (Vd ss) P F wz ops:RO).opt=_
     simp only
     rw [←this]
     cases V3 P F wz ops T1 H1 c.o with
     |fail=>rfl
     |ok T2 H2=>exact ih T2 H2
theorem C4 {P:Program} {F:zD} {rec:Rec} {wz:yr} (hc: ∀f zC0 H,(wz.call f zC0 H).opt=rec.call f zC0 H) (ops:Array Oper) (T:Tm) (H:Hp):(C3 P F wz ops T H).opt=VW P F rec ops T H:=by
 unfold C3 VW
 cases UW ops with
 |none=>rfl
 |some ss=>exact aC hc ops ss T H
abbrev jr:=Program→zD→yr→Tm→Hp→RC
def LB (_P:Program) (_F:zD) (QQ:yr) (T:Tm) (H:Hp):RC:= .norm T H
def aY (_P:Program) (_F:zD) (QQ:yr) (_T:Tm) (_H:Hp):RC:= .fail
def Md (_l:Nat):jr:=LB
def aZ:RC:= .fail
def LA (T:Tm) (H:Hp):RC:= .norm T H
def Fo (Xm:Nat) (ops:Array Oper) (draw:Bool) (P:Program) (F:zD) (rec:yr) (T:Tm) (H:Hp):RC:=
 RO.rec (motive:=fun _=>RC) aZ LA (Bool.rec (motive:=fun _=>RO) (Nu ops.toList P F rec ops T H) (C3 P F rec ops T H) draw)
def eo (QQ:yr) (_b:Code):RC:= .fail
def ep (T:Tm) (H:Hp) (rec:yr) (b:Code):RC:=rec.code b T H
def ek (i:Nat) (T:Tm) (H:Hp) (QQ:yr) (_b:Code):RC:= .exit i T H
def Iv (T:Tm) (H:Hp) (QQ:yr) (_b:Code):RC:= .ret T H
def Xr (a b:Code) (_P:Program) (_F:zD) (rec:yr) (T:Tm) (H:Hp):RC:=RC.rec (motive:=fun _=>yr→Code→RC) eo ep ek Iv (rec.code a T H) rec b
def Pm (b:Code) (_P:Program) (_F:zD) (rec:yr) (T:Tm) (H:Hp):RC:=RC.rec (motive:=fun _=>yr→Code→RC) eo ep ek Iv (rec.code b T H) rec (.loop b)
def L6 (Xm:Nat):RC:= .fail
def L7 (T:Tm) (H:Hp) (Xm:Nat):RC:= .norm T H
def aV (i:Nat) (T:Tm) (H:Hp) (id:Nat):RC:=Bool.rec (motive:=fun _=>RC) (.exit i T H) (.norm T H) (Nat.beq i id)
def Pf (T:Tm) (H:Hp) (Xm:Nat):RC:= .ret T H
def Ma (id:Nat) (b:Code) (_P:Program) (_F:zD) (rec:yr) (T:Tm) (H:Hp):RC:=RC.rec (motive:=fun _=>Nat→RC) L6 L7 aV Pf (rec.code b T H) id
def Nc (_a b:Code) (rec:yr) (T:Tm) (H:Hp):RC:=rec.code b T H
def TB (a _b:Code) (rec:yr) (T:Tm) (H:Hp):RC:=rec.code a T H
def Lh (t:Bool):Code→Code→yr→Tm→Hp→RC:=Bool.rec (motive:=fun _=>Code→Code→yr→Tm→Hp→RC) Nc TB t
def mP (x:Option z0):Option Bool:=match x with
 |some (.bool t)=>some t
 |_=>none
def Lk (_a _b:Code) (QQ:yr) (_T:Tm) (_H:Hp):RC:= .fail
def Pk (x:Operand) (a b:Code) (_P:Program) (_F:zD) (rec:yr) (T:Tm) (H:Hp):RC:=Option.rec (motive:=fun _=>Code→Code→yr→Tm→Hp→RC) Lk Lh (mP (zK T x)) a b rec T H
def Pl (id:Nat) (_P:Program) (_F:zD) (QQ:yr) (T:Tm) (H:Hp):RC:= .exit id T H
def Xq (_P:Program) (_F:zD) (QQ:yr) (T:Tm) (H:Hp):RC:= .ret T H
def Bb (id:Nat) (ops:Array Oper) (draw:Bool):jr:=Fo id ops draw
def Pn (a b:Code) (_ _:jr):jr:=Xr a b
def Mb (x:Operand) (a b:Code) (_ _:jr):jr:=Pk x a b
def Fl (id:Nat) (b:Code) (_:jr):jr:=Ma id b
def Me (b:Code) (_:jr):jr:=Pm b
def Fm (_f:Operand) (_ps:Array Tmp) (_a _b:Code) (_ _:jr):jr:=aY
def Fp (_b:Code) (_:jr):jr:=aY
def Mc (_l:Nat):jr:=aY
def Ba (_w:String):jr:=aY
def codeF (P:Program) (F:zD) (rec:yr) (c:Code) (T:Tm) (H:Hp):RC:=
 Code.rec (motive:=fun _=>jr) LB Bb Pn Mb Fl Me Fm Pl Fp Md Mc Xq Ba c P F rec T H
theorem oc (x:Option z0):(∃t,x=some (.bool t)∧mP x=some t)∨(mP x=none∧ ∀t,x≠some (.bool t)):=by
 cases x with
 |none=>exact .inr ⟨rfl,nofun⟩
 |some v=>cases v<;>first|exact .inl ⟨_,rfl,rfl⟩|exact .inr ⟨rfl,nofun⟩
theorem codeF_eq {P:Program} {F:zD} {rec:Rec} {wz:yr} (hd: ∀c T H,(wz.code c T H).opt=rec.code c T H) (hc: ∀f zC0 H,(wz.call f zC0 H).opt=rec.call f zC0 H) (c:Code) (T:Tm) (H:Hp):
 (codeF P F wz c T H).opt=gD P F rec c T H:=by
 cases c with
 |skip=>rfl
 |label l=>rfl
 |exit id=>rfl
 |ret=>rfl
 |rangeFunc f ps a b=>rfl
 |scope b=>rfl
 |goto l=>rfl
 |refuse w=>rfl
 |region id ops draw=>
  unfold gD
  have h: ∀(r:RO) (q:Option (Tm×Hp)),r.opt=q→(RO.rec (motive:=fun _=>RC) aZ LA r:RC).opt=(match q with
   |some (T,H)=>some (.normal,T,H)
   |none=>none):=by
   intro r q h;subst h;cases r<;>rfl
  cases draw with
  |false=>exact h _ _ (IS hc ops ops.toList T H)
  |true=>exact h _ _ (C4 hc ops T H)
 |seq a b=>
  have ha:=hd a T H
  show(RC.rec (motive:=fun _=>yr→Code→RC) eo ep ek Iv (wz.code a T H) wz b:RC).opt=_
  unfold gD
  simp only
  rw [←ha]
  cases wz.code a T H with
  |norm T1 H1=>exact hd b T1 H1
  |_=>rfl
 |loop b=>
  have ha:=hd b T H
  show(RC.rec (motive:=fun _=>yr→Code→RC) eo ep ek Iv (wz.code b T H) wz (.loop b):RC).opt=_
  unfold gD
  simp only
  rw [←ha]
  cases wz.code b T H with
  |norm T1 H1=>exact hd (.loop b) T1 H1
  |_=>rfl
 |block id b=>
  have ha:=hd b T H
  show(RC.rec (motive:=fun _=>Nat→RC) L6 L7 aV Pf (wz.code b T H) id:RC).opt=_
  unfold gD
  simp only
  rw [←ha]
  cases wz.code b T H with
  |exit i T1 H1=>
   show(aV i T1 H1 id).opt=_
   unfold aV
   simp only [RC.opt]
   cases Nat.beq i id<;>rfl
  |_=>rfl
 |cond x a b=>
  show(Option.rec (motive:=fun _=>Code→Code→yr→Tm→Hp→RC) Lk Lh (mP (zK T x)) a b wz T H:RC).opt=_
  unfold gD
  rcases oc (zK T x)with⟨t,h1,h2⟩|⟨h1,h2⟩
  ·rw [h2]
   simp only
   rw [h1]
   cases t with
   |true=>exact hd a T H
   |false=>exact hd b T H
  rw [h1]
  simp only
  rfl
def Tx (_P:Program) (_fn:Func):RV:= .fail
def Kg (T:Tm) (H:Hp) (P:Program) (fn:Func):RV:=match wR P T H fn.results.toList with
 |some [v]=> .ok v H
 |some vs=> .ok (.tuple vs) H
 |none=> .fail
def Tw (_i:Nat) (_T:Tm) (_H:Hp) (_P:Program) (_fn:Func):RV:= .fail
def El (b:Code) (P:Program) (rec:yr) (fn:Func) (args:List z0) (H:Hp):RV:=
 RC.rec (motive:=fun _=>Program→Func→RV) Tx Kg Tw Kg (rec.code b (WX args 0 (Tm.mk (fn.ntmps/16+1))) H) P fn
def vNo (_P:Program) (QQ:yr) (_fn:Func) (BF:List z0) (_H:Hp):RV:= .fail
def vFn (fn:Func) (P:Program) (rec:yr) (args:List z0) (H:Hp):RV:=
 Option.rec (motive:=fun _=>Program→yr→Func→List z0→Hp→RV) vNo El fn.body P rec fn args H
def Ty (_P:Program) (QQ:yr) (BF:List z0) (_H:Hp):RV:= .fail
def Bd (P:Program) (rec:yr) (f:FuncId) (args:List z0) (H:Hp):RV:=
 Option.rec (motive:=fun _=>Program→yr→List z0→Hp→RV) Ty vFn P.funcs[f]? P rec args H
def RV.of:Option (z0×Hp)→RV
 |none=> .fail
 |some (v,H)=> .ok v H
def Bf (P:Program) (zB:yy) (rec:yr) (f:FuncId) (args:List z0) (H:Hp):RV:=match zB f with
 |some h=>RV.of (h args H)
 |none=>Bd P rec f args H
theorem Be {P:Program} {rec:Rec} {wz:yr} (hd: ∀c T H,(wz.code c T H).opt=rec.code c T H) (f:FuncId) (args:List z0) (H:Hp):(Bd P wz f args H).opt=Vv P rec f args H:=by
 unfold Vv Bd
 cases P.funcs[f]? with
 |none=>rfl
 |some fn=>
  show(vFn fn P wz args H).opt=_
  unfold vFn
  simp only
  cases fn.body with
  |none=>rfl
  |some b=>
   show(El b P wz fn args H).opt=_
   unfold El
   simp only
   rw [←hd]
   have he: ∀(T1:Tm) (H1:Hp),(Kg T1 H1 P fn).opt=(match wR P T1 H1 fn.results.toList with
    |some [v]=>some (v,H1)
    |some vs=>some (.tuple vs,H1)
    |none=>none):=by
    intro T1 H1
    unfold Kg
    split<;>rfl
   cases wz.code b (WX args 0 (Tm.mk (fn.ntmps/16+1))) H with
   |fail=>rfl
   |exit=>rfl
   |norm T1 H1=>exact he T1 H1
   |ret T1 H1=>exact he T1 H1
def XD (_c:Code) (_T:Tm) (_H:Hp):RC:= .fail
def XC (_f:FuncId) (_a:List z0) (_H:Hp):RV:= .fail
def fX (P:Program) (F:zD) (zB:yy) (n:Nat):yr:=Nat.rec (motive:=fun _=>yr) ⟨XD,XC⟩ (fun _ ih=>⟨codeF P F ih,Bf P zB ih⟩) n
theorem CD {P:Program} {F:zD} {zB:yy} : ∀n,(∀c T H,((fX P F zB n).code c T H).opt=(exec P F zB n).code c T H)∧(∀f zC0 H,((fX P F zB n).call f zC0 H).opt=(exec P F zB n).call f zC0 H):=by
 intro n
 induction n with
 |zero=>exact⟨fun _ _ _=>rfl,fun _ _ _=>rfl⟩
 |succ n ih=>
  refine⟨fun c T H=>codeF_eq ih.1 ih.2 c T H,fun f zC0 H=> ?_⟩
  show(Bf P zB (fX P F zB n) f zC0 H).opt=(match zB f with
   |some h=>h zC0 H
   |none=>Vv P (exec P F zB n) f zC0 H)
  unfold Bf
  cases zB f with
  |none=>exact Be ih.1 f zC0 H
  |some h=>
   show(RV.of (h zC0 H)).opt=h zC0 H
   cases h zC0 H with
   |none=>rfl
   |some p=>rfl
def Ee:RV→Bool
 | .ok (.bool b) _=>b
 |_=>false
theorem aK {P:Program} {F:zD} {zB:yy} {n:Nat} {f:FuncId} {args:List z0} {H:Hp} (h:Ee ((fX P F zB n).call f args H)=true): ∃H',(exec P F zB n).call f args H=some (.bool true,H'):=by
 rw [←(CD n).2]
 unfold Ee at h
 split at h
 ·rename_i b H' he;subst h;rw [he];exact⟨H',rfl⟩
 cases h
end
end Go.Px
namespace Go.Proofs.YtlhcpplnlgehbaaGreat
open Go.RowKit Go.Px
noncomputable section
def tok (i:Nat):z0:= .int .i64 (.G9 1 i 0)
def lit (n:Int):z0:= .int .i64 (.lit n)
def SM (n:Int) (args:List z0) (H:Hp):Option (z0×Hp):=match args with
 | [a,b]=>bif Vi a (tok 0) && Vi b (lit n)then some (tok 1,H)else none
 |_=>none
def zB (n:Int):yy:=fun f=>bif Nat.beq f 15 then some (SM n)else none
end
theorem RG:Tryz.prog.funcs.toList.all cO=true:=by kernel_rfl
theorem pok:L3 Tryz.prog:=by
 refine⟨fun f fn h=> ?_,Tryz.checked.mixed⟩
 have:=RG
 rw [List.all_eq_true]at this
 exact this fn (List.mem_of_getElem? (by rw [Array.getElem?_toList];exact h))
theorem YP:yb Tryz.prog 3=some 1:=by kernel_rfl
theorem l5:yb Tryz.prog 4=some 1:=by kernel_rfl
theorem sz9:yb Tryz.prog 9=some 1:=by kernel_rfl
theorem AU:yb Tryz.prog 26=some 4:=by kernel_rfl
theorem AV:yb Tryz.prog 29=some 1:=by kernel_rfl
theorem aG:yb Tryz.prog 32=some 1:=by kernel_rfl
theorem z2V:yb Tryz.prog 37=some 1:=by kernel_rfl
theorem nC:yb Tryz.prog 39=some 1:=by kernel_rfl
theorem OL:yb Tryz.prog 42=some 1:=by kernel_rfl
theorem z2W:yb Tryz.prog 44=some 1:=by kernel_rfl
theorem z2X:yb Tryz.prog 46=some 1:=by kernel_rfl
theorem KV:yb Tryz.prog 48=some 1:=by kernel_rfl
theorem EU:yb Tryz.prog 52=some 5:=by kernel_rfl
theorem AW:yb Tryz.prog 54=some 6:=by kernel_rfl
theorem z2Y:yb Tryz.prog 56=some 1:=by kernel_rfl
theorem AX:yb Tryz.prog 58=some 4:=by kernel_rfl
theorem z2Z:yb Tryz.prog 64=some 1:=by kernel_rfl
theorem AY:yb Tryz.prog 68=some 8:=by kernel_rfl
theorem OM:yb Tryz.prog 70=some 10:=by kernel_rfl
theorem KW:yb Tryz.prog 74=some 5:=by kernel_rfl
theorem z30:yb Tryz.prog 76=some 1:=by kernel_rfl
theorem z31:yb Tryz.prog 83=some 2:=by kernel_rfl
theorem Tn:yb Tryz.prog 86=some 1:=by kernel_rfl
theorem ON:yb Tryz.prog 90=some 10:=by kernel_rfl
theorem z32:yb Tryz.prog 94=some 1:=by kernel_rfl
theorem OO:yb Tryz.prog 95=some 1:=by kernel_rfl
theorem To:yb Tryz.prog 96=some 4:=by kernel_rfl
theorem z33:yb Tryz.prog 97=some 40:=by kernel_rfl
theorem EM:yb Tryz.prog 101=some 1:=by kernel_rfl
theorem Ly:yb Tryz.prog 102=some 1:=by kernel_rfl
theorem TZ:yb Tryz.prog 103=some 1:=by kernel_rfl
theorem EN:yb Tryz.prog 105=some 2:=by kernel_rfl
theorem oA:yb Tryz.prog 107=some 9:=by kernel_rfl
theorem EO:yb Tryz.prog 108=some 1:=by kernel_rfl
theorem Ta:yb Tryz.prog 109=some 4:=by kernel_rfl
theorem Lz:yb Tryz.prog 110=some 1:=by kernel_rfl
theorem Tb:yb Tryz.prog 111=some 1:=by kernel_rfl
theorem Tc:yb Tryz.prog 112=some 1:=by kernel_rfl
theorem Td:yb Tryz.prog 113=some 1:=by kernel_rfl
theorem EP:yb Tryz.prog 144=some 4:=by kernel_rfl
theorem Te:yb Tryz.prog 145=some 1:=by kernel_rfl
theorem Tg:yb Tryz.prog 155=some 1:=by kernel_rfl
theorem Th:yb Tryz.prog 156=some 1:=by kernel_rfl
theorem ER:yb Tryz.prog 157=some 1:=by kernel_rfl
theorem l4:yb Tryz.prog 164=some 4:=by kernel_rfl
theorem ES:yb Tryz.prog 170=some 1:=by kernel_rfl
theorem oB:yb Tryz.prog 178=some 1:=by kernel_rfl
theorem M1:yb Tryz.prog 179=some 1:=by kernel_rfl
theorem Ti:yb Tryz.prog 195=some 1:=by kernel_rfl
theorem Tj:yb Tryz.prog 200=some 1:=by kernel_rfl
theorem M3:yb Tryz.prog 203=some 1:=by kernel_rfl
theorem M4:yb Tryz.prog 220=some 1:=by kernel_rfl
theorem ET:yb Tryz.prog 224=some 10:=by kernel_rfl
theorem M5:yb Tryz.prog 243=some 5:=by kernel_rfl
theorem Tl:yb Tryz.prog 244=some 1:=by kernel_rfl
theorem oC:yb Tryz.prog 249=some 6:=by kernel_rfl
theorem oD:yb Tryz.prog 257=some 256:=by kernel_rfl
theorem M6:yb Tryz.prog 259=some 256:=by kernel_rfl
theorem M7:yb Tryz.prog 309=some 6:=by kernel_rfl
instance:AE Tryz.prog 144 4:=⟨⟨_,Tryz.underlying144,by kernel_rfl,YP⟩⟩
instance:AE Tryz.prog 257 256:=⟨⟨_,Tryz.underlying257,by kernel_rfl,YP⟩⟩
instance:AE Tryz.prog 68 8:=⟨⟨_,Tryz.underlying68,by kernel_rfl,aG⟩⟩
instance:AE Tryz.prog 96 4:=⟨⟨_,Tryz.underlying96,by kernel_rfl,OO⟩⟩
instance:AP Tryz.prog 110 1:=⟨⟨_,_,(.ptr none),Tryz.underlying110,OL,(show bytesOf Tryz.prog 42=some 8 by kernel_rfl),by decide,by kernel_rfl,rfl⟩⟩
instance:AP Tryz.prog 179 1:=⟨⟨_,_,(.ptr none),Tryz.underlying179,oB,(show bytesOf Tryz.prog 178=some 8 by kernel_rfl),by decide,by kernel_rfl,rfl⟩⟩
instance:AP Tryz.prog 220 10:=⟨⟨_,_,(.agg ([.int .u64 (.lit 0),.int .u64 (.lit 0),.int .u64 (.lit 0),.int .u64 (.lit 0),.int .u64 (.lit 0),.int .u64 (.lit 0),.int .u64 (.lit 0),.int .u64 (.lit 0),.int .i64 (.lit 0),.int .i64 (.lit 0)])),Tryz.underlying220,ET,(show bytesOf Tryz.prog 224=some 80 by kernel_rfl),by decide,by kernel_rfl,rfl⟩⟩
instance:AP Tryz.prog 29 4:=⟨⟨_,_,(.agg ([.int .i64 (.lit 0),.int .i64 (.lit 0),.int .i64 (.lit 0),.int .i64 (.lit 0)])),Tryz.underlying29,AU,(show bytesOf Tryz.prog 26=some 32 by kernel_rfl),by decide,by kernel_rfl,rfl⟩⟩
instance:AP Tryz.prog 37 1:=⟨⟨_,_,(.slice none 0 (some 0) 0),Tryz.underlying37,AV,(show bytesOf Tryz.prog 29=some 24 by kernel_rfl),by decide,by kernel_rfl,rfl⟩⟩
instance:AP Tryz.prog 39 1:=⟨⟨_,_,(.int .i64 (.lit 0)),Tryz.underlying39,YP,(show bytesOf Tryz.prog 3=some 8 by kernel_rfl),by decide,by kernel_rfl,rfl⟩⟩
instance:AP Tryz.prog 48 6:=⟨⟨_,_,(.agg ([.int .i64 (.lit 0),.int .i64 (.lit 0),.int .i64 (.lit 0),.bool false,.bool false,.bool false])),Tryz.underlying48,AW,(show bytesOf Tryz.prog 54=some 32 by kernel_rfl),by decide,by kernel_rfl,rfl⟩⟩
instance:AP Tryz.prog 66 5:=⟨⟨_,_,(.agg ([.int .i64 (.lit 0),.int .i64 (.lit 0),.int .i64 (.lit 0),.int .i64 (.lit 0),.int .i64 (.lit 0)])),Tryz.underlying66,EU,(show bytesOf Tryz.prog 52=some 40 by kernel_rfl),by decide,by kernel_rfl,rfl⟩⟩
instance:AP Tryz.prog 86 1:=⟨⟨_,_,(.int .u64 (.lit 0)),Tryz.underlying86,aG,(show bytesOf Tryz.prog 32=some 8 by kernel_rfl),by decide,by kernel_rfl,rfl⟩⟩
instance:AR Tryz.prog 109 4 1:=⟨⟨_,Tryz.underlying109,EO⟩⟩
instance:AR Tryz.prog 144 4 1:=⟨⟨_,Tryz.underlying144,YP⟩⟩
instance:AR Tryz.prog 164 4 1:=⟨⟨_,Tryz.underlying164,l5⟩⟩
instance:AR Tryz.prog 257 256 1:=⟨⟨_,Tryz.underlying257,YP⟩⟩
instance:AR Tryz.prog 68 8 1:=⟨⟨_,Tryz.underlying68,aG⟩⟩
instance:AR Tryz.prog 83 2 1:=⟨⟨_,Tryz.underlying83,YP⟩⟩
instance:AR Tryz.prog 96 4 1:=⟨⟨_,Tryz.underlying96,OO⟩⟩
instance:AR Tryz.prog 97 4 10:=⟨⟨_,Tryz.underlying97,ON⟩⟩
instance:BS Tryz.prog 110 1 (.ptr none):=⟨⟨_,Tryz.underlying110,OL,by kernel_rfl,rfl,rfl⟩⟩
instance:BS Tryz.prog 179 1 (.ptr none):=⟨⟨_,Tryz.underlying179,oB,by kernel_rfl,rfl,rfl⟩⟩
instance:BS Tryz.prog 220 10 (.agg ([.int .u64 (.lit 0),.int .u64 (.lit 0),.int .u64 (.lit 0),.int .u64 (.lit 0),.int .u64 (.lit 0),.int .u64 (.lit 0),.int .u64 (.lit 0),.int .u64 (.lit 0),.int .i64 (.lit 0),.int .i64 (.lit 0)])):=⟨⟨_,Tryz.underlying220,ET,by kernel_rfl,rfl,rfl⟩⟩
instance:BS Tryz.prog 237 1 (.slice none 0 (some 0) 0):=⟨⟨_,Tryz.underlying237,KV,by kernel_rfl,rfl,rfl⟩⟩
instance:BS Tryz.prog 250 6 (.agg ([.str [],.bool false,.bool false,.bool false,.int .i64 (.lit 0),.int .i64 (.lit 0)])):=⟨⟨_,Tryz.underlying250,oC,by kernel_rfl,rfl,rfl⟩⟩
instance:BS Tryz.prog 29 4 (.agg ([.int .i64 (.lit 0),.int .i64 (.lit 0),.int .i64 (.lit 0),.int .i64 (.lit 0)])):=⟨⟨_,Tryz.underlying29,AU,by kernel_rfl,rfl,rfl⟩⟩
instance:BS Tryz.prog 294 1 (.str []):=⟨⟨_,Tryz.underlying294,sz9,by kernel_rfl,rfl,rfl⟩⟩
instance:BS Tryz.prog 37 1 (.slice none 0 (some 0) 0):=⟨⟨_,Tryz.underlying37,AV,by kernel_rfl,rfl,rfl⟩⟩
instance:BS Tryz.prog 39 1 (.int .i64 (.lit 0)):=⟨⟨_,Tryz.underlying39,YP,by kernel_rfl,rfl,rfl⟩⟩
instance:BS Tryz.prog 48 6 (.agg ([.int .i64 (.lit 0),.int .i64 (.lit 0),.int .i64 (.lit 0),.bool false,.bool false,.bool false])):=⟨⟨_,Tryz.underlying48,AW,by kernel_rfl,rfl,rfl⟩⟩
instance:BS Tryz.prog 66 5 (.agg ([.int .i64 (.lit 0),.int .i64 (.lit 0),.int .i64 (.lit 0),.int .i64 (.lit 0),.int .i64 (.lit 0)])):=⟨⟨_,Tryz.underlying66,EU,by kernel_rfl,rfl,rfl⟩⟩
instance:BS Tryz.prog 75 5 (.agg ([.int .i64 (.lit 0),.int .i64 (.lit 0),.bool false,.bool false,.slice none 0 (some 0) 0])):=⟨⟨_,Tryz.underlying75,KW,by kernel_rfl,rfl,rfl⟩⟩
instance:BS Tryz.prog 86 1 (.int .u64 (.lit 0)):=⟨⟨_,Tryz.underlying86,aG,by kernel_rfl,rfl,rfl⟩⟩
instance:FA Tryz.prog 105 0 0:=⟨⟨_,_,_,Tryz.underlying105,rfl,YP,rfl⟩⟩
instance:FA Tryz.prog 105 1 1:=⟨⟨_,_,_,Tryz.underlying105,rfl,YP,rfl⟩⟩
instance:FA Tryz.prog 107 0 0:=⟨⟨_,_,_,Tryz.underlying107,rfl,AX,rfl⟩⟩
instance:FA Tryz.prog 107 1 4:=⟨⟨_,_,_,Tryz.underlying107,rfl,EM,rfl⟩⟩
instance:FA Tryz.prog 107 2 5:=⟨⟨_,_,_,Tryz.underlying107,rfl,Ly,rfl⟩⟩
instance:FA Tryz.prog 107 3 6:=⟨⟨_,_,_,Tryz.underlying107,rfl,TZ,rfl⟩⟩
instance:FA Tryz.prog 107 4 7:=⟨⟨_,_,_,Tryz.underlying107,rfl,EN,rfl⟩⟩
instance:FA Tryz.prog 115 0 0:=⟨⟨_,_,_,Tryz.underlying115,rfl,oA,rfl⟩⟩
instance:FA Tryz.prog 115 1 9:=⟨⟨_,_,_,Tryz.underlying115,rfl,Ta,rfl⟩⟩
instance:FA Tryz.prog 115 2 13:=⟨⟨_,_,_,Tryz.underlying115,rfl,Lz,rfl⟩⟩
instance:FA Tryz.prog 115 3 14:=⟨⟨_,_,_,Tryz.underlying115,rfl,Tb,rfl⟩⟩
instance:FA Tryz.prog 115 4 15:=⟨⟨_,_,_,Tryz.underlying115,rfl,z2Z,rfl⟩⟩
instance:FA Tryz.prog 115 5 16:=⟨⟨_,_,_,Tryz.underlying115,rfl,Tc,rfl⟩⟩
instance:FA Tryz.prog 115 6 17:=⟨⟨_,_,_,Tryz.underlying115,rfl,Td,rfl⟩⟩
instance:FA Tryz.prog 117 0 0:=⟨⟨_,_,_,Tryz.underlying117,rfl,AX,rfl⟩⟩
instance:FA Tryz.prog 117 1 4:=⟨⟨_,_,_,Tryz.underlying117,rfl,YP,rfl⟩⟩
instance:FA Tryz.prog 117 2 5:=⟨⟨_,_,_,Tryz.underlying117,rfl,z2W,rfl⟩⟩
instance:FA Tryz.prog 119 0 0:=⟨⟨_,_,_,Tryz.underlying119,rfl,YP,rfl⟩⟩
instance:FA Tryz.prog 119 1 1:=⟨⟨_,_,_,Tryz.underlying119,rfl,YP,rfl⟩⟩
instance:FA Tryz.prog 119 2 2:=⟨⟨_,_,_,Tryz.underlying119,rfl,YP,rfl⟩⟩
instance:FA Tryz.prog 119 3 3:=⟨⟨_,_,_,Tryz.underlying119,rfl,z2X,rfl⟩⟩
instance:FA Tryz.prog 122 0 0:=⟨⟨_,_,_,Tryz.underlying122,rfl,KV,rfl⟩⟩
instance:FA Tryz.prog 141 0 0:=⟨⟨_,_,_,Tryz.underlying141,rfl,OM,rfl⟩⟩
instance:FA Tryz.prog 141 1 10:=⟨⟨_,_,_,Tryz.underlying141,rfl,z30,rfl⟩⟩
instance:FA Tryz.prog 147 0 0:=⟨⟨_,_,_,Tryz.underlying147,rfl,EP,rfl⟩⟩
instance:FA Tryz.prog 147 1 4:=⟨⟨_,_,_,Tryz.underlying147,rfl,Te,rfl⟩⟩
instance:FA Tryz.prog 147 2 5:=⟨⟨_,_,_,Tryz.underlying147,rfl,YP,rfl⟩⟩
instance:FA Tryz.prog 159 0 0:=⟨⟨_,_,_,Tryz.underlying159,rfl,Tg,rfl⟩⟩
instance:FA Tryz.prog 159 1 1:=⟨⟨_,_,_,Tryz.underlying159,rfl,Th,rfl⟩⟩
instance:FA Tryz.prog 159 2 2:=⟨⟨_,_,_,Tryz.underlying159,rfl,ER,rfl⟩⟩
instance:FA Tryz.prog 159 3 3:=⟨⟨_,_,_,Tryz.underlying159,rfl,ER,rfl⟩⟩
instance:FA Tryz.prog 159 4 4:=⟨⟨_,_,_,Tryz.underlying159,rfl,ER,rfl⟩⟩
instance:FA Tryz.prog 162 0 0:=⟨⟨_,_,_,Tryz.underlying162,rfl,AY,rfl⟩⟩
instance:FA Tryz.prog 162 1 8:=⟨⟨_,_,_,Tryz.underlying162,rfl,YP,rfl⟩⟩
instance:FA Tryz.prog 162 2 9:=⟨⟨_,_,_,Tryz.underlying162,rfl,l5,rfl⟩⟩
instance:FA Tryz.prog 166 0 0:=⟨⟨_,_,_,Tryz.underlying166,rfl,l4,rfl⟩⟩
instance:FA Tryz.prog 166 1 4:=⟨⟨_,_,_,Tryz.underlying166,rfl,nC,rfl⟩⟩
instance:FA Tryz.prog 166 2 5:=⟨⟨_,_,_,Tryz.underlying166,rfl,nC,rfl⟩⟩
instance:FA Tryz.prog 169 0 0:=⟨⟨_,_,_,Tryz.underlying169,rfl,l4,rfl⟩⟩
instance:FA Tryz.prog 169 1 4:=⟨⟨_,_,_,Tryz.underlying169,rfl,nC,rfl⟩⟩
instance:FA Tryz.prog 169 2 5:=⟨⟨_,_,_,Tryz.underlying169,rfl,nC,rfl⟩⟩
instance:FA Tryz.prog 172 0 0:=⟨⟨_,_,_,Tryz.underlying172,rfl,EM,rfl⟩⟩
instance:FA Tryz.prog 172 1 1:=⟨⟨_,_,_,Tryz.underlying172,rfl,ES,rfl⟩⟩
instance:FA Tryz.prog 181 0 0:=⟨⟨_,_,_,Tryz.underlying181,rfl,M1,rfl⟩⟩
instance:FA Tryz.prog 181 1 1:=⟨⟨_,_,_,Tryz.underlying181,rfl,oB,rfl⟩⟩
instance:FA Tryz.prog 197 0 0:=⟨⟨_,_,_,Tryz.underlying197,rfl,Ti,rfl⟩⟩
instance:FA Tryz.prog 206 0 0:=⟨⟨_,_,_,Tryz.underlying206,rfl,oA,rfl⟩⟩
instance:FA Tryz.prog 206 1 9:=⟨⟨_,_,_,Tryz.underlying206,rfl,YP,rfl⟩⟩
instance:FA Tryz.prog 206 2 10:=⟨⟨_,_,_,Tryz.underlying206,rfl,M3,rfl⟩⟩
instance:FA Tryz.prog 206 3 11:=⟨⟨_,_,_,Tryz.underlying206,rfl,Tj,rfl⟩⟩
instance:FA Tryz.prog 206 4 12:=⟨⟨_,_,_,Tryz.underlying206,rfl,ES,rfl⟩⟩
instance:FA Tryz.prog 206 5 13:=⟨⟨_,_,_,Tryz.underlying206,rfl,ES,rfl⟩⟩
instance:FA Tryz.prog 222 0 0:=⟨⟨_,_,_,Tryz.underlying222,rfl,M4,rfl⟩⟩
instance:FA Tryz.prog 224 0 0:=⟨⟨_,_,_,Tryz.underlying224,rfl,AY,rfl⟩⟩
instance:FA Tryz.prog 224 1 8:=⟨⟨_,_,_,Tryz.underlying224,rfl,YP,rfl⟩⟩
instance:FA Tryz.prog 224 2 9:=⟨⟨_,_,_,Tryz.underlying224,rfl,YP,rfl⟩⟩
instance:FA Tryz.prog 243 0 0:=⟨⟨_,_,_,Tryz.underlying243,rfl,l5,rfl⟩⟩
instance:FA Tryz.prog 243 1 1:=⟨⟨_,_,_,Tryz.underlying243,rfl,l5,rfl⟩⟩
instance:FA Tryz.prog 243 2 2:=⟨⟨_,_,_,Tryz.underlying243,rfl,l5,rfl⟩⟩
instance:FA Tryz.prog 243 3 3:=⟨⟨_,_,_,Tryz.underlying243,rfl,l5,rfl⟩⟩
instance:FA Tryz.prog 243 4 4:=⟨⟨_,_,_,Tryz.underlying243,rfl,YP,rfl⟩⟩
instance:FA Tryz.prog 246 0 0:=⟨⟨_,_,_,Tryz.underlying246,rfl,Tl,rfl⟩⟩
instance:FA Tryz.prog 249 1 1:=⟨⟨_,_,_,Tryz.underlying249,rfl,l5,rfl⟩⟩
instance:FA Tryz.prog 249 2 2:=⟨⟨_,_,_,Tryz.underlying249,rfl,l5,rfl⟩⟩
instance:FA Tryz.prog 249 4 4:=⟨⟨_,_,_,Tryz.underlying249,rfl,YP,rfl⟩⟩
instance:FA Tryz.prog 249 5 5:=⟨⟨_,_,_,Tryz.underlying249,rfl,YP,rfl⟩⟩
instance:FA Tryz.prog 254 0 0:=⟨⟨_,_,_,Tryz.underlying254,rfl,z2Y,rfl⟩⟩
instance:FA Tryz.prog 254 1 1:=⟨⟨_,_,_,Tryz.underlying254,rfl,YP,rfl⟩⟩
instance:FA Tryz.prog 256 0 0:=⟨⟨_,_,_,Tryz.underlying256,rfl,EM,rfl⟩⟩
instance:FA Tryz.prog 256 1 1:=⟨⟨_,_,_,Tryz.underlying256,rfl,Ly,rfl⟩⟩
instance:FA Tryz.prog 256 2 2:=⟨⟨_,_,_,Tryz.underlying256,rfl,YP,rfl⟩⟩
instance:FA Tryz.prog 256 3 3:=⟨⟨_,_,_,Tryz.underlying256,rfl,YP,rfl⟩⟩
instance:FA Tryz.prog 256 4 4:=⟨⟨_,_,_,Tryz.underlying256,rfl,YP,rfl⟩⟩
instance:FA Tryz.prog 256 5 5:=⟨⟨_,_,_,Tryz.underlying256,rfl,nC,rfl⟩⟩
instance:FA Tryz.prog 259 0 0:=⟨⟨_,_,_,Tryz.underlying259,rfl,oD,rfl⟩⟩
instance:FA Tryz.prog 26 0 0:=⟨⟨_,_,_,Tryz.underlying26,rfl,YP,rfl⟩⟩
instance:FA Tryz.prog 26 1 1:=⟨⟨_,_,_,Tryz.underlying26,rfl,YP,rfl⟩⟩
instance:FA Tryz.prog 26 2 2:=⟨⟨_,_,_,Tryz.underlying26,rfl,YP,rfl⟩⟩
instance:FA Tryz.prog 26 3 3:=⟨⟨_,_,_,Tryz.underlying26,rfl,YP,rfl⟩⟩
instance:FA Tryz.prog 265 0 0:=⟨⟨_,_,_,Tryz.underlying265,rfl,oD,rfl⟩⟩
instance:FA Tryz.prog 309 0 0:=⟨⟨_,_,_,Tryz.underlying309,rfl,nC,rfl⟩⟩
instance:FA Tryz.prog 309 1 1:=⟨⟨_,_,_,Tryz.underlying309,rfl,aG,rfl⟩⟩
instance:FA Tryz.prog 309 2 2:=⟨⟨_,_,_,Tryz.underlying309,rfl,l5,rfl⟩⟩
instance:FA Tryz.prog 309 3 3:=⟨⟨_,_,_,Tryz.underlying309,rfl,l5,rfl⟩⟩
instance:FA Tryz.prog 309 4 4:=⟨⟨_,_,_,Tryz.underlying309,rfl,l5,rfl⟩⟩
instance:FA Tryz.prog 309 5 5:=⟨⟨_,_,_,Tryz.underlying309,rfl,YP,rfl⟩⟩
instance:FA Tryz.prog 52 0 0:=⟨⟨_,_,_,Tryz.underlying52,rfl,YP,rfl⟩⟩
instance:FA Tryz.prog 52 1 1:=⟨⟨_,_,_,Tryz.underlying52,rfl,YP,rfl⟩⟩
instance:FA Tryz.prog 52 2 2:=⟨⟨_,_,_,Tryz.underlying52,rfl,YP,rfl⟩⟩
instance:FA Tryz.prog 52 3 3:=⟨⟨_,_,_,Tryz.underlying52,rfl,YP,rfl⟩⟩
instance:FA Tryz.prog 52 4 4:=⟨⟨_,_,_,Tryz.underlying52,rfl,YP,rfl⟩⟩
instance:FA Tryz.prog 54 0 0:=⟨⟨_,_,_,Tryz.underlying54,rfl,YP,rfl⟩⟩
instance:FA Tryz.prog 54 1 1:=⟨⟨_,_,_,Tryz.underlying54,rfl,YP,rfl⟩⟩
instance:FA Tryz.prog 54 2 2:=⟨⟨_,_,_,Tryz.underlying54,rfl,YP,rfl⟩⟩
instance:FA Tryz.prog 54 3 3:=⟨⟨_,_,_,Tryz.underlying54,rfl,l5,rfl⟩⟩
instance:FA Tryz.prog 54 4 4:=⟨⟨_,_,_,Tryz.underlying54,rfl,l5,rfl⟩⟩
instance:FA Tryz.prog 54 5 5:=⟨⟨_,_,_,Tryz.underlying54,rfl,l5,rfl⟩⟩
instance:FA Tryz.prog 58 0 0:=⟨⟨_,_,_,Tryz.underlying58,rfl,YP,rfl⟩⟩
instance:FA Tryz.prog 58 1 1:=⟨⟨_,_,_,Tryz.underlying58,rfl,YP,rfl⟩⟩
instance:FA Tryz.prog 58 2 2:=⟨⟨_,_,_,Tryz.underlying58,rfl,l5,rfl⟩⟩
instance:FA Tryz.prog 58 3 3:=⟨⟨_,_,_,Tryz.underlying58,rfl,l5,rfl⟩⟩
instance:FA Tryz.prog 70 0 0:=⟨⟨_,_,_,Tryz.underlying70,rfl,AY,rfl⟩⟩
instance:FA Tryz.prog 70 1 8:=⟨⟨_,_,_,Tryz.underlying70,rfl,AV,rfl⟩⟩
instance:FA Tryz.prog 70 2 9:=⟨⟨_,_,_,Tryz.underlying70,rfl,YP,rfl⟩⟩
instance:FA Tryz.prog 74 0 0:=⟨⟨_,_,_,Tryz.underlying74,rfl,AX,rfl⟩⟩
instance:FA Tryz.prog 74 1 4:=⟨⟨_,_,_,Tryz.underlying74,rfl,z2V,rfl⟩⟩
instance:FA Tryz.prog 90 0 0:=⟨⟨_,_,_,Tryz.underlying90,rfl,AY,rfl⟩⟩
instance:FA Tryz.prog 90 1 8:=⟨⟨_,_,_,Tryz.underlying90,rfl,AV,rfl⟩⟩
instance:FA Tryz.prog 90 2 9:=⟨⟨_,_,_,Tryz.underlying90,rfl,YP,rfl⟩⟩
instance:FA Tryz.prog 99 0 0:=⟨⟨_,_,_,Tryz.underlying99,rfl,AX,rfl⟩⟩
instance:FA Tryz.prog 99 1 4:=⟨⟨_,_,_,Tryz.underlying99,rfl,z32,rfl⟩⟩
instance:FA Tryz.prog 99 2 5:=⟨⟨_,_,_,Tryz.underlying99,rfl,To,rfl⟩⟩
instance:FA Tryz.prog 99 3 9:=⟨⟨_,_,_,Tryz.underlying99,rfl,z33,rfl⟩⟩
instance:FA Tryz.prog 99 4 49:=⟨⟨_,_,_,Tryz.underlying99,rfl,Tn,rfl⟩⟩
instance:FA Tryz.prog 99 5 50:=⟨⟨_,_,_,Tryz.underlying99,rfl,YP,rfl⟩⟩
instance:IC Tryz.prog 3 32 .u64:=⟨⟨_,Tryz.underlying3,Tryz.underlying32⟩⟩
instance:IC Tryz.prog 32 3 .i64:=⟨⟨_,Tryz.underlying32,Tryz.underlying3⟩⟩
instance:L1 Tryz.prog 101:=⟨by kernel_rfl⟩
instance:L1 Tryz.prog 102:=⟨by kernel_rfl⟩
instance:L1 Tryz.prog 103:=⟨by kernel_rfl⟩
instance:L1 Tryz.prog 108:=⟨by kernel_rfl⟩
instance:L1 Tryz.prog 110:=⟨by kernel_rfl⟩
instance:L1 Tryz.prog 111:=⟨by kernel_rfl⟩
instance:L1 Tryz.prog 112:=⟨by kernel_rfl⟩
instance:L1 Tryz.prog 113:=⟨by kernel_rfl⟩
instance:L1 Tryz.prog 145:=⟨by kernel_rfl⟩
instance:L1 Tryz.prog 155:=⟨by kernel_rfl⟩
instance:L1 Tryz.prog 156:=⟨by kernel_rfl⟩
instance:L1 Tryz.prog 157:=⟨by kernel_rfl⟩
instance:L1 Tryz.prog 170:=⟨by kernel_rfl⟩
instance:L1 Tryz.prog 178:=⟨by kernel_rfl⟩
instance:L1 Tryz.prog 179:=⟨by kernel_rfl⟩
instance:L1 Tryz.prog 195:=⟨by kernel_rfl⟩
instance:L1 Tryz.prog 200:=⟨by kernel_rfl⟩
instance:L1 Tryz.prog 203:=⟨by kernel_rfl⟩
instance:L1 Tryz.prog 220:=⟨by kernel_rfl⟩
instance:L1 Tryz.prog 244:=⟨by kernel_rfl⟩
instance:L1 Tryz.prog 29:=⟨by kernel_rfl⟩
instance:L1 Tryz.prog 293:=⟨by kernel_rfl⟩
instance:L1 Tryz.prog 3:=⟨by kernel_rfl⟩
instance:L1 Tryz.prog 32:=⟨by kernel_rfl⟩
instance:L1 Tryz.prog 37:=⟨by kernel_rfl⟩
instance:L1 Tryz.prog 39:=⟨by kernel_rfl⟩
instance:L1 Tryz.prog 4:=⟨by kernel_rfl⟩
instance:L1 Tryz.prog 42:=⟨by kernel_rfl⟩
instance:L1 Tryz.prog 44:=⟨by kernel_rfl⟩
instance:L1 Tryz.prog 46:=⟨by kernel_rfl⟩
instance:L1 Tryz.prog 48:=⟨by kernel_rfl⟩
instance:L1 Tryz.prog 56:=⟨by kernel_rfl⟩
instance:L1 Tryz.prog 64:=⟨by kernel_rfl⟩
instance:L1 Tryz.prog 76:=⟨by kernel_rfl⟩
instance:L1 Tryz.prog 86:=⟨by kernel_rfl⟩
instance:L1 Tryz.prog 9:=⟨by kernel_rfl⟩
instance:L1 Tryz.prog 94:=⟨by kernel_rfl⟩
instance:L1 Tryz.prog 95:=⟨by kernel_rfl⟩
instance:LN Tryz.prog 105 2:=⟨by kernel_rfl,EN⟩
instance:LN Tryz.prog 107 9:=⟨by kernel_rfl,oA⟩
instance:LN Tryz.prog 144 4:=⟨by kernel_rfl,EP⟩
instance:LN Tryz.prog 243 5:=⟨by kernel_rfl,M5⟩
instance:LN Tryz.prog 249 6:=⟨by kernel_rfl,oC⟩
instance:LN Tryz.prog 257 256:=⟨by kernel_rfl,oD⟩
instance:LN Tryz.prog 259 256:=⟨by kernel_rfl,M6⟩
instance:LN Tryz.prog 26 4:=⟨by kernel_rfl,AU⟩
instance:LN Tryz.prog 309 6:=⟨by kernel_rfl,M7⟩
instance:LN Tryz.prog 52 5:=⟨by kernel_rfl,EU⟩
instance:LN Tryz.prog 54 6:=⟨by kernel_rfl,AW⟩
instance:LN Tryz.prog 58 4:=⟨by kernel_rfl,AX⟩
instance:LN Tryz.prog 68 8:=⟨by kernel_rfl,AY⟩
instance:LN Tryz.prog 70 10:=⟨by kernel_rfl,OM⟩
instance:LN Tryz.prog 74 5:=⟨by kernel_rfl,KW⟩
instance:LN Tryz.prog 90 10:=⟨by kernel_rfl,ON⟩
instance:LN Tryz.prog 96 4:=⟨by kernel_rfl,To⟩
instance:MI Tryz.prog 170 (.int .i64 (.lit 0)):=⟨⟨_,_,Tryz.underlying170,Tryz.underlying3,by kernel_rfl⟩⟩
instance:MI Tryz.prog 244 (.agg (List.replicate 8 (.int .u64 (.lit 0)))):=⟨⟨_,_,Tryz.underlying244,Tryz.underlying3,by kernel_rfl⟩⟩
instance:MS Tryz.prog 145 4 (.agg ([.bool false,.bool false,.bool false,.bool false])):=⟨⟨_,_,Tryz.underlying145,l4,by kernel_rfl,(show bytesOf Tryz.prog 164=some 4 by kernel_rfl),by decide,rfl,rfl⟩⟩
instance:MS Tryz.prog 29 4 (.agg ([.int .i64 (.lit 0),.int .i64 (.lit 0),.int .i64 (.lit 0),.int .i64 (.lit 0)])):=⟨⟨_,_,Tryz.underlying29,AU,by kernel_rfl,(show bytesOf Tryz.prog 26=some 32 by kernel_rfl),by decide,rfl,rfl⟩⟩
instance:MS Tryz.prog 39 1 (.int .i64 (.lit 0)):=⟨⟨_,_,Tryz.underlying39,YP,by kernel_rfl,(show bytesOf Tryz.prog 3=some 8 by kernel_rfl),by decide,rfl,rfl⟩⟩
instance:MS Tryz.prog 48 6 (.agg ([.int .i64 (.lit 0),.int .i64 (.lit 0),.int .i64 (.lit 0),.bool false,.bool false,.bool false])):=⟨⟨_,_,Tryz.underlying48,AW,by kernel_rfl,(show bytesOf Tryz.prog 54=some 32 by kernel_rfl),by decide,rfl,rfl⟩⟩
instance:MS Tryz.prog 56 1 (.slice none 0 (some 0) 0):=⟨⟨_,_,Tryz.underlying56,nC,by kernel_rfl,(show bytesOf Tryz.prog 39=some 24 by kernel_rfl),by decide,rfl,rfl⟩⟩
instance:MT Tryz.prog 154:=⟨⟨_,_,Tryz.underlying154⟩⟩
instance:MT Tryz.prog 156:=⟨⟨_,_,Tryz.underlying156⟩⟩
instance:MT Tryz.prog 157:=⟨⟨_,_,Tryz.underlying157⟩⟩
instance:MT Tryz.prog 170:=⟨⟨_,_,Tryz.underlying170⟩⟩
instance:MT Tryz.prog 244:=⟨⟨_,_,Tryz.underlying244⟩⟩
instance:MT Tryz.prog 323:=⟨⟨_,_,Tryz.underlying323⟩⟩
instance:MT Tryz.prog 34:=⟨⟨_,_,Tryz.underlying34⟩⟩
instance:S1 Tryz.prog 108:=⟨EO⟩
instance:S1 Tryz.prog 110:=⟨Lz⟩
instance:S1 Tryz.prog 179:=⟨M1⟩
instance:S1 Tryz.prog 203:=⟨M3⟩
instance:S1 Tryz.prog 220:=⟨M4⟩
instance:S1 Tryz.prog 29:=⟨AV⟩
instance:S1 Tryz.prog 3:=⟨YP⟩
instance:S1 Tryz.prog 32:=⟨aG⟩
instance:S1 Tryz.prog 39:=⟨nC⟩
instance:S1 Tryz.prog 4:=⟨l5⟩
instance:S1 Tryz.prog 48:=⟨KV⟩
instance:S1 Tryz.prog 86:=⟨Tn⟩
instance:S1 Tryz.prog 95:=⟨OO⟩
instance:SB Tryz.prog 105 [(0,1),(1,1)]:=⟨⟨_,Tryz.underlying105,by kernel_rfl⟩⟩
instance:SB Tryz.prog 107 [(0,4),(4,1),(5,1),(6,1),(7,2)]:=⟨⟨_,Tryz.underlying107,by kernel_rfl⟩⟩
instance:SB Tryz.prog 115 [(0,9),(9,4),(13,1),(14,1),(15,1),(16,1),(17,1)]:=⟨⟨_,Tryz.underlying115,by kernel_rfl⟩⟩
instance:SB Tryz.prog 117 [(0,4),(4,1),(5,1)]:=⟨⟨_,Tryz.underlying117,by kernel_rfl⟩⟩
instance:SB Tryz.prog 119 [(0,1),(1,1),(2,1),(3,1)]:=⟨⟨_,Tryz.underlying119,by kernel_rfl⟩⟩
instance:SB Tryz.prog 122 [(0,1)]:=⟨⟨_,Tryz.underlying122,by kernel_rfl⟩⟩
instance:SB Tryz.prog 141 [(0,10),(10,1)]:=⟨⟨_,Tryz.underlying141,by kernel_rfl⟩⟩
instance:SB Tryz.prog 147 [(0,4),(4,1),(5,1)]:=⟨⟨_,Tryz.underlying147,by kernel_rfl⟩⟩
instance:SB Tryz.prog 159 [(0,1),(1,1),(2,1),(3,1),(4,1)]:=⟨⟨_,Tryz.underlying159,by kernel_rfl⟩⟩
instance:SB Tryz.prog 162 [(0,8),(8,1),(9,1)]:=⟨⟨_,Tryz.underlying162,by kernel_rfl⟩⟩
instance:SB Tryz.prog 166 [(0,4),(4,1),(5,1)]:=⟨⟨_,Tryz.underlying166,by kernel_rfl⟩⟩
instance:SB Tryz.prog 169 [(0,4),(4,1),(5,1)]:=⟨⟨_,Tryz.underlying169,by kernel_rfl⟩⟩
instance:SB Tryz.prog 172 [(0,1),(1,1)]:=⟨⟨_,Tryz.underlying172,by kernel_rfl⟩⟩
instance:SB Tryz.prog 181 [(0,1),(1,1)]:=⟨⟨_,Tryz.underlying181,by kernel_rfl⟩⟩
instance:SB Tryz.prog 197 [(0,1)]:=⟨⟨_,Tryz.underlying197,by kernel_rfl⟩⟩
instance:SB Tryz.prog 206 [(0,9),(9,1),(10,1),(11,1),(12,1),(13,1)]:=⟨⟨_,Tryz.underlying206,by kernel_rfl⟩⟩
instance:SB Tryz.prog 222 [(0,1)]:=⟨⟨_,Tryz.underlying222,by kernel_rfl⟩⟩
instance:SB Tryz.prog 224 [(0,8),(8,1),(9,1)]:=⟨⟨_,Tryz.underlying224,by kernel_rfl⟩⟩
instance:SB Tryz.prog 243 [(0,1),(1,1),(2,1),(3,1),(4,1)]:=⟨⟨_,Tryz.underlying243,by kernel_rfl⟩⟩
instance:SB Tryz.prog 246 [(0,1)]:=⟨⟨_,Tryz.underlying246,by kernel_rfl⟩⟩
instance:SB Tryz.prog 249 [(0,1),(1,1),(2,1),(3,1),(4,1),(5,1)]:=⟨⟨_,Tryz.underlying249,by kernel_rfl⟩⟩
instance:SB Tryz.prog 254 [(0,1),(1,1)]:=⟨⟨_,Tryz.underlying254,by kernel_rfl⟩⟩
instance:SB Tryz.prog 256 [(0,1),(1,1),(2,1),(3,1),(4,1),(5,1)]:=⟨⟨_,Tryz.underlying256,by kernel_rfl⟩⟩
instance:SB Tryz.prog 259 [(0,256)]:=⟨⟨_,Tryz.underlying259,by kernel_rfl⟩⟩
instance:SB Tryz.prog 26 [(0,1),(1,1),(2,1),(3,1)]:=⟨⟨_,Tryz.underlying26,by kernel_rfl⟩⟩
instance:SB Tryz.prog 265 [(0,256)]:=⟨⟨_,Tryz.underlying265,by kernel_rfl⟩⟩
instance:SB Tryz.prog 309 [(0,1),(1,1),(2,1),(3,1),(4,1),(5,1)]:=⟨⟨_,Tryz.underlying309,by kernel_rfl⟩⟩
instance:SB Tryz.prog 325 [(0,1),(1,1)]:=⟨⟨_,Tryz.underlying325,by kernel_rfl⟩⟩
instance:SB Tryz.prog 52 [(0,1),(1,1),(2,1),(3,1),(4,1)]:=⟨⟨_,Tryz.underlying52,by kernel_rfl⟩⟩
instance:SB Tryz.prog 54 [(0,1),(1,1),(2,1),(3,1),(4,1),(5,1)]:=⟨⟨_,Tryz.underlying54,by kernel_rfl⟩⟩
instance:SB Tryz.prog 58 [(0,1),(1,1),(2,1),(3,1)]:=⟨⟨_,Tryz.underlying58,by kernel_rfl⟩⟩
instance:SB Tryz.prog 70 [(0,8),(8,1),(9,1)]:=⟨⟨_,Tryz.underlying70,by kernel_rfl⟩⟩
instance:SB Tryz.prog 74 [(0,4),(4,1)]:=⟨⟨_,Tryz.underlying74,by kernel_rfl⟩⟩
instance:SB Tryz.prog 90 [(0,8),(8,1),(9,1)]:=⟨⟨_,Tryz.underlying90,by kernel_rfl⟩⟩
instance:SB Tryz.prog 99 [(0,4),(4,1),(5,4),(9,40),(49,1),(50,1)]:=⟨⟨_,Tryz.underlying99,by kernel_rfl⟩⟩
instance:SL Tryz.prog 110 1:=⟨⟨_,Tryz.underlying110,OL⟩⟩
instance:SL Tryz.prog 145 4:=⟨⟨_,Tryz.underlying145,l4⟩⟩
instance:SL Tryz.prog 179 1:=⟨⟨_,Tryz.underlying179,oB⟩⟩
instance:SL Tryz.prog 220 10:=⟨⟨_,Tryz.underlying220,ET⟩⟩
instance:SL Tryz.prog 237 1:=⟨⟨_,Tryz.underlying237,KV⟩⟩
instance:SL Tryz.prog 250 6:=⟨⟨_,Tryz.underlying250,oC⟩⟩
instance:SL Tryz.prog 29 4:=⟨⟨_,Tryz.underlying29,AU⟩⟩
instance:SL Tryz.prog 294 1:=⟨⟨_,Tryz.underlying294,sz9⟩⟩
instance:SL Tryz.prog 304 1:=⟨⟨_,Tryz.underlying304,EO⟩⟩
instance:SL Tryz.prog 37 1:=⟨⟨_,Tryz.underlying37,AV⟩⟩
instance:SL Tryz.prog 39 1:=⟨⟨_,Tryz.underlying39,YP⟩⟩
instance:SL Tryz.prog 48 6:=⟨⟨_,Tryz.underlying48,AW⟩⟩
instance:SL Tryz.prog 56 1:=⟨⟨_,Tryz.underlying56,nC⟩⟩
instance:SL Tryz.prog 66 5:=⟨⟨_,Tryz.underlying66,EU⟩⟩
instance:SL Tryz.prog 75 5:=⟨⟨_,Tryz.underlying75,KW⟩⟩
instance:SL Tryz.prog 86 1:=⟨⟨_,Tryz.underlying86,aG⟩⟩
instance:SN Tryz.prog 105 2:=⟨EN,by decide⟩
instance:SN Tryz.prog 107 9:=⟨oA,by decide⟩
instance:SN Tryz.prog 144 4:=⟨EP,by decide⟩
instance:SN Tryz.prog 164 4:=⟨l4,by decide⟩
instance:SN Tryz.prog 243 5:=⟨M5,by decide⟩
instance:SN Tryz.prog 249 6:=⟨oC,by decide⟩
instance:SN Tryz.prog 257 256:=⟨oD,by decide⟩
instance:SN Tryz.prog 259 256:=⟨M6,by decide⟩
instance:SN Tryz.prog 26 4:=⟨AU,by decide⟩
instance:SN Tryz.prog 309 6:=⟨M7,by decide⟩
instance:SN Tryz.prog 52 5:=⟨EU,by decide⟩
instance:SN Tryz.prog 54 6:=⟨AW,by decide⟩
instance:SN Tryz.prog 58 4:=⟨AX,by decide⟩
instance:SN Tryz.prog 68 8:=⟨AY,by decide⟩
instance:SN Tryz.prog 70 10:=⟨OM,by decide⟩
instance:SN Tryz.prog 74 5:=⟨KW,by decide⟩
instance:SN Tryz.prog 83 2:=⟨z31,by decide⟩
instance:SN Tryz.prog 90 10:=⟨ON,by decide⟩
instance:ZV Tryz.prog 105 (.agg ([.int .i64 (.lit 0),.int .i64 (.lit 0)])):=⟨by kernel_rfl⟩
instance:ZV Tryz.prog 107 (.agg ([.int .i64 (.lit 0),.int .i64 (.lit 0),.bool false,.bool false,.ptr none,.ptr none,.ptr none,.int .i64 (.lit 0),.int .i64 (.lit 0)])):=⟨by kernel_rfl⟩
instance:ZV Tryz.prog 115 (.agg ([.int .i64 (.lit 0),.int .i64 (.lit 0),.bool false,.bool false,.ptr none,.ptr none,.ptr none,.int .i64 (.lit 0),.int .i64 (.lit 0),.ptr none,.ptr none,.ptr none,.ptr none,.slice none 0 (some 0) 0,.ptr none,.ptr none,.ptr none,.ptr none])):=⟨by kernel_rfl⟩
instance:ZV Tryz.prog 117 (.agg ([.int .i64 (.lit 0),.int .i64 (.lit 0),.bool false,.bool false,.int .i64 (.lit 0),.ptr none])):=⟨by kernel_rfl⟩
instance:ZV Tryz.prog 119 (.agg ([.int .i64 (.lit 0),.int .i64 (.lit 0),.int .i64 (.lit 0),.ptr none])):=⟨by kernel_rfl⟩
instance:ZV Tryz.prog 122 (.agg ([.slice none 0 (some 0) 0])):=⟨by kernel_rfl⟩
instance:ZV Tryz.prog 141 (.agg ([.int .u64 (.lit 0),.int .u64 (.lit 0),.int .u64 (.lit 0),.int .u64 (.lit 0),.int .u64 (.lit 0),.int .u64 (.lit 0),.int .u64 (.lit 0),.int .u64 (.lit 0),.slice none 0 (some 0) 0,.int .i64 (.lit 0),.ptr none])):=⟨by kernel_rfl⟩
instance:ZV Tryz.prog 144 (.agg ([.int .i64 (.lit 0),.int .i64 (.lit 0),.int .i64 (.lit 0),.int .i64 (.lit 0)])):=⟨by kernel_rfl⟩
instance:ZV Tryz.prog 147 (.agg ([.int .i64 (.lit 0),.int .i64 (.lit 0),.int .i64 (.lit 0),.int .i64 (.lit 0),.slice none 0 (some 0) 0,.int .i64 (.lit 0)])):=⟨by kernel_rfl⟩
instance:ZV Tryz.prog 159 (.agg ([.ptr none,.map none,.map none,.map none,.map none])):=⟨by kernel_rfl⟩
instance:ZV Tryz.prog 162 (.agg ([.int .u64 (.lit 0),.int .u64 (.lit 0),.int .u64 (.lit 0),.int .u64 (.lit 0),.int .u64 (.lit 0),.int .u64 (.lit 0),.int .u64 (.lit 0),.int .u64 (.lit 0),.int .i64 (.lit 0),.bool false])):=⟨by kernel_rfl⟩
instance:ZV Tryz.prog 164 (.agg ([.bool false,.bool false,.bool false,.bool false])):=⟨by kernel_rfl⟩
instance:ZV Tryz.prog 166 (.agg ([.bool false,.bool false,.bool false,.bool false,.slice none 0 (some 0) 0,.slice none 0 (some 0) 0])):=⟨by kernel_rfl⟩
instance:ZV Tryz.prog 169 (.agg ([.bool false,.bool false,.bool false,.bool false,.slice none 0 (some 0) 0,.slice none 0 (some 0) 0])):=⟨by kernel_rfl⟩
instance:ZV Tryz.prog 172 (.agg ([.ptr none,.map none])):=⟨by kernel_rfl⟩
instance:ZV Tryz.prog 181 (.agg ([.slice none 0 (some 0) 0,.ptr none])):=⟨by kernel_rfl⟩
instance:ZV Tryz.prog 197 (.agg ([.chan none])):=⟨by kernel_rfl⟩
instance:ZV Tryz.prog 206 (.agg ([.int .i64 (.lit 0),.int .i64 (.lit 0),.bool false,.bool false,.ptr none,.ptr none,.ptr none,.int .i64 (.lit 0),.int .i64 (.lit 0),.int .i64 (.lit 0),.ptr none,.ptr none,.map none,.map none])):=⟨by kernel_rfl⟩
instance:ZV Tryz.prog 222 (.agg ([.slice none 0 (some 0) 0])):=⟨by kernel_rfl⟩
instance:ZV Tryz.prog 224 (.agg ([.int .u64 (.lit 0),.int .u64 (.lit 0),.int .u64 (.lit 0),.int .u64 (.lit 0),.int .u64 (.lit 0),.int .u64 (.lit 0),.int .u64 (.lit 0),.int .u64 (.lit 0),.int .i64 (.lit 0),.int .i64 (.lit 0)])):=⟨by kernel_rfl⟩
instance:ZV Tryz.prog 243 (.agg ([.bool false,.bool false,.bool false,.bool false,.int .i64 (.lit 0)])):=⟨by kernel_rfl⟩
instance:ZV Tryz.prog 246 (.agg ([.map none])):=⟨by kernel_rfl⟩
instance:ZV Tryz.prog 249 (.agg ([.str [],.bool false,.bool false,.bool false,.int .i64 (.lit 0),.int .i64 (.lit 0)])):=⟨by kernel_rfl⟩
instance:ZV Tryz.prog 254 (.agg ([.slice none 0 (some 0) 0,.int .i64 (.lit 0)])):=⟨by kernel_rfl⟩
instance:ZV Tryz.prog 256 (.agg ([.ptr none,.ptr none,.int .i64 (.lit 0),.int .i64 (.lit 0),.int .i64 (.lit 0),.slice none 0 (some 0) 0])):=⟨by kernel_rfl⟩
instance:ZV Tryz.prog 259 (.agg (List.replicate 256 (.int .i64 (.lit 0)))):=⟨by kernel_rfl⟩
instance:ZV Tryz.prog 26 (.agg ([.int .i64 (.lit 0),.int .i64 (.lit 0),.int .i64 (.lit 0),.int .i64 (.lit 0)])):=⟨by kernel_rfl⟩
instance:ZV Tryz.prog 265 (.agg (List.replicate 256 (.int .i64 (.lit 0)))):=⟨by kernel_rfl⟩
instance:ZV Tryz.prog 309 (.agg ([.slice none 0 (some 0) 0,.int .u64 (.lit 0),.bool false,.bool false,.bool false,.int .i64 (.lit 0)])):=⟨by kernel_rfl⟩
instance:ZV Tryz.prog 325 (.agg ([.int .i64 (.lit 0),.int .i64 (.lit 0)])):=⟨by kernel_rfl⟩
instance:ZV Tryz.prog 52 (.agg ([.int .i64 (.lit 0),.int .i64 (.lit 0),.int .i64 (.lit 0),.int .i64 (.lit 0),.int .i64 (.lit 0)])):=⟨by kernel_rfl⟩
instance:ZV Tryz.prog 54 (.agg ([.int .i64 (.lit 0),.int .i64 (.lit 0),.int .i64 (.lit 0),.bool false,.bool false,.bool false])):=⟨by kernel_rfl⟩
instance:ZV Tryz.prog 58 (.agg ([.int .i64 (.lit 0),.int .i64 (.lit 0),.bool false,.bool false])):=⟨by kernel_rfl⟩
instance:ZV Tryz.prog 68 (.agg ([.int .u64 (.lit 0),.int .u64 (.lit 0),.int .u64 (.lit 0),.int .u64 (.lit 0),.int .u64 (.lit 0),.int .u64 (.lit 0),.int .u64 (.lit 0),.int .u64 (.lit 0)])):=⟨by kernel_rfl⟩
instance:ZV Tryz.prog 70 (.agg ([.int .u64 (.lit 0),.int .u64 (.lit 0),.int .u64 (.lit 0),.int .u64 (.lit 0),.int .u64 (.lit 0),.int .u64 (.lit 0),.int .u64 (.lit 0),.int .u64 (.lit 0),.slice none 0 (some 0) 0,.int .i64 (.lit 0)])):=⟨by kernel_rfl⟩
instance:ZV Tryz.prog 74 (.agg ([.int .i64 (.lit 0),.int .i64 (.lit 0),.bool false,.bool false,.slice none 0 (some 0) 0])):=⟨by kernel_rfl⟩
instance:ZV Tryz.prog 83 (.agg ([.int .i64 (.lit 0),.int .i64 (.lit 0)])):=⟨by kernel_rfl⟩
instance:ZV Tryz.prog 90 (.agg ([.int .u64 (.lit 0),.int .u64 (.lit 0),.int .u64 (.lit 0),.int .u64 (.lit 0),.int .u64 (.lit 0),.int .u64 (.lit 0),.int .u64 (.lit 0),.int .u64 (.lit 0),.slice none 0 (some 0) 0,.int .i64 (.lit 0)])):=⟨by kernel_rfl⟩
end Go.Proofs.YtlhcpplnlgehbaaGreat
namespace Go.Px
open Go Go.RowKit
noncomputable def xA (H:Hp) (r:Nat) (v:z0):Option (z0×Hp):=match H.t.get r with
 |some (.chan cap buf s n)=>bif Nat.blt buf.length cap then some (.bool true,H.put r (.chan cap (buf++ [v]) (s+1) n))else some (.bool false,H)
 |_=>none
noncomputable def kz (H:Hp) (r:Nat):Option (z0×Hp):=match H.t.get r with
 |some (.chan cap buf s n)=>match buf with
  | []=>some (.tuple [.int .u64 (.lit 0),.bool false],H)
  |v::buf=>some (.tuple [v,.bool true],H.put r (.chan cap buf s (n+1)))
 |_=>none
noncomputable def xm (args:List z0) (H:Hp):Option (z0×Hp):=match args with
 | [.ptr (some (i,o)),v]=>match H.gP i o with
  |some (.chan (some r))=>xA H r v
  |_=>none
 |_=>none
noncomputable def Jc (args:List z0) (H:Hp):Option (z0×Hp):=match args with
 | [.ptr (some (i,o))]=>match H.gP i o with
  |some (.chan (some r))=>kz H r
  |_=>none
 |_=>none
section
variable {P:Program} {F:zD} {zB:yy} {L R:List SP} {Q:z0→List SP→Prop}
theorem SW.tF {f:FuncId} {g:List z0→Hp→Option (z0×Hp)} {zC0:List z0} (hk:zB f=some g) (h: ∀H,zU L H→ ∃v H',g zC0 H=some (v,H')∧ ∃L',Q v L'∧zU L' H'):SW P F zB f zC0 L Q:=by
 intro H hH
 obtain⟨v,H',h1,h2⟩:=h H hH
 refine⟨v,H',⟨1,fun m hm=> ?_⟩,h2⟩
 obtain⟨k,rfl⟩: ∃k,m=k+1:=⟨m-1,by omega⟩
 show(match zB f with
  |some h=>h zC0 H
  |none=>Vv P (exec P F zB k) f zC0 H)=_
 rw [hk];exact h1
theorem zU.chan {i cap:Nat} {buf:List z0} {H:Hp} (h:zU (z3 qC i (cap,buf)::R) H): ∃s r,H.t.get i=some (.chan cap buf s r):=by
 obtain⟨p,q,h1,h2,h3,⟨s,r,h4⟩,h6⟩:=h.s
 exact⟨s,r,h2 _ _ h4⟩
theorem CZ {f:FuncId} {i c cap:Nat} {buf:List z0} {v:z0} (hk:zB f=some xm) (hf:buf.length<cap→Q (.bool true) (z3 qC c (cap,buf++ [v])::z3 zC i [.chan (some c)]::R)) (hn:cap≤buf.length→Q (.bool false) (z3 qC c (cap,buf)::z3 zC i [.chan (some c)]::R)):
 SW P F zB f [.ptr (some (i,0)),v] (z3 qC c (cap,buf)::z3 zC i [.chan (some c)]::R) Q:=by
 refine SW.tF hk fun H hH=> ?_
 obtain⟨s,r,hc⟩:=hH.chan
 have hr:H.gP i 0=some (.chan (some c)):=an (cs:= [.chan (some c)]) rfl hH
 by_cases hl:buf.length<cap
 ·refine⟨.bool true,H.put c (.chan cap (buf++ [v]) (s+1) r),?_,_,hf hl,hH.put (y:=(cap,buf++ [v])) hc (fun f ⟨s,r,e⟩=>⟨_,e⟩) fun f e=>⟨_,_,e⟩⟩
  simp only [xm,hr,xA,hc]
  rw [show Nat.blt buf.length cap=true by rw [Nat.blt_eq];exact hl];rfl
 refine⟨.bool false,H,?_,_,hn (by omega),hH⟩
 simp only [xm,hr,xA,hc]
 rw [show Nat.blt buf.length cap=false by rw [←Bool.not_eq_true,Nat.blt_eq];exact hl];rfl
theorem cV {f:FuncId} {i c cap:Nat} (hk:zB f=some Jc) (hq:Q (.tuple [.int .u64 (.lit 0),.bool false]) (z3 qC c (cap,[])::z3 zC i [.chan (some c)]::R)):
 SW P F zB f [.ptr (some (i,0))] (z3 qC c (cap,[])::z3 zC i [.chan (some c)]::R) Q:=by
 refine SW.tF hk fun H hH=> ?_
 obtain⟨s,r,hc⟩:=hH.chan
 have hr:H.gP i 0=some (.chan (some c)):=an (cs:= [.chan (some c)]) rfl hH
 exact⟨_,_,by simp only [Jc,hr,kz,hc],_,hq,hH⟩
theorem cW {f:FuncId} {i c cap:Nat} {v:z0} {buf:List z0} (hk:zB f=some Jc) (hq:Q (.tuple [v,.bool true]) (z3 qC c (cap,buf)::z3 zC i [.chan (some c)]::R)):
 SW P F zB f [.ptr (some (i,0))] (z3 qC c (cap,v::buf)::z3 zC i [.chan (some c)]::R) Q:=by
 refine SW.tF hk fun H hH=> ?_
 obtain⟨s,r,hc⟩:=hH.chan
 have hr:H.gP i 0=some (.chan (some c)):=an (cs:= [.chan (some c)]) rfl hH
 exact⟨_,H.put c (.chan cap buf s (r+1)),by simp only [Jc,hr,kz,hc],_,hq,hH.put (y:=(cap,buf)) hc (fun f ⟨s,r,e⟩=>⟨_,e⟩) fun f e=>⟨_,_,e⟩⟩
end
end Go.Px
section
namespace Go.Px
open Go Go.RowKit
variable {P:Program} {F:zD} {G:(Nat→Int)→Prop} {V:qw} {B:Nat} {w0 w:World} {H:Hp}
theorem yD.grow (hW:yD B w0 V H w) {w':World} (hb:Below w.heap.size w w') (hz: ∀(b:Nat) arr el z,w.heap.size≤b→w'.heap[b]? =some (.cells arr el z)→z=(0,0)):yD B w0 V H w':=by
 refine⟨hW.below.trans (hb.mono hW.size),Nat.le_trans hW.size hb.size,hW.next,fun id b base S h=>Nat.lt_of_lt_of_le (hW.lt id b base S h) hb.size,fun id o b base S h1 h2=> ?_,hW.inj,fun b arr el z hB h=> ?_,hW.GX⟩
 ·obtain⟨x,h3,h4⟩:=hW.obj id o b base S h1 h2
  exact⟨x,by rw [hb.block b (hW.lt id b base S h2)];exact h3,h4⟩
 by_cases uE:b<w.heap.size
 ·rw [hb.block b uE]at h
  exact hW.fz b arr el z hB h
 exact hz b arr el z (by omega) h
noncomputable def Wq (args:List z0) (H:Hp):Option (z0×Hp):=match args with
 | []=>some (.bool true,H)
 |_=>none
theorem fw {f:FuncId} (hf:Zr P f) (h: ∀w,Calls P f #[] w fun e w'=>e= .returned (.bool true)∧Below w.heap.size w w'∧ ∀b arr el z,w.heap.size≤b→w'.heap[b]? =some (.cells arr el z)→z=(0,0)):
 Zq P F G B w0 fun f' args H=>if f'=f then Wq args H else none:=by
 intro f' args H v H' hh
 simp only at hh
 split at hh
 case isFalse=>cases hh
 rename_i Ru
 subst Ru
 unfold Wq at hh
 split at hh
 case h_2=>cases hh
 cases hh
 refine⟨hf,fun V w uG hF hW hl=> ?_⟩
 have e:uG= #[]:=by
  cases ha:uG.toList with
  |nil=>exact Array.toList_inj.1 ha
  |cons x l=>rw [ha]at hl;cases hl
 subst e
 refine(h w).mono fun e w' he=> ?_
 obtain⟨rfl,h1,h2⟩:=he
 exact⟨V,_,rfl,.refl V _,hW.grow h1 h2,.bool true⟩
end Go.Px
end
namespace Go.Proofs.YtlhcpplnlgehbaaGreat
open Go Go.RowKit Go.Px
abbrev vi (z:Int):z0:= .int .i64 (.lit z)
abbrev vu (n:Nat):z0:= .int .u64 (.lit (n:Int))
abbrev vp (i o:Nat):z0:= .ptr (some (i,o))
noncomputable def hk:yy:=fun f=>bif Nat.beq f 186 then some xm else bif Nat.beq f 188 then some Jc else bif Nat.beq f 22 then some Wq else none
abbrev yH (f:FuncId) (vs:List z0) (L:List SP) (Q:z0→List SP→Prop):Prop:=SW Tryz.prog [] hk f vs L Q
theorem yT {b:Bool} {p:Prop} [Decidable p] (h:b=true↔p):z0.bool b= .bool (decide p):=by
 congr 1
 cases b with
 |true=>exact(decide_eq_true (h.1 rfl)).symm
 |false=>exact(decide_eq_false fun e=>by cases h.2 e).symm
structure zF where
 n:Nat
 word:Nat→Nat→Nat
 cls:Nat→Int
 own:Nat→Int
def zF.cell (M:zF) (j:Nat):z0:=if j%10<8 then vu (M.word (j/10) (j%10))else if j%10=8 then vi (M.cls (j/10))else vi (M.own (j/10))
def zF.Ok (M:zF):Prop:=0<M.n∧M.n≤64∧ ∀f o,M.word f o≤18446744073709551615
theorem zF.pJ (M:zF) (f o:Nat) (h:o<8):M.cell (f*10+o)=vu (M.word f o):=by
 unfold zF.cell
 rw [show(f*10+o)%10=o by omega,show(f*10+o)/10=f by omega,if_pos h]
theorem zF.Bj (M:zF) (f:Nat):M.cell (f*10+8)=vi (M.cls f):=by
 unfold zF.cell
 rw [show(f*10+8)%10=8 by omega,show(f*10+8)/10=f by omega];rfl
theorem zF.Po (M:zF) (f:Nat):M.cell (f*10+9)=vi (M.own f):=by
 unfold zF.cell
 rw [show(f*10+9)%10=9 by omega,show(f*10+9)/10=f by omega];rfl
abbrev tP (m:Nat) (M:zF) (r:Nat):List SP:= [z3 zC m [.slice (some (r,0)) M.n none 10],z3 zO r (M.n*10,M.cell)]
def zY (m:Nat) (M:zF):SP:=fun h=> ∃r,M.Ok∧Sat (tP m M r) h
theorem jX (m:Nat) (M:zF): ∀h,zY m M h→ ∃r,M.Ok∧Sat (tP m M r) h:=fun _ h=>h
theorem qO {m r:Nat} {M:zF} (hM:M.Ok) {n:Nat} (hn:n=M.n) {f:Nat→z0} (hf: ∀j,j<M.n*10→f j=M.cell j): ∀h,Sat [z3 zC m [.slice (some (r,0)) n none 10],z3 zO r (n*10,f)] h→zY m M h:=by
 subst hn
 exact fun h s=>⟨r,hM,so s (vK hf)⟩
theorem gL (R:List SP) (m:Nat) (M:zF):yH 85 [vp m 0] (z3 zY m M::R) fun v L=>v=vi M.n∧L=z3 zY m M::R:=by
 refine ze (jX m M) fun r hM=> ?_
 dsimp only [tP,List.cons_append,List.nil_append]
 have VJ:=hM.1
 have Vk:=hM.2.1
 refine SW.intro rfl Tryz.func85 rfl ?_
 refine O0 8 J (fa J Y (ld J Y J (zo rfl (fun _=>vD rfl rfl rfl rfl rfl) ?_)))
 exact Z 3 J (zI J J J ⟨_,⟨rfl,rfl⟩,Sub.qi (qO hM rfl fun _ _=>rfl) Y⟩)
theorem pd (R:List SP) (m r:Nat) (M:zF) (z:Int):yH 129 [vp m 0,vi z] (z3 zC m [.slice (some (r,0)) M.n none 10]::z3 zO r (M.n*10,M.cell)::R) fun v L=>v= .bool (decide (0≤z∧z<M.n))∧L=z3 zC m [.slice (some (r,0)) M.n none 10]::z3 zO r (M.n*10,M.cell)::R:=by
 refine SW.intro rfl Tryz.func129 rfl ?_
 refine O0 8 J (z5 (fun h6=> ?_) (fun h6=> ?_))
 ·refine Z 4 J (fa J Y (ld J Y J (zo rfl (fun _=>vD rfl rfl rfl rfl rfl) ?_)))
  refine Z 5 J (zI J J J (⟨_,⟨yT ?_,rfl⟩,Y⟩))
  first|(simp;omega)|simp|omega
 refine Z 12 J (zI J J J (⟨_,⟨yT ?_,rfl⟩,Y⟩))
 first|(simp;omega)|simp|omega
def zF.at (M:zF) (r:Nat) (z:Int):Option (Nat×Nat):=if 0≤z∧z/8<M.n then some (r,(z/8).toNat*10+(z%8).toNat)else none
def zF.class (M:zF) (z:Int):Int:=if 0≤z∧z<M.n then M.cls z.toNat else-1
def zF.read (M:zF) (z:Int):Option Nat:=if 0≤z∧z/8<M.n then some (M.word (z/8).toNat (z%8).toNat)else none
def zF.rd (M:zF) (z:Int):Nat:=(M.read z).getD 0
def zF.Yo (M:zF) (f o x:Nat):zF:= { M with word:=fun a b=>if a=f∧b=o then x else M.word a b }
def zF.write (M:zF) (z:Int) (x:Nat):zF:=if 0≤z∧z/8<M.n then M.Yo (z/8).toNat (z%8).toNat x else M
def zF.Ym (M:zF) (f:Nat) (c w:Int):zF:= { M with cls:=fun a=>if a=f then c else M.cls a,own:=fun a=>if a=f then w else M.own a }
def zF.mark (M:zF) (z c w:Int):zF:=if(0≤z∧z<M.n)∧0≤c∧c≤5 then M.Ym z.toNat c w else M
def zF.zero (M:zF) (z:Int):zF:=if 0≤z∧z<M.n then { M with word:=fun a b=>if a=z.toNat then 0 else M.word a b } else M
def zF.copy (M:zF) (f t:Int):zF:=if(0≤f∧f<M.n)∧0≤t∧t<M.n then { M with word:=fun a b=>if a=t.toNat then M.word f.toNat b else M.word a b } else M
theorem zF.Vh (M:zF) (z:Int) (x:Nat):(M.write z x).n=M.n:=by unfold zF.write;split<;>rfl
theorem zF.DM (M:zF) (z c w:Int):(M.mark z c w).n=M.n:=by unfold zF.mark;split<;>rfl
theorem zF.FJ (M:zF) (z:Int):(M.zero z).n=M.n:=by unfold zF.zero;split<;>rfl
theorem zF.c3 (M:zF) (f t:Int):(M.copy f t).n=M.n:=by unfold zF.copy;split<;>rfl
theorem zF.Ok.Yo {M:zF} (h:M.Ok) (f o x:Nat) (hx:x≤18446744073709551615):(M.Yo f o x).Ok:=⟨h.1,h.2.1,fun a b=>by
 show(if a=f∧b=o then x else M.word a b)≤_
 split
 ·exact hx
 exact h.2.2 _ _⟩
theorem zF.Ok.Ym {M:zF} (h:M.Ok) (f:Nat) (c w:Int):(M.Ym f c w).Ok:=⟨h.1,h.2.1,h.2.2⟩
theorem zF.Ok.read {M:zF} (h:M.Ok) (z:Int):M.rd z≤18446744073709551615:=by
 unfold zF.rd zF.read;split
 ·exact h.2.2 _ _
 exact Nat.zero_le _
theorem zF.Ok.zero {M:zF} (h:M.Ok) (z:Int):(M.zero z).Ok:=by
 unfold zF.zero;split
 ·refine⟨h.1,h.2.1,fun a b=> ?_⟩
  show(if a=z.toNat then 0 else M.word a b)≤_
  split
  ·omega
  exact h.2.2 _ _
 exact h
theorem zF.Ok.copy {M:zF} (h:M.Ok) (f t:Int):(M.copy f t).Ok:=by
 unfold zF.copy;split
 ·refine⟨h.1,h.2.1,fun a b=> ?_⟩
  show(if a=t.toNat then M.word f.toNat b else M.word a b)≤_
  split
  ·exact h.2.2 _ _
  exact h.2.2 _ _
 exact h
theorem zF.uU (M:zF) (j:Nat):M.cell j=if j%10<8 then vu (M.word (j/10) (j%10))else if j%10=8 then vi (M.cls (j/10))else vi (M.own (j/10)):=rfl
theorem tt (M:zF) (f o x:Nat) (ho:o<8) (k:Nat) (hk:k=f*10+o) (j:Nat):upd M.cell k (vu x) j=(M.Yo f o x).cell j:=by
 subst hk
 unfold upd
 rw [zF.uU,zF.uU]
 by_cases h:j=f*10+o
 ·subst h
  rw [if_pos rfl,show(f*10+o)%10=o by omega,show(f*10+o)/10=f by omega,if_pos ho]
  simp [zF.Yo]
 rw [if_neg h]
 by_cases h2:j%10<8
 ·rw [if_pos h2,if_pos h2]
  simp only [zF.Yo]
  rw [if_neg (by omega)]
 rw [if_neg h2,if_neg h2];rfl
theorem tr (M:zF) (f:Nat) (c w:Int) (k1 k2:Nat) (h1:k1=f*10+8) (h2:k2=f*10+9) (j:Nat):upd (upd M.cell k1 (vi c)) k2 (vi w) j=(M.Ym f c w).cell j:=by
 subst h1 h2
 unfold upd
 rw [zF.uU,zF.uU]
 by_cases h:j=f*10+9
 ·subst h
  rw [if_pos rfl,show(f*10+9)%10=9 by omega,show(f*10+9)/10=f by omega]
  simp [zF.Ym]
 rw [if_neg h]
 by_cases h0:j=f*10+8
 ·subst h0
  rw [if_pos rfl,show(f*10+8)%10=8 by omega,show(f*10+8)/10=f by omega]
  simp [zF.Ym]
 rw [if_neg h0]
 by_cases h2:j%10<8
 ·rw [if_pos h2,if_pos h2];rfl
 rw [if_neg h2,if_neg h2]
 by_cases h3:j%10=8
 ·rw [if_pos h3,if_pos h3]
  show vi _=vi (if j/10=f then c else _)
  rw [if_neg (by omega)]
 rw [if_neg h3,if_neg h3]
 show vi _=vi (if j/10=f then w else _)
 rw [if_neg (by omega)]
theorem At (M:zF) (z:Int) (hz:0≤z∧z<M.n) (k:Nat) (hk:k=z.toNat*10) (j:Nat):ua M.cell k (List.replicate 8 (vu 0)) j=(M.zero z).cell j:=by
 subst hk
 rw [show M.zero z= { M with word:=fun a b=>if a=z.toNat then 0 else M.word a b } from if_pos hz]
 unfold ua
 rw [zF.uU,zF.uU]
 have hw: ∀a b,(zF.mk M.n (fun a b=>if a=z.toNat then 0 else M.word a b) M.cls M.own).word a b=if a=z.toNat then 0 else M.word a b:=fun _ _=>rfl
 by_cases h:z.toNat*10≤j
 ·rw [if_pos h]
  by_cases h8:j-z.toNat*10<8
  ·rw [List.getElem?_replicate,if_pos h8,if_pos (show j%10<8 by omega),if_pos (show j%10<8 by omega),hw,if_pos (show j/10=z.toNat by omega)];rfl
  rw [List.getElem?_eq_none (by simp;omega),hw]
  by_cases h2:j%10<8
  ·rw [if_pos h2,if_pos h2,if_neg (by omega)];rfl
  rw [if_neg h2,if_neg h2];rfl
 rw [if_neg h,hw]
 by_cases h2:j%10<8
 ·rw [if_pos h2,if_pos h2,if_neg (by omega)]
 rw [if_neg h2,if_neg h2]
theorem ot (M:zF) (f t:Int) (hf:0≤f∧f<M.n) (ht:0≤t∧t<M.n) (k l:Nat) (hk:k=t.toNat*10) (hl:l=f.toNat*10) (j:Nat):ua M.cell k (zj M.cell l 8) j=(M.copy f t).cell j:=by
 subst hk hl
 rw [show M.copy f t= { M with word:=fun a b=>if a=t.toNat then M.word f.toNat b else M.word a b } from if_pos ⟨hf,ht⟩]
 unfold ua
 have hw: ∀a b,(zF.mk M.n (fun a b=>if a=t.toNat then M.word f.toNat b else M.word a b) M.cls M.own).word a b=if a=t.toNat then M.word f.toNat b else M.word a b:=fun _ _=>rfl
 by_cases h:t.toNat*10≤j
 ·rw [if_pos h]
  by_cases h8:j-t.toNat*10<8
  ·rw [y7 _ _ _ _ h8,show f.toNat*10+(j-t.toNat*10)=f.toNat*10+j%10 by omega,zF.pJ _ _ _ (by omega),zF.uU (M:=zF.mk M.n (fun a b=>if a=t.toNat then M.word f.toNat b else M.word a b) M.cls M.own),if_pos (show j%10<8 by omega),hw,if_pos (show j/10=t.toNat by omega)];rfl
  rw [List.getElem?_eq_none (by rw [y8];omega),zF.uU,zF.uU,hw]
  by_cases h2:j%10<8
  ·rw [if_pos h2,if_pos h2,if_neg (by omega)];rfl
  rw [if_neg h2,if_neg h2];rfl
 rw [if_neg h,zF.uU,zF.uU,hw]
 by_cases h2:j%10<8
 ·rw [if_pos h2,if_pos h2,if_neg (by omega)]
 rw [if_neg h2,if_neg h2]
theorem zF.okA (M:zF) (j:Nat):kN (M.cell j)=true:=by
 rw [zF.uU]
 split
 ·rfl
 split<;>rfl
theorem nm (M:zF): ∀n k,yf (zj M.cell k n)=true:=by
 intro n
 induction n with
 |zero=>intro k;rfl
 |succ n ih=>
  intro k
  show((M.cell k).yK && yf (zj M.cell (k+1) n))=true
  rw [ih,Bool.and_true,zF.uU]
  split
  ·rfl
  split<;>rfl
theorem A4 {f:Nat→z0} (h: ∀j,kN (f j)=true): ∀n k,(zj f k n).all kN=true:=by
 intro n
 induction n with
 |zero=>intro k;rfl
 |succ n ih=>intro k;simp only [zj,List.all_cons,h,ih,Bool.and_self]
theorem F1 (R:List SP) (m r:Nat) (M:zF) (Vk:M.n≤64) (z:Int) (hz:z≤9223372036854775807):yH 106 [vp m 0,vi z] (z3 zC m [.slice (some (r,0)) M.n none 10]::z3 zO r (M.n*10,M.cell)::R) fun v L=>v= .ptr (M.at r z)∧L=z3 zC m [.slice (some (r,0)) M.n none 10]::z3 zO r (M.n*10,M.cell)::R:=by
 refine SW.intro rfl Tryz.func106 rfl ?_
 refine O0 9 J (z5 (fun h6=> ?_) (fun h6=> ?_))
 ·exact Z 14 J (zI J J J ⟨_,⟨by unfold zF.at;rw [if_neg (by omega)],rfl⟩,Y⟩)
 refine Z 3 J (zo rfl (fun _=>zG rfl rfl rfl (L8 (by omega) (by omega))) ?_)
 refine Z2 (pd _ _ _ M _) J Y Y (z5 (fun Gq=> ?_) (fun Gq=> ?_))
 ·refine Z 9 J (fa J Y (ld J Y J (Z 1 J (zo rfl (fun _=>zG rfl rfl rfl (L8 (by omega) (by omega))) ?_))))
  refine Z 1 J (zo rfl (fun _=>zG rfl rfl rfl (nv (by omega) (by omega))) ?_)
  refine zo rfl (fun _=>uo rfl rfl rfl (by omega) (by omega)) ?_
  refine fa J Y (zo rfl (fun _=>zw rfl rfl rfl (by omega) (by omega)) ?_)
  refine Z 3 J (zI J J J (⟨_,⟨?_,rfl⟩,Y⟩))
  unfold zF.at;rw [if_pos (by omega)]
  show vp _ _=vp _ _
  congr 1;omega
 exact Z 9 J (zI J J J ⟨_,⟨by unfold zF.at;rw [if_neg (by omega)],rfl⟩,Y⟩)
theorem mX (R:List SP) (m:Nat) (M:zF) (z:Int):yH 86 [vp m 0,vi z] (z3 zY m M::R) fun v L=>v=vi (M.class z)∧L=z3 zY m M::R:=by
 refine ze (jX m M) fun r hM=> ?_
 dsimp only [tP,List.cons_append,List.nil_append]
 have VJ:=hM.1
 have Vk:=hM.2.1
 refine SW.intro rfl Tryz.func86 rfl ?_
 refine O0 9 J (Z2 (pd _ _ _ M _) J Y Y (z5 (fun h7=> ?_) (fun h7=> ?_)))
 ·refine Z 8 J (fa J Y (ld J Y J (Z 1 J (zo rfl (fun _=>uo rfl rfl rfl (by omega) (by omega)) ?_))))
  refine fa J Y (qJ rfl (fun _ h=>Jd rfl rfl (by omega) (M.Bj z.toNat) h) ?_)
  refine Z 3 J (zI J J J (⟨_,⟨?_,rfl⟩,Sub.qi (qO hM rfl fun _ _=>rfl) Y⟩))
  unfold zF.class;rw [if_pos h7]
 refine Z 8 J (zI J J J (⟨_,⟨?_,rfl⟩,Sub.qi (qO hM rfl fun _ _=>rfl) Y⟩))
 unfold zF.class;rw [if_neg h7]
theorem J8 (R:List SP) (m:Nat) (M:zF) (z:Int) (hz:z≤9223372036854775807):yH 116 [vp m 0,vi z] (z3 zY m M::R) fun v L=>v= .tuple [vu (M.rd z),.bool (M.read z).isSome]∧L=z3 zY m M::R:=by
 refine ze (jX m M) fun r hM=> ?_
 dsimp only [tP,List.cons_append,List.nil_append]
 have VJ:=hM.1
 have Vk:=hM.2.1
 refine SW.intro rfl Tryz.func116 rfl ?_
 refine O0 9 J (Z2 (F1 _ _ _ M Vk _ (by omega)) J Y Y ?_)
 by_cases hz8:0≤z∧z/8<M.n
 ·rw [show M.at r z=some (r,(z/8).toNat*10+(z%8).toNat)from if_pos hz8]
  refine Z 6 J (zo rfl (fun _=>zG rfl rfl rfl rfl) ?_)
  refine Z 7 J (qJ rfl (fun _ h=>Jd rfl rfl (by omega) (M.pJ _ _ (by omega)) h) ?_)
  refine Z 4 J (qt J J J J (⟨_,⟨?_,rfl⟩,Sub.qi (qO hM rfl fun _ _=>rfl) Y⟩))
  unfold zF.rd zF.read;rw [if_pos hz8];rfl
 rw [show M.at r z=none from if_neg hz8]
 refine Z 6 J (zo rfl (fun _=>zG rfl rfl rfl rfl) ?_)
 refine Z 8 J (qt J J J J (⟨_,⟨?_,rfl⟩,Sub.qi (qO hM rfl fun _ _=>rfl) Y⟩))
 unfold zF.rd zF.read;rw [if_neg hz8];rfl
theorem Ys (R:List SP) (m:Nat) (M:zF) (z:Int) (hz:z≤9223372036854775807) (x:Nat) (hx:x≤18446744073709551615):yH 67 [vp m 0,vi z,vu x] (z3 zY m M::R) fun v L=>v= .bool (decide (0≤z∧z/8<M.n))∧L=z3 zY m (M.write z x)::R:=by
 refine ze (jX m M) fun r hM=> ?_
 dsimp only [tP,List.cons_append,List.nil_append]
 have VJ:=hM.1
 have Vk:=hM.2.1
 refine SW.intro rfl Tryz.func67 rfl ?_
 refine O0 8 J (Z2 (F1 _ _ _ M Vk _ (by omega)) J Y Y ?_)
 by_cases hz8:0≤z∧z/8<M.n
 ·rw [show M.at r z=some (r,(z/8).toNat*10+(z%8).toNat)from if_pos hz8]
  refine Z 6 J (zo rfl (fun _=>zG rfl rfl rfl rfl) ?_)
  refine Z 8 J (sF J Y J J (Z 6 J (zI J J J (⟨_,⟨yT ?_,rfl⟩,?_⟩))))
  ·simp;omega
  unfold zF.write;rw [if_pos hz8];exact Sub.qi (qO (M:=M.Yo (z/8).toNat (z%8).toNat x) (hM.Yo _ _ _ hx) rfl fun j _=>tt M _ _ x (by omega) _ rfl j) Y
 rw [show M.at r z=none from if_neg hz8]
 refine Z 6 J (zo rfl (fun _=>zG rfl rfl rfl rfl) ?_)
 refine Z 7 J (zI J J J (⟨_,⟨yT ?_,rfl⟩,?_⟩))
 ·simp;omega
 unfold zF.write;rw [if_neg hz8];exact Sub.qi (qO hM rfl fun _ _=>rfl) Y
theorem UO (R:List SP) (m:Nat) (M:zF) (z c w:Int):yH 150 [vp m 0,vi z,vi c,vi w] (z3 zY m M::R) fun v L=>v= .bool (decide ((0≤z∧z<M.n)∧0≤c∧c≤5))∧L=z3 zY m (M.mark z c w)::R:=by
 refine ze (jX m M) fun r hM=> ?_
 dsimp only [tP,List.cons_append,List.nil_append]
 have VJ:=hM.1
 have Vk:=hM.2.1
 refine SW.intro rfl Tryz.func150 rfl ?_
 refine O0 9 J (Z2 (pd _ _ _ M _) J Y Y (z5 (fun Gq=> ?_) (fun Gq=> ?_)))
 ·refine Z 4 J (z5 (fun YM=> ?_) (fun YM=> ?_))
  ·refine Z 12 J (zI J J J (⟨_,⟨yT ?_,rfl⟩,?_⟩))
   ·simp;omega
   unfold zF.mark;rw [if_neg (by omega)];exact Sub.qi (qO hM rfl fun _ _=>rfl) Y
  refine Z 4 J (z5 (fun VI=> ?_) (fun VI=> ?_))
  ·refine Z 8 J (zI J J J (⟨_,⟨yT ?_,rfl⟩,?_⟩))
   ·simp;omega
   unfold zF.mark;rw [if_neg (by omega)];exact Sub.qi (qO hM rfl fun _ _=>rfl) Y
  refine Z 5 J (zW [0,1,3,7,0,0,32,96,224,0,0,0,1535,5631,13823,32767,65535,131071] [([0,1,2,3,4,5,6,7,8,9,10,11,12,13],[3,8],some 14),([15,16],[],some 17),([],[],none)] (by kernel_rfl) ?_)
  refine z7 (ZK 2 J (zx J Y (q9 J Y J (ZK 3 J (zx J Y (q9 J Y J (ZK 3 J (uc rfl (fun _=>uo rfl rfl rfl (by omega) (by omega)) ?_))))))))
  refine zx J Y (z8 ⟨(yN J Y J J J (yN J Y J J J z9)),?_⟩)
  refine sF J Y J J (zJ (z7 (uc rfl (fun _=>uo rfl rfl rfl (by omega) (by omega)) ?_)))
  refine zx J Y (z8 ⟨z9,?_⟩)
  refine sF J Y J J (zJ (z7 (z8 ⟨z9,?_⟩)))
  refine OX 5 J (zI J J J (⟨_,⟨yT ?_,rfl⟩,?_⟩))
  ·simp;omega
  unfold zF.mark;rw [if_pos ⟨Gq,by omega⟩];exact Sub.qi (qO (M:=M.Ym z.toNat c w) (hM.Ym _ _ _) rfl fun j _=>tr M _ c w _ _ (by omega) (by omega) j) Y
 refine Z 16 J (zI J J J (⟨_,⟨yT ?_,rfl⟩,?_⟩))
 ·simp;omega
 unfold zF.mark;rw [if_neg (by omega)];exact Sub.qi (qO hM rfl fun _ _=>rfl) Y
theorem Oy (R:List SP) (m:Nat) (M:zF) (z:Int):yH 247 [vp m 0,vi z] (z3 zY m M::R) fun v L=>v= .bool (decide (0≤z∧z<M.n))∧L=z3 zY m (M.zero z)::R:=by
 refine ze (jX m M) fun r hM=> ?_
 dsimp only [tP,List.cons_append,List.nil_append]
 have VJ:=hM.1
 have Vk:=hM.2.1
 refine SW.intro rfl Tryz.func247 rfl ?_
 refine O0 9 J (Z2 (pd _ _ _ M _) J Y Y (z5 (fun h7=> ?_) (fun h7=> ?_)))
 ·refine Z 8 J (fa J Y (ld J Y J (Z 1 J (zo rfl (fun _=>bc (cs:= [_,_,_,_,_,_,_,_]) rfl rfl rfl) ?_))))
  refine zo rfl (fun _=>uo rfl rfl rfl (by omega) (by omega)) ?_
  refine fa J Y (UP rfl rfl rfl rfl (by rfl) rfl (by omega) ?_)
  refine Z 6 J (zI J J J (⟨_,⟨yT ?_,rfl⟩,?_⟩))
  ·simp;omega
  exact Sub.qi (qO (hM.zero z) (M.FJ z).symm fun j _=>At M z h7 _ (by omega) j) Y
 refine Z 8 J (zI J J J (⟨_,⟨yT ?_,rfl⟩,?_⟩))
 ·simp;omega
 unfold zF.zero;rw [if_neg h7];exact Sub.qi (qO hM rfl fun _ _=>rfl) Y
theorem Mj (R:List SP) (m:Nat) (M:zF) (f t:Int):yH 262 [vp m 0,vi f,vi t] (z3 zY m M::R) fun v L=>v= .bool (decide ((0≤f∧f<M.n)∧0≤t∧t<M.n))∧L=z3 zY m (M.copy f t)::R:=by
 refine ze (jX m M) fun r hM=> ?_
 dsimp only [tP,List.cons_append,List.nil_append]
 have VJ:=hM.1
 have Vk:=hM.2.1
 refine SW.intro rfl Tryz.func262 rfl ?_
 refine O0 9 J (Z2 (pd _ _ _ M _) J Y Y (z5 (fun h9=> ?_) (fun h9=> ?_)))
 ·refine Z 4 J (Z2 (pd _ _ _ M _) J Y Y (z5 (fun YQ=> ?_) (fun YQ=> ?_)))
  ·refine Z 6 J (zW [0,1,3,7,0,0,32,96,224,0,992,2016,4064,8191,16383,32767] [([0,1,2,3,4,5,6,7,8,9,10,11,12,13,14],[3,8,12],some 15),([],[],none)] (by kernel_rfl) ?_)
   refine z7 (ZK 2 J (zx J Y (q9 J Y J (ZK 3 J (zx J Y (q9 J Y J (ZK 1 J (uc rfl (fun _=>uo rfl rfl rfl (by omega) (by omega)) ?_))))))))
   refine zx J Y (jM rfl (fun _ h=>vB rfl rfl (by omega) (rfl) h) ?_)
   refine uc rfl (fun _=>uo rfl rfl rfl (by omega) (by omega)) ?_
   refine zx J Y (z8 ⟨(yN J Y J J J (yN J Y J J J (va rfl (fun _ h=>vB rfl rfl (by omega) (rfl) h) rfl rfl (z6 _ (A4 M.okA _ _)) z9))),?_⟩)
   refine UP rfl rfl rfl rfl (y8 _ _ _) (nm M _ _) (by omega) ?_
   refine zJ (z7 (z8 ⟨z9,?_⟩))
   refine OX 5 J (zI J J J (⟨_,⟨yT ?_,rfl⟩,?_⟩))
   ·simp;omega
   exact Sub.qi (qO (hM.copy f t) (M.c3 f t).symm fun j _=>ot M f t h9 YQ _ _ (by omega) (by omega) j) Y
  refine Z 9 J (zI J J J (⟨_,⟨yT ?_,rfl⟩,?_⟩))
  ·simp;omega
  unfold zF.copy;rw [if_neg (by omega)];exact Sub.qi (qO hM rfl fun _ _=>rfl) Y
 refine Z 14 J (zI J J J (⟨_,⟨yT ?_,rfl⟩,?_⟩))
 ·simp;omega
 unfold zF.copy;rw [if_neg (by omega)];exact Sub.qi (qO hM rfl fun _ _=>rfl) Y
theorem qf (m:Nat) (M:zF): ∀h,zY m M h→M.Ok:=fun _ h=>h.choose_spec.1
def zF.new (n:Nat):zF:=⟨n,fun _ _=>0,fun _=>0,fun _=> -1⟩
def P1 (_:Unit):List z0:= [vu 0,vu 0,vu 0,vu 0,vu 0,vu 0,vu 0,vu 0,vi 0,vi (-1)]
theorem CP: ∀(n j:Nat),j<n*10→((List.replicate n ()).flatMap P1)[j]? =some ((zF.new n).cell j):=by
 intro n j hj
 have h1:(List.replicate n ())[j/10]? =some ():=by rw [List.getElem?_replicate,if_pos (by omega)]
 have h2:=Y1 (en:=P1) (es:=10) (fun _=>rfl) (List.replicate n ()) (j/10) (j%10) () h1 (by omega)
 rw [show j/10*10+j%10=j by omega]at h2
 rw [h2,zF.uU]
 rcases(by omega:j%10=0∨j%10=1∨j%10=2∨j%10=3∨j%10=4∨j%10=5∨j%10=6∨j%10=7∨j%10=8∨j%10=9)with h|h|h|h|h|h|h|h|h|h<;>rw [h]<;>rfl
theorem I6 {m i n:Nat} (h0:0<n) (h1:n≤64): ∀h,Sat [z3 zC m [.slice (some (i,0)) n none 10],z3 (zX P1 10) (.slice (some (i,0)) n none 10) (List.replicate n ())] h→zY m (zF.new n) h:=by
 intro h s
 refine⟨i,⟨h0,h1,fun _ _=>Nat.zero_le _⟩,so s fun f hf=> ?_⟩
 have hl:(List.replicate n ()).length=n:=by simp
 have:=rO (en:=P1) (es:=10) (xs:=List.replicate n ()) (i:=i) f (by rw [hl];exact hf)
 rw [hl]at this
 refine vK (fun j hj=> ?_) f this
 unfold jW;rw [CP n j hj];rfl
theorem Nl (R:List SP) (z:Int):yH 97 [vi z] (R) fun v L=> ∃m,v=vp m 0∧L=(if 0<z then z3 zY m (zF.new (min z 64).toNat)::R else R):=by
 refine SW.intro rfl Tryz.func97 rfl ?_
 refine O0 6 J (bu [_] J Y Y J (yu rfl rfl rfl rfl fun i5=> ?_))
 refine Z 6 J (zo rfl (fun _=>tp rfl rfl rfl rfl rfl) ?_)
 refine zo rfl (fun _=>tq rfl rfl rfl rfl rfl) ?_
 refine Z 3 J (Mg (J:=fun L=>L=z3 (zX P1 10) (.slice none 0 (some 0) 0) ([]:List Unit)::z3 zC i5 [.slice none 0 (some 0) 0]::R) (fun h s=>⟨_,rfl,fW (fun _=>rfl) (by decide) 0 s⟩) ?_)
 rintro _ rfl
 refine zy (fun j T L=> ∃(k:Nat) (v:z0),(Own v k 10)∧(k≤(min (max 0 z) 64).toNat)∧j=(min (max 0 z) 64).toNat-k∧T.len=2∧Tm.get 3 T=some (vp i5 0)∧Tm.get 8 T=some (vi (min (max 0 z) 64))∧Tm.get 9 T=some (vi (k:Nat))∧Sub L (z3 (zX P1 10) v (List.replicate k ())::z3 zC i5 [v]::R)) ((min (max 0 z) 64).toNat) ⟨0,.slice none 0 (some 0) 0,.inl ⟨rfl,rfl⟩,by omega,by omega,rfl,rfl,rfl,rfl,Sub.refl _⟩ ?_
 rintro j T L0 ⟨k,v,hv,hk,rfl,hl,g3,g8,g9,yU⟩
 obtain⟨tg,rfl⟩:=FV hl g3 g8 g9
 clear hl g3 g8 g9
 refine yE yU ?_
 clear yU L0
 refine O0 3 J (z5 (fun GV=> ?_) (fun GV=> ?_))
 ·refine Z 10 J (fa J Y (ld J Y J (bu [_,_,_,_,_,_,_,_,_,_] J Y Y J (zf (cs:= [_,_,_,_,_,_,_,_,_,_]) rfl rfl rfl (by decide) rfl fun i17=> ?_))))
  refine tS rfl rfl rfl rfl rfl rfl rfl ([()]) rfl rfl (by simp) (hv.nc) (by simp;omega) rfl fun i18=> ?_
  refine Z 1 J (fa J Y (sO J Y J J J (Z 2 J (ad J (Z 2 J ?_)))))
  exact Or.inl ⟨rfl,_,by omega,k+1,.slice (some (i18,0)) ((List.replicate k ()).length+1) none 10,.inr ⟨i18,by simp⟩,by omega,rfl,rfl,rfl,rfl,rfl,(by rw [List.replicate_succ'];exact Y)⟩
 refine Z 4 J (Or.inr ⟨nofun,?_⟩)
 refine OX 6 J (zI J J J ?_)
 have XR:k=(min (max 0 z) 64).toNat:=by omega
 refine⟨_,⟨i5,rfl,rfl⟩,?_⟩
 split
 ·rcases hv with⟨rfl,h0⟩|⟨i,rfl⟩
  ·omega
  have e:(min z 64).toNat=k:=by omega
  rw [e]
  exact Sub.qi (I6 (by omega) (by omega)) Y
 exact Y
end Go.Proofs.YtlhcpplnlgehbaaGreat
