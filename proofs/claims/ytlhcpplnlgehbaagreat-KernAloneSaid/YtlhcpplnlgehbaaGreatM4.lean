/- Part of the proof: PSep6, PSep7, PSep8, PSep9, PSep10, PSep11, PAdv, PZ, PFast, KOne, KTypes, PSel, PHook, KBase, KMem. Names and blanks are cut short to keep within the size of a claim. -/
import Derived.KernelRfl
import Derived.ProofKit
import Derived.Test.YtlhcpplnlgehbaaGreatM3
import Derived.Test.YtlhcpplnlgehbaaGreatRows
import Derived.WalkKit
set_option linter.unusedVariables false
set_option linter.unusedSimpArgs false
set_option maxRecDepth 100000
namespace Go.Px
open Go Go.RowKit
section
variable {P:Program} {F:z9} {hook:yZ} {ops:Array Oper} {o:Oper} {l:List Oper} {T:Tm} {L R:List SP} {Q:Tm→List SP→Prop} {x:It} {m:List It} {H:Hp}
theorem Sub.one {κ α κ2 α2:Type} {K:κ→α→SP} {a:κ} {x:α} {K2:κ2→α2→SP} {a2:κ2} {x2:α2} [t:Tk L K a x R] (h: ∀f,K a x f→K2 a2 x2 f):Sub L (ent K2 a2 x2::R):=⟨fun f s=>(t.h f s).cons h fun _ e=>e⟩
theorem B4 {i:Nat} {cs:List AVal} [t:Tk L z8 i cs R] (f:Nat→AVal) (e: ∀j,j<cs.length→cs[j]? =some (f j)) (k:WO P F hook ops l T (ent zI i (cs.length,f)::R) Q):WO P F hook ops l T L Q:=zR (Sub.one (t:=t) (wG e)) k
theorem Ap {i:Nat} {cs:List AVal} [t:Tk L z8 i cs R] (f:Nat→AVal) (e: ∀j,j<cs.length→cs[j]? =some (f j)) (k:WK P F ops m T (ent zI i (cs.length,f)::R) Q):WK P F ops m T L Q:=fun H hH=>k H (hH.sub (Sub.one (t:=t) (wG e)))
theorem Yn {i n:Nat} {cs:List AVal} [t:Tk L z8 i cs R] (f:Nat→AVal) (hn:cs.length=n) (e: ∀j,j<cs.length→cs[j]? =some (f j)) (k:WO P F hook ops l T (ent zI i (n,f)::R) Q):WO P F hook ops l T L Q:=by subst hn;exact B4 f e k
theorem m5 {n j:Nat} {v:AVal} (h:j<(List.replicate n v).length):(List.replicate n v)[j]? =some v:=by rw [List.getElem?_replicate,if_pos (by simpa using h)]
theorem Jj {t:TypeId} {y lo hi:Operand} {i off n sz m:Nat} {f:Nat→AVal} {z1 z2:Int} [AR P t n sz] [tk:Tk L zI i (m,f) R] (ho:o.op= .slice t y (some lo) (some hi) none) (hx:opnd T y=some (.ptr (some (i,off)))) (h1:opnd T lo=some (.int .i64 (.lit z1))) (h2:opnd T hi=some (.int .i64 (.lit z2)))
 (hz:0≤z1) (hz2:z1≤z2) (hz3:z2≤(n:Nat)) (hz4:z1<(n:Nat)) (hm:off+n*sz≤m) (h:Holds L H):yJ P F T H o=some (.val (.slice (some (i,off+z1.toNat*sz)) (z2.toNat-z1.toNat) (some (n-z1.toNat)) sz) H):=by
 obtain⟨e,g1,g2⟩:=(inferInstance:AR P t n sz).h
 obtain⟨a,rfl⟩: ∃a:Nat,z1=a:=⟨z1.toNat,by omega⟩
 obtain⟨b,rfl⟩: ∃b:Nat,z2=b:=⟨z2.toNat,by omega⟩
 obtain⟨c,w,k1,k2,k3⟩:=yd.frow (R:=R) (tk.h _ h.s)
 have hr:H.row i=some w:=by simp only [Hp.row,k1]
 have n1: ∀a:Nat,vU (.int .i64 (.lit (a:Int)))=some a:=fun a=>rfl
 have b1:Nat.ble b n=true:=Nat.ble_eq_true_of_le (by omega)
 have b2:Nat.ble a b=true:=Nat.ble_eq_true_of_le (by omega)
 have b3:Nat.ble (off+n*sz) w=true:=Nat.ble_eq_true_of_le (by omega)
 have b4:Nat.beq n a=false:=by
  cases h:Nat.beq n a with
  |false=>rfl
  |true=>have:=Nat.eq_of_beq_eq_true h;omega
 simp only [yJ,ho,qr,Option.map,Option.getD,hx,h1,h2,wb,g1,g2,yv,j4,wR,wI,n1,b1,b2,cond_true,hr,b3,b4,cond_false,zH.ofVal,Int.toNat_natCast]
end
def yK (z:Int):List AVal:= [.int .i64 (.lit z)]
theorem Zk (z:Int):(yK z).length=1:=rfl
def mb (v:AVal) (n es:Nat):Prop:=(v= .slice none 0 (some 0) 0∧n=0)∨ ∃i,v= .slice (some (i,0)) n none es
theorem mb.nil (es:Nat):mb (.slice none 0 (some 0) 0) 0 es:= .inl ⟨rfl,rfl⟩
theorem mb.nc {v:AVal} {n es:Nat} (h:mb v n es): ∀p l k e,v≠ .slice (some p) l (some k) e:=by
 rcases h with⟨rfl,_⟩|⟨i,rfl⟩<;>nofun
theorem mb.cell {v:AVal} {n es:Nat} (h:mb v n es):v.isCell=true∧v.cells= [v]:=by
 rcases h with⟨rfl,_⟩|⟨i,rfl⟩<;>exact⟨rfl,rfl⟩
theorem xp {α:Type} {en:α→List AVal} {es:Nat} {xs:List α} {i:Nat} : ∀h,zP en es (.slice (some (i,0)) xs.length none es) xs h→zI i (xs.length*es,ul (xs.flatMap en)) h:=by
 rintro h ⟨h1,h2,h3⟩
 have hl:=qW h2 xs
 generalize hcs:xs.flatMap en=cs at h1 hl ⊢
 generalize xs.length=q at h1 hl ⊢
 cases h1 with
 |own i off len n _ f _ hr hn hc=>
  obtain⟨c,w,g1,g2,g3⟩:=hr
  have g2:n≤w:=g2
  refine⟨c,w,g1,by show q*es≤w;omega,fun j (hj:j<q*es)=> ?_⟩
  have:=zq f (q*es) 0 j hj
  rw [←hc,Nat.zero_add]at this
  rw [g3 j (by show j<n;omega)]
  show _=some (ul cs j)
  unfold ul
  rw [this];rfl
theorem xn {α:Type} {en:α→List AVal} {es:Nat} (he: ∀x,(en x).length=es) (h0:0<es) (e:Nat) {L:List SP} {h:yc} (s:yd L h):yd (ent (zP en es) (.slice none 0 (some 0) e) ([]:List α)::L) h:=
 ⟨fun _=>none,h,fun _=> .inl rfl,(fun _ _ h=>nomatch h),(fun _ _ h=>h),⟨.nil e es,he,h0⟩,s⟩
theorem Sub.nilE {α:Type} {en:α→List AVal} {es:Nat} (he: ∀x,(en x).length=es) (h0:0<es) (e:Nat) (L:List SP):Sub L (ent (zP en es) (.slice none 0 (some 0) e) ([]:List α)::L):=⟨fun _ s=>xn he h0 e s⟩
section
variable {P:Program} {F:z9} {hook:yZ} {ops:Array Oper} {o:Oper} {l:List Oper} {T:Tm} {L R:List SP} {Q:Tm→List SP→Prop} {H:Hp}
theorem Uq {t:TypeId} {x y:Operand} {cs:List AVal} {len:Nat} {k:IntKind} {z:Int} {v:AVal} [ha:AE P t len] (ho:o.op= .index t x y) (hx:opnd T x=some (.agg cs)) (hy:opnd T y=some (.int k (.lit z))) (hz:0≤z) (hl:z<(len:Nat)) (hv:cs[z.toNat]? =some v):yJ P F T H o=some (.val v H):=sS ho hx hy hz hl hv
end
section
variable {β:Type}
def fR (e:β→AVal) (l:List (Int×β)):List (Int×AVal):=l.map fun p=>(p.1,e p.2)
def VX (l:List (Int×β)) (z:Int):Option β:=match l with
 | []=>none
 |p::l=>if p.1=z then some p.2 else VX l z
def GW (l:List (Int×β)) (z:Int) (v:β):List (Int×β):=match l with
 | []=> [(z,v)]
 |p::l=>if p.1=z then(z,v)::l else p::GW l z v
def WE (l:List (Int×β)) (z:Int):List (Int×β):=match l with
 | []=> []
 |p::l=>if p.1=z then l else p::WE l z
theorem er (e:β→AVal) (l:List (Int×β)) (z:Int):fT (fR e l) z=(VX l z).map e:=by
 induction l with
 |nil=>rfl
 |cons p l ih=>simp only [fR,List.map_cons,fT,VX]at ih ⊢;split<;>simp [ih]
theorem oR (e:β→AVal) (l:List (Int×β)) (z:Int) (v:β):ins (fR e l) z (e v)=fR e (GW l z v):=by
 induction l with
 |nil=>rfl
 |cons p l ih=>simp only [fR,List.map_cons,ins,GW]at ih ⊢;split<;>simp [ih]
theorem eJ (e:β→AVal) (l:List (Int×β)) (z:Int):del (fR e l) z=fR e (WE l z):=by
 induction l with
 |nil=>rfl
 |cons p l ih=>simp only [fR,List.map_cons,del,WE]at ih ⊢;split<;>simp [ih]
theorem o7 {l:List (Int×β)} {z:Int} {v:β} (h:VX l z=some v):(z,v) ∈ l:=by
 induction l with
 |nil=>cases h
 |cons p l ih=>
  simp only [VX]at h
  split at h
  ·rename_i e;cases h;subst e;simp
  exact List.mem_cons_of_mem _ (ih h)
theorem lT {l:List (Int×β)} {z:Int} {v:β} {p:Int×β} (h:p ∈ GW l z v):p=(z,v)∨p ∈ l:=by
 induction l with
 |nil=>simp only [GW,List.mem_singleton]at h;exact .inl h
 |cons q l ih=>
  simp only [GW]at h
  split at h
  ·rcases List.mem_cons.1 h with h|h
   ·exact .inl h
   exact .inr (List.mem_cons_of_mem _ h)
  rcases List.mem_cons.1 h with h|h
  ·exact .inr (by rw [h];simp)
  rcases ih h with h|h
  ·exact .inl h
  exact .inr (List.mem_cons_of_mem _ h)
theorem rx {l:List (Int×β)} {z:Int} {p:Int×β} (h:p ∈ WE l z):p ∈ l:=by
 induction l with
 |nil=>cases h
 |cons q l ih=>
  simp only [WE]at h
  split at h
  ·exact List.mem_cons_of_mem _ h
  rcases List.mem_cons.1 h with h|h
  ·rw [h];simp
  exact List.mem_cons_of_mem _ (ih h)
def cM (e:β→AVal) (i:Nat) (l:List (Int×β)):SP:=GZ i (fR e l)
variable {P:Program} {F:z9} {hook:yZ} {ops:Array Oper} {o:Oper} {l:List Oper} {T:Tm} {L R:List SP} {Q:Tm→List SP→Prop} {H:Hp} {e:β→AVal}
theorem kc {t:TypeId} {x k:Operand} {i:Nat} {z:Int} {m:List (Int×β)} {zv:AVal} [hM:MI P t zv] (zb:β) (hz:zv=e zb) [tk:Tk L (cM e) i m R] (ho:o.op= .lookup t x k true) (hx:opnd T x=some (.map (some i))) (hk:opnd T k=some (.int .i64 (.lit z))) (h:Holds L H):yJ P F T H o=some (.val (.tuple [e ((VX m z).getD zb),.bool (VX m z).isSome]) H):=by
 rw [GC ho hx hk (Holds.mp (R:=R) (m:=fR e m) ⟨h.ok,tk.h _ h.s⟩),cond_true,er]
 cases VX m z with
 |none=>rw [hz];rfl
 |some v=>rfl
theorem o0 {t:TypeId} {m k x:Operand} {i:Nat} {z:Int} {y:β} {es:List (Int×β)} {zv:AVal} [hM:MI P t zv] [tk:Tk L (cM e) i es R] (hw:zJ ops T o=some true) (ho:o.op= .mapUpdate t m k x) (h1:opnd T m=some (.map (some i))) (h2:opnd T k=some (.int .i64 (.lit z))) (h3:opnd T x=some (e y))
 (kk:WO P F hook ops l (ze T o.dst unit) (ent (cM e) i (GW es z y)::R) Q):WO P F hook ops (o::l) T L Q:=by
 intro H hH
 have h0:Holds (ent GZ i (fR e es)::R) H:=⟨hH.ok,tk.h _ hH.s⟩
 obtain⟨H',g1,g2,g3,_⟩:=bl (P:=P) (F:=F) (m:=m) (k:=k) (x:=x) (z:=z) (v:=e y) (hM:=hM) h0.mp
 rw [oR]at g2
 exact qQ hw (g1 ho h1 h2 h3) (kk H' (h0.mput g2 g3))
theorem mE {t:TypeId} {c:Call} {ts:List TypeId} {m k:Operand} {i:Nat} {z:Int} {es:List (Int×β)} {zv:AVal} [hM:MI P t zv] [tk:Tk L (cM e) i es R] (hw:zJ ops T o=some true) (ho:o.op= .call c) (hc:c.callee= .builtin .delete) (ht:c.argTypes.toList=t::ts) (ha:c.args.toList= [m,k]) (h1:opnd T m=some (.map (some i))) (h2:opnd T k=some (.int .i64 (.lit z)))
 (kk:WO P F hook ops l (ze T o.dst unit) (ent (cM e) i (WE es z)::R) Q):WO P F hook ops (o::l) T L Q:=by
 intro H hH
 have h0:Holds (ent GZ i (fR e es)::R) H:=⟨hH.ok,tk.h _ hH.s⟩
 obtain⟨H',g1,g2,g3,_⟩:=xC (P:=P) (F:=F) (m:=m) (k:=k) (z:=z) (hM:=hM) h0.mp
 rw [eJ]at g2
 exact qQ hw (g1 ho hc ht ha h1 h2) (kk H' (h0.mput g2 g3))
theorem dq {t:TypeId} [hM:MT P t] (hw:zJ ops T o=some true) (ho:o.op= .makeMap t none) (k: ∀i,WO P F hook ops l (ze T o.dst (.map (some i))) (ent (cM e) i []::L) Q):WO P F hook ops (o::l) T L Q:=Gh hw ho k
end
section
variable {P:Program} {F:z9} {hook:yZ} {ops:Array Oper} {o:Oper} {l:List Oper} {T:Tm} {L R:List SP} {Q:Tm→List SP→Prop} {H:Hp}
class MS (P:Program) (t:Nat) (sz:outParam Nat) (z:outParam AVal):Prop where
 h: ∃e bt,yO P t=some (.slice e)∧yH P e=some sz∧qk P e=some z∧qC P e=some bt∧bt≤yN∧z.cells.length=sz∧z.isTuple=false
theorem oM {zc:List AVal} {v:AVal} (hz: ∀u,u ∈ zc→u=v): ∀n j,j<n*zc.length→(yA zc n)[j]? =some v:=by
 intro n
 induction n with
 |zero=>intro j h;simp at h
 |succ n ih=>
  intro j h
  show(zc++yA zc n)[j]? =_
  by_cases hj:j<zc.length
  ·rw [List.getElem?_append_left hj,List.getElem?_eq_getElem hj];exact congrArg some (hz _ (List.getElem_mem hj))
  rw [List.getElem?_append_right (by omega)];exact ih _ (by rw [Nat.add_mul]at h;omega)
theorem bx (zc:List AVal): ∀n,(yA zc n).length=n*zc.length:=by
 intro n
 induction n with
 |zero=>simp [yA]
 |succ n ih=>show(zc++yA zc n).length=_;rw [List.length_append,ih,Nat.add_mul];omega
theorem US {t:TypeId} {x y:Operand} {n sz:Nat} {z:AVal} [hs:MS P t sz z] (u:AVal) (hz: ∀w,w ∈ z.cells→w=u) (hw:zJ ops T o=some true) (ho:o.op= .makeSlice t x y) {k1 k2:IntKind} {z1 z2:Int} (hx:opnd T x=some (.int k1 (.lit z1))) (hy:opnd T y=some (.int k2 (.lit z2))) (e1:z1=n) (e2:z2=n) (hn:n≤65536)
 (k: ∀i,WO P F hook ops l (ze T o.dst (.slice (some (i,0)) n (some n) sz)) (ent zI i (n*sz,fun _=>u)::L) Q):WO P F hook ops (o::l) T L Q:=by
 intro H hH
 subst e1 e2
 obtain⟨e,bt,h1,h2,h3,h4,h5,h6,h7⟩:=hs.h
 have n1: ∀(k:IntKind) (a:Nat),vU (.int k (.lit (a:Int)))=some a:=fun k a=>rfl
 have b1:Nat.beq z.cells.length sz=true:=by rw [h6];exact Nat.beq_refl sz
 have b2:Nat.ble n 65536=true:=Nat.ble_eq_true_of_le hn
 have b3:Nat.ble n n=true:=Nat.ble_eq_true_of_le (Nat.le_refl _)
 have b4:Nat.ble bt yN=true:=Nat.ble_eq_true_of_le h5
 refine qQ hw (v:= .slice (some (H.next,0)) n (some n) sz) (H':=wC H (yA z.cells n)) ?_ (k _ _ ?_)
 ·simp only [yJ,ho,uA,h1,hx,hy,n1,h2,h3,h4,b1,b2,b3,b4,h7,Bool.not_false,Bool.and_true,cond_true]
 have:=hH.new (yA z.cells n)
 refine⟨this.ok,this.s.cons (fun f hf=> ?_) fun _ e=>e⟩
 have hl:(yA z.cells n).length=n*sz:=by rw [bx,h6]
 have:=wG (f:=fun _=>u) (fun j hj=>oM hz n j (by rw [hl]at hj;rw [h6];exact hj)) f hf
 rw [hl]at this;exact this
end
theorem jn (p:SP): ∀E R:List SP,Sub (p::(E++R)) (E++(p::R))
 | [],_=>Sub.refl _
 |e::E,R=>⟨fun h s=>(Sub.keep (p:=e) (jn p E R)).h h (yd.swap s)⟩
theorem uu (p:SP): ∀E R:List SP,Sub (E++(p::R)) (p::(E++R))
 | [],_=>Sub.refl _
 |e::E,R=>⟨fun h s=>yd.swap ((Sub.keep (p:=e) (uu p E R)).h h s)⟩
theorem tC (p q:SP) (E R:List SP):Sub (p::q::(E++R)) (E++(p::q::R)):=(Sub.keep (jn q E R)).trans (jn p E (q::R))
theorem bE (p q:SP) (E R:List SP):Sub (E++(p::q::R)) (p::q::(E++R)):=(uu p E (q::R)).trans (Sub.keep (uu q E R))
theorem lK (f:Nat→AVal) (k:Nat) (v:AVal):vK f k v=vL f k [v]:=by
 funext j
 unfold vK vL
 by_cases e:j=k
 ·rw [if_pos e,if_pos (by omega),e,Nat.sub_self];rfl
 rw [if_neg e]
 by_cases h:k≤j
 ·rw [if_pos h,List.getElem?_eq_none (by show 1≤_;omega)];rfl
 rw [if_neg h]
instance (priority:=60) tk_app {κ α:Type} (M L:List SP) (K:κ→α→SP) (a:κ) (x:α) (R:List SP) [t:Tk L K a x R]:Tk (M++L) K a x (M++R):=⟨by
 intro f s
 obtain⟨p,q,h1,h2,h3,h4,h5⟩:=s.append
 exact(uu (ent K a x) M R).h _ (yd.join h1 h2 h3 h4 (t.h _ h5)),by
 intro f s
 obtain⟨p,q,h1,h2,h3,h4,h5⟩:=((jn (ent K a x) M R).h _ s).append
 exact yd.join h1 h2 h3 h4 (t.b _ h5)⟩
theorem Qy (f:Nat→AVal) (o n k:Nat) (h:k≤n):(zY f o n).drop k=zY f (o+k) (n-k):=by
 apply List.ext_getElem?
 intro j
 rw [List.getElem?_drop]
 by_cases hj:j<n-k
 ·rw [zq _ _ _ _ (by omega),zq _ _ _ _ hj,Nat.add_assoc]
 rw [List.getElem?_eq_none (by rw [zo];omega),List.getElem?_eq_none (by rw [zo];omega)]
theorem Qx (f:Nat→AVal) (o n k:Nat) (h:k≤n):(zY f o n).take k=zY f o k:=by
 apply List.ext_getElem?
 intro j
 rw [List.getElem?_take]
 by_cases hj:j<k
 ·rw [if_pos hj,zq _ _ _ _ (by omega),zq _ _ _ _ hj]
 rw [if_neg hj,List.getElem?_eq_none (by rw [zo];omega)]
theorem ut (f:Nat→AVal) (a:Nat) (vs:List AVal) (o n:Nat) (h:o+n≤a∨a+vs.length≤o):zY (vL f a vs) o n=zY f o n:=by
 apply List.ext_getElem?
 intro j
 by_cases hj:j<n
 ·rw [zq _ _ _ _ hj,zq _ _ _ _ hj]
  congr 1
  unfold vL
  by_cases e:a≤o+j
  ·rw [if_pos e,List.getElem?_eq_none (by omega)];rfl
  rw [if_neg e]
 rw [List.getElem?_eq_none (by rw [zo];omega),List.getElem?_eq_none (by rw [zo];omega)]
section
variable {α:Type} {en:α→List AVal} {es:Nat}
theorem n6 (he: ∀x,(en x).length=es) (xs:List α) (k:Nat):(xs.drop k).flatMap en=(xs.flatMap en).drop (k*es):=by
 induction xs generalizing k with
 |nil=>simp
 |cons x xs ih=>
  cases k with
  |zero=>simp
  |succ k=>rw [List.drop_succ_cons,ih,List.flatMap_cons,List.drop_append,he,List.drop_eq_nil_of_le (as:=en x) (by rw [he,Nat.add_mul];omega),List.nil_append];congr 1;rw [Nat.add_mul];omega
theorem Gi (he: ∀x,(en x).length=es) (xs:List α) (k:Nat):(xs.take k).flatMap en=(xs.flatMap en).take (k*es):=by
 induction xs generalizing k with
 |nil=>simp
 |cons x xs ih=>
  cases k with
  |zero=>simp
  |succ k=>rw [List.take_succ_cons,List.flatMap_cons,ih,List.flatMap_cons,List.take_append,he,List.take_of_length_le (l:=en x) (by rw [he,Nat.add_mul];omega)];congr 2;rw [Nat.add_mul];omega
theorem iV {xs:List α} {off k:Nat} {x:α} {g:Nat→AVal} (he: ∀x,(en x).length=es) (hg:zY g off (xs.length*es)=xs.flatMap en) (hx:xs[k]? =some x):zY g (k*es+off) es=en x:=by
 have hk:k<xs.length:=(List.getElem?_eq_some_iff.1 hx).1
 have hm:(k+1)*es≤xs.length*es:=Nat.mul_le_mul_right es hk
 rw [Nat.add_mul,Nat.one_mul]at hm
 apply List.ext_getElem?
 intro j
 by_cases hj:j<es
 ·rw [zq _ _ _ _ hj,←j0 he xs k j x hx hj,←hg,zq _ _ _ _ (by omega)];congr 2;omega
 rw [List.getElem?_eq_none (by rw [zo];omega),List.getElem?_eq_none (by rw [he];omega)]
def r9 (c:Option Nat) (off len es n:Nat):Prop:=off+len*es≤n∧ ∀k,c=some k→off+k*es≤n∧len≤k
theorem el_close {xs:List α} {i off n len:Nat} {c:Option Nat} {f:Nat→AVal} (he: ∀x,(en x).length=es) (h0:0<es) (hl:len=xs.length) (hr:r9 c off len es n) (hf:zY f off (len*es)=xs.flatMap en): ∀h,zI i (n,f) h→zP en es (.slice (some (i,off)) len c es) xs h:=by
 intro h s
 refine⟨?_,he,h0⟩
 cases c with
 |none=>exact .own i off len n es f _ s hr.1 hf.symm
 |some k=>exact .part i off len k n es f _ s (hr.2 k rfl).1 (hr.2 k rfl).2 hf.symm
end
section
variable {P:Program} {F:z9} {hook:yZ} {ops:Array Oper} {o:Oper} {l:List Oper} {T:Tm} {L R:List SP} {Q:Tm→List SP→Prop} {H:Hp} {α:Type} {en:α→List AVal} {es:Nat} {v:AVal} {xs:List α}
theorem mZ [t:GH L v en es xs R] (hne:xs≠ []) (k: ∀i off c n f,v= .slice (some (i,off)) xs.length c es→r9 c off xs.length es n→zY f off (xs.length*es)=xs.flatMap en→(∀x,(en x).length=es)→0<es→WO P F hook ops l T (ent zI i (n,f)::R) Q):WO P F hook ops l T L Q:=by
 intro H hH
 have s:=t.h _ hH.s
 obtain⟨p,q,h1,h2,h3,h4,h5⟩:=s
 obtain⟨g1,g2,g3⟩:=h4
 have hl:=uN (en:=en) ⟨g1,g2,g3⟩
 have hne2:xs.flatMap en≠ []:=by
  intro e
  have:=qW g2 xs
  rw [e]at this
  have h0:0<xs.length:=List.length_pos_iff.2 hne
  have:=Nat.mul_pos h0 g3
  simp_all
 generalize hcs:xs.flatMap en=cs at g1 hne2
 cases g1 with
 |nil e=>exact absurd rfl hne2
 |emp i off=>exact absurd rfl hne2
 |own i off len n _ f _ hr hn hc=>
  have hl:len=xs.length:=hl
  subst hl
  exact k i off none n f rfl ⟨hn,nofun⟩ (by rw [hcs,hc]) g2 g3 H ⟨hH.ok,p,q,h1,h2,h3,hr,h5⟩
 |part i off len cap n _ f _ hr hn hle hc=>
  have hl:len=xs.length:=hl
  subst hl
  exact k i off (some cap) n f rfl ⟨by have:=Nat.mul_le_mul_right es hle;omega,fun k e=>by cases e;exact⟨hn,hle⟩⟩ (by rw [hcs,hc]) g2 g3 H ⟨hH.ok,p,q,h1,h2,h3,hr,h5⟩
theorem rU {t:TypeId} {x lo:Operand} {i off len:Nat} {c:Option Nat} {z:Int} [hs:SL P t es] (ho:o.op= .slice t x (some lo) none none) (hx:opnd T x=some (.slice (some (i,off)) len c es)) (hl:opnd T lo=some (.int .i64 (.lit z))) (h0:0≤z) (hlt:z<(len:Nat)) (hc: ∀k,c=some k→len≤k):
 yJ P F T H o=some (.val (.slice (some (i,off+z.toNat*es)) (len-z.toNat) (c.map (· -z.toNat)) es) H):=by
 obtain⟨e,g1,g2⟩:=hs.h
 obtain⟨a,rfl⟩: ∃a:Nat,z=a:=⟨z.toNat,by omega⟩
 have n1:vU (.int .i64 (.lit (a:Int)))=some a:=rfl
 have b1:Nat.ble a len=true:=Nat.ble_eq_true_of_le (by omega)
 have b2:Nat.beq es es=true:=Nat.beq_refl es
 have nb: ∀k,len≤k→Nat.beq k a=false:=fun k hk=>by
  cases h:Nat.beq k a with
  |false=>rfl
  |true=>have:=Nat.eq_of_beq_eq_true h;omega
 cases c with
 |none=>simp only [yJ,ho,qr,Option.map,Option.getD,hx,hl,wb,g1,g2,yv,j4,wR,wI,n1,b1,b2,nb len (Nat.le_refl _),cond_true,cond_false,zH.ofVal,Int.toNat_natCast]
 |some k=>simp only [yJ,ho,qr,Option.map,Option.getD,hx,hl,wb,g1,g2,yv,j4,wR,wI,n1,b1,b2,nb k (hc k rfl),cond_true,cond_false,zH.ofVal,Int.toNat_natCast]
theorem UI {t:TypeId} {x hi:Operand} {i off len:Nat} {c:Option Nat} {z:Int} [hs:SL P t es] (ho:o.op= .slice t x none (some hi) none) (hx:opnd T x=some (.slice (some (i,off)) len c es)) (hh:opnd T hi=some (.int .i64 (.lit z))) (h0:0≤z) (hle:z≤(len:Nat)) (hc: ∀k,c=some k→len≤k):
 yJ P F T H o=some (.val (.slice (some (i,off)) z.toNat c es) H):=by
 obtain⟨e,g1,g2⟩:=hs.h
 obtain⟨a,rfl⟩: ∃a:Nat,z=a:=⟨z.toNat,by omega⟩
 have n1:vU (.int .i64 (.lit (a:Int)))=some a:=rfl
 have b0:Nat.ble 0 a=true:=Nat.ble_eq_true_of_le (Nat.zero_le _)
 have b1:Nat.ble a len=true:=Nat.ble_eq_true_of_le (by omega)
 have b2:Nat.beq es es=true:=Nat.beq_refl es
 cases c with
 |none=>
  cases hb:Nat.beq len 0 with
  |false=>simp only [yJ,ho,qr,Option.map,Option.getD,hx,hh,wb,g1,g2,yv,j4,wR,wI,n1,b1,b2,hb,cond_true,cond_false,zH.ofVal,Int.toNat_natCast,Nat.zero_mul,Nat.add_zero,Nat.sub_zero]
  |true=>
   have:len=0:=Nat.eq_of_beq_eq_true hb
   have ha:a=0:=by omega
   subst ha
   simp only [yJ,ho,qr,Option.map,Option.getD,hx,hh,wb,g1,g2,yv,j4,wR,wI,n1,b1,b2,hb,cond_true,cond_false,zH.ofVal,Int.toNat_natCast,Nat.zero_mul,Nat.add_zero,Nat.sub_zero]
 |some k=>
  have b3:Nat.ble a k=true:=Nat.ble_eq_true_of_le (by have:=hc k rfl;omega)
  cases hb:Nat.beq k 0<;>simp only [yJ,ho,qr,Option.map,Option.getD,hx,hh,wb,g1,g2,yv,j4,wR,wI,n1,b3,b2,hb,cond_true,cond_false,zH.ofVal,Int.toNat_natCast,Nat.zero_mul,Nat.add_zero,Nat.sub_zero]
theorem bp {c:Call} {t:TypeId} {ts:List TypeId} {x:Operand} {i off n m:Nat} {cp:Option Nat} {e0:Nat} {f:Nat→AVal} {z:AVal} [hs:MS P t es z] [tk:Tk L zI i (m,f) R] (hw:zJ ops T o=some true) (ho:o.op= .call c) (hc:c.callee= .builtin .clear) (ht:c.argTypes.toList=t::ts) (ha:c.args.toList= [x]) (hx:opnd T x=some (.slice (some (i,off)) n cp e0))
 (hv:yL z.cells=true) (hl:off+n*es≤m) (k: ∀vs:List AVal,vs.length=n*es→WO P F hook ops l (ze T o.dst unit) (ent zI i (m,vL f off vs)::R) Q):WO P F hook ops (o::l) T L Q:=by
 intro H hH
 obtain⟨e,bt,h1,h2,h3,h4,h5,h6,h7⟩:=hs.h
 have hln:(yA z.cells n).length=n*es:=by rw [bx,h6]
 have hall:yL (yA z.cells n)=true:=by
  clear hl hln hx k
  induction n with
  |zero=>rfl
  |succ n ih=>show yL (z.cells++yA z.cells n)=true;rw [wL]at ih ⊢;intro u hu;rcases List.mem_append.1 hu with hu|hu;exact(wL _).1 hv u hu;exact ih u hu
 obtain⟨H',g1,g2⟩:=(Holds.stN (R:=R) ⟨hH.ok,tk.h _ hH.s⟩ (a:=off) (vs:=yA z.cells n) (by omega) hall)
 refine qQ hw (v:=unit) (H':=H') ?_ (k _ hln H' g2)
 simp only [yJ,ho,hc,ht,ha,qf,hx,yU,yI,h1,h3,g1]
theorem tK {t:TypeId} {x lo:Operand} {z:Int} [hs:SL P t es] [tk:GH L v en es xs R] (hw:zJ ops T o=some true) (ho:o.op= .slice t x (some lo) none none) (hx:opnd T x=some v) (hl:opnd T lo=some (.int .i64 (.lit z))) (h0:0≤z) (hle:z≤(xs.length:Nat))
 (k: ∀w,WO P F hook ops l (ze T o.dst w) (ent (zP en es) w (xs.drop z.toNat)::R) Q):WO P F hook ops (o::l) T L Q:=by
 intro H hH
 obtain⟨p,q,s1,s2,s3,⟨q1,q2,q3⟩,s5⟩:=tk.h _ hH.s
 have hlen:=uN (en:=en) ⟨q1,q2,q3⟩
 obtain⟨e,g1,g2⟩:=hs.h
 obtain⟨a,rfl⟩: ∃a:Nat,z=a:=⟨z.toNat,by omega⟩
 have n1:vU (.int .i64 (.lit (a:Int)))=some a:=rfl
 have b2:Nat.beq es es=true:=Nat.beq_refl es
 have hfl:((xs.drop a).flatMap en)=(xs.flatMap en).drop (a*es):=n6 q2 xs a
 rw [Int.toNat_natCast]at k
 have fin: ∀w,(xw p w es ((xs.flatMap en).drop (a*es)))→yJ P F T H o=some (.val w H)→vH P F hook ops (o::l) T H (fun T' H'=> ∃L',Q T' L'∧Holds L' H'):=fun w hw2 ha=>by
  refine qQ hw ha (k w H ⟨hH.ok,p,q,s1,s2,s3,⟨by rw [hfl];exact hw2,q2,q3⟩,s5⟩)
 generalize hcs:xs.flatMap en=cs at q1 fin
 cases q1 with
 |nil e0=>
  have:a=0:=by have:(0:Nat)=xs.length:=hlen;omega
  subst this
  have b0:Nat.ble 0 0=true:=rfl
  exact fin (.slice none 0 (some 0) e0) (by rw [Nat.zero_mul];exact .nil e0 es) (by simp only [yJ,ho,qr,Option.map,Option.getD,hx,hl,wb,g1,g2,yv,j4,wR,wI,n1,b0,cond_true,zH.ofVal])
 |emp i off=>
  have:a=0:=by have:(0:Nat)=xs.length:=hlen;omega
  subst this
  have b0:Nat.ble 0 0=true:=rfl
  have b3:Nat.beq 0 0=true:=rfl
  exact fin (.slice (some (i,off)) 0 (some 0) es) (by rw [Nat.zero_mul];exact .emp i off es) (by simp only [yJ,ho,qr,Option.map,Option.getD,hx,hl,wb,g1,g2,yv,j4,wR,wI,n1,b2,b0,b3,cond_true,zH.ofVal])
 |own i off len n _ f _ hr hn hc=>
  have hlen:len=xs.length:=hlen
  have hal:a≤len:=by omega
  have b1:Nat.ble a len=true:=Nat.ble_eq_true_of_le hal
  have hm:a*es+(len-a)*es=len*es:=by rw [←Nat.add_mul];congr 1;omega
  have hd:cs.drop (a*es)=zY f (off+a*es) ((len-a)*es):=by rw [hc,Qy _ _ _ _ (by omega)];congr 1;omega
  refine fin (.slice (some (i,off+a*es)) (len-a) none es) (.own i (off+a*es) (len-a) n es f _ hr (by omega) hd) ?_
  cases hb:Nat.beq len a with
  |false=>simp only [yJ,ho,qr,Option.map,Option.getD,hx,hl,wb,g1,g2,yv,j4,wR,wI,n1,b1,b2,hb,cond_true,cond_false,zH.ofVal]
  |true=>
   have:=Nat.eq_of_beq_eq_true hb
   have h0:len-a=0:=by omega
   simp only [yJ,ho,qr,Option.map,Option.getD,hx,hl,wb,g1,g2,yv,j4,wR,wI,n1,b1,b2,hb,cond_true,cond_false,zH.ofVal,h0]
 |part i off len cap n _ f _ hr hn hle2 hc=>
  have hlen:len=xs.length:=hlen
  have hal:a≤len:=by omega
  have b1:Nat.ble a len=true:=Nat.ble_eq_true_of_le hal
  have hm:a*es+(len-a)*es=len*es:=by rw [←Nat.add_mul];congr 1;omega
  have hm2:a*es+(cap-a)*es=cap*es:=by rw [←Nat.add_mul];congr 1;omega
  have hd:cs.drop (a*es)=zY f (off+a*es) ((len-a)*es):=by rw [hc,Qy _ _ _ _ (by omega)];congr 1;omega
  cases hb:Nat.beq cap a with
  |false=>
   refine fin (.slice (some (i,off+a*es)) (len-a) (some (cap-a)) es) (.part i (off+a*es) (len-a) (cap-a) n es f _ hr (by omega) (by omega) hd) ?_
   simp only [yJ,ho,qr,Option.map,Option.getD,hx,hl,wb,g1,g2,yv,j4,wR,wI,n1,b1,b2,hb,cond_true,cond_false,zH.ofVal]
  |true=>
   have hca:=Nat.eq_of_beq_eq_true hb
   have h0:len-a=0:=by omega
   have h1:cap-a=0:=by omega
   have hd0:cs.drop (a*es)= []:=by rw [hd,h0,Nat.zero_mul];rfl
   refine fin (.slice (some (i,off)) 0 (some 0) es) (by rw [hd0];exact .emp i off es) ?_
   simp only [yJ,ho,qr,Option.map,Option.getD,hx,hl,wb,g1,g2,yv,j4,wR,wI,n1,b1,b2,hb,cond_true,cond_false,zH.ofVal,h0,h1]
theorem Holds.shapeE [t:GH L v en es xs R] (hH:Holds L H): ∃a c e,v= .slice a xs.length c e∧(a=none→xs= []∧c=some 0):=by
 obtain⟨p,q,h1,h2,h3,h4,h5⟩:=t.h _ hH.s
 obtain⟨a,c,e,rfl⟩:=gp h4
 refine⟨a,c,e,rfl,fun ha=> ?_⟩
 subst ha
 obtain⟨g1,g2,g3⟩:=h4
 have hc:(xs.flatMap en)= []∧c=some 0:=by
  generalize xs.flatMap en=cs at g1
  generalize xs.length=n at g1
  cases g1 with
  |nil=>exact⟨rfl,rfl⟩
 obtain⟨hc,hc0⟩:=hc
 refine⟨?_,hc0⟩
 have h:=qW g2 xs
 rw [hc]at h
 rcases Nat.eq_zero_or_pos xs.length with h0|h0
 ·exact List.eq_nil_of_length_eq_zero h0
 have:=Nat.mul_pos h0 g3
 rw [←h]at this;exact absurd this (Nat.lt_irrefl _)
theorem Jl {a:Option (Nat×Nat)} {n e:Nat} {c:Option Nat} (h:a=none→c=some 0):Yw (.slice a n c e) (.slice a n c e)=true:=by
 cases a with
 |none=>rw [h rfl];exact z3 _ rfl
 |some p=>cases c<;>exact z3 _ rfl
theorem yD [t:GH L v en es xs R] (k: ∀a c e,v= .slice a xs.length c e→(a=none→xs= []∧c=some 0)→WO P F hook ops l T L Q):WO P F hook ops l T L Q:=fun H hH=>by
 obtain⟨a,c,e,h1,h2⟩:=Holds.shapeE (t:=t) hH
 exact k a c e h1 h2 H hH
theorem YO {cd:Code} {Q:AExit→Tm→List SP→Prop} [t:GH L v en es xs R] (k: ∀a c e,v= .slice a xs.length c e→(a=none→xs= []∧c=some 0)→WC P F hook cd T L Q):WC P F hook cd T L Q:=fun H hH=>by
 obtain⟨a,c,e,h1,h2⟩:=Holds.shapeE (t:=t) hH
 exact k a c e h1 h2 H hH
end
theorem Sub.empE {α:Type} {en:α→List AVal} {es:Nat} (he: ∀x,(en x).length=es) (h0:0<es) (i off:Nat) (L:List SP):Sub L (ent (zP en es) (.slice (some (i,off)) 0 (some 0) es) ([]:List α)::L):=
 ⟨fun h s=>⟨fun _=>none,h,fun _=> .inl rfl,(fun _ _ h=>nomatch h),(fun _ _ h=>h),⟨.emp i off es,he,h0⟩,s⟩⟩
section
variable {P:Program} {F:z9} {H:Hp}
abbrev uadd (a b:Nat):Nat:=(a+b)%18446744073709551616
theorem kj (a b:Nat):uadd a b≤18446744073709551615:=by have:=Nat.mod_lt (a+b) (show 0<18446744073709551616 by decide);unfold uadd;omega
theorem YH {t:TypeId} {c:Bool} {x y:Nat} :wJ P F H .add t c (.int .u64 (.lit (x:Int))) (.int .u64 (.lit (y:Int)))=some (.int .u64 (.lit ((uadd x y:Nat):Int))):=by
 have e:(if QN .u64 ((x:Int)+y)then((x:Int)+y)else IntKind.u64.wrap ((x:Int)+y))=((uadd x y:Nat):Int):=by
  have hw:IntKind.u64.wrap ((x:Int)+y)=((uadd x y:Nat):Int):=by
   simp only [IntKind.wrap,IntKind.bits,IntKind.signed,Bool.false_and,Bool.false_eq_true,if_false]
   unfold uadd
   rw [Int.natCast_emod,Int.natCast_add];rfl
  split
  ·rename_i h;exact(uy (k:= .u64) h).symm.trans hw
  exact hw
 have hk:vf .u64 .u64=true:=rfl
 rw [←e]
 cases hb:QN .u64 ((x:Int)+y)<;>simp [wJ,hk,uZ,zU.add,zU.wrap,hb]
end
theorem aK {P:Program} {F:z9} {ops:Array Oper} {m:List It} {T:Tm} {L R:List SP} {Q:Tm→List SP→Prop} {i n:Nat} {cs:List AVal} [t:Tk L z8 i cs R] (f:Nat→AVal) (hn:cs.length=n) (e: ∀j,j<cs.length→cs[j]? =some (f j)) (k:WK P F ops m T (ent zI i (n,f)::R) Q):WK P F ops m T L Q:=by subst hn;exact Ap f e k
theorem js {P:Program} {F:z9} {ops:Array Oper} {m:List It} {T:Tm} {d:Option Tmp} {L:List SP} {Q:Tm→List SP→Prop} {v w:AVal} (e:v=w) (k:WK P F ops m (ze T d w) L Q):WK P F ops m (ze T d v) L Q:=by subst e;exact k
theorem yd.perm {L M:List SP} (p:L.Perm M): ∀ {h:yc},yd L h→yd M h:=by
 induction p with
 |nil=>intro h s;exact s
 |cons x _ ih=>intro h s;exact s.cons (fun _ e=>e) fun _ e=>ih e
 |swap x y l=>intro h s;exact s.swap
 |trans _ _ ih1 ih2=>intro h s;exact ih2 (ih1 s)
def zG {β:Type} (K:β→SP) (_:Nat) (x:List Nat×(Nat→β)):SP:=yd (x.1.map fun s=>K (x.2 s))
section
variable {β:Type} {K:β→SP} {b:Nat} {l:List Nat} {f g:Nat→β} {s:Nat} {R:List SP}
theorem star_pick (hs:s ∈ l):Sub (ent (zG K) b (l,f)::R) (K (f s)::ent (zG K) b (l.erase s,f)::R):=⟨fun h x=>by
 have e:yd ((l.map fun s=>K (f s))++R) h:=ZA x
 have p:(l.map fun s=>K (f s)).Perm (K (f s)::((l.erase s).map fun s=>K (f s))):=(List.perm_cons_erase hs).map _
 have e2:yd ((K (f s)::((l.erase s).map fun s=>K (f s)))++R) h:=yd.perm (p.append_right R) e
 exact e2.cons (fun _ e=>e) fun _ e=>qL e⟩
theorem star_put (hs:s ∈ l) (hd:l.Nodup) (hg: ∀j,j ∈ l→j≠s→g j=f j):Sub (K (g s)::ent (zG K) b (l.erase s,f)::R) (ent (zG K) b (l,g)::R):=⟨fun h x=>by
 have e:((l.erase s).map fun s=>K (f s))=(l.erase s).map fun s=>K (g s):=by
  refine List.map_congr_left fun j hj=> ?_
  obtain⟨h1,h2⟩:=(List.Nodup.mem_erase_iff hd).1 hj
  rw [hg j h2 h1]
 have e2:yd ((K (g s)::((l.erase s).map fun s=>K (g s)))++R) h:=x.cons (fun _ e=>e) fun k y=>by
  rw [←e];exact ZA y
 have p:(l.map fun s=>K (g s)).Perm (K (g s)::((l.erase s).map fun s=>K (g s))):=(List.perm_cons_erase hs).map _
 exact qL (yd.perm (p.symm.append_right R) e2)⟩
theorem Qh (hg: ∀j,j ∈ l→g j=f j): ∀h,zG K b (l,f) h→zG K b (l,g) h:=fun h x=>by
 have e:(l.map fun s=>K (f s))=l.map fun s=>K (g s):=List.map_congr_left fun j hj=>by rw [hg j hj]
 show yd (l.map fun s=>K (g s)) h
 rw [←e];exact x
theorem jq:Sub R (ent (zG K) b ([],f)::R):=⟨fun h s=>⟨fun _=>none,h,fun _=> .inl rfl,(fun _ _ h=>nomatch h),(fun _ _ h=>h),trivial,s⟩⟩
theorem gt {n:Nat} (hg: ∀j,j<n→g j=f j):Sub (K (g n)::ent (zG K) b (List.range n,f)::R) (ent (zG K) b (List.range (n+1),g)::R):=⟨fun h x=>by
 have e2:yd ((K (g n)::((List.range n).map fun s=>K (g s)))++R) h:=x.cons (fun _ e=>e) fun k y=>ZA (y.cons (q:=ent (zG K) b (List.range n,g)) (fun f e=>Qh (fun j hj=>hg j (List.mem_range.1 hj)) f e) fun _ e=>e)
 refine qL (L:=(List.range (n+1)).map fun s=>K (g s)) (yd.perm ?_ e2)
 rw [List.range_succ,List.map_append]
 exact(List.perm_append_singleton _ _).symm.append_right R⟩
end
theorem qc {s n:Nat} (h:s<n):s ∈ List.range n:=List.mem_range.2 h
section
variable {P:Program} {F:z9} {hook:yZ} {ops:Array Oper} {o:Oper} {l:List Oper} {T:Tm} {L:List SP} {Q:Tm→List SP→Prop}
theorem Holds.tk5 {κ1 α1:Type} {K1:κ1→α1→SP} {a1:κ1} {x1:α1} {κ2 α2:Type} {K2:κ2→α2→SP} {a2:κ2} {x2:α2} {κ3 α3:Type} {K3:κ3→α3→SP} {a3:κ3} {x3:α3} {κ4 α4:Type} {K4:κ4→α4→SP} {a4:κ4} {x4:α4} {κ5 α5:Type} {K5:κ5→α5→SP} {a5:κ5} {x5:α5} {L R1 R2 R3 R4 R:List SP} {H:Hp} [t1:Tk L K1 a1 x1 R1] [t2:Tk R1 K2 a2 x2 R2] [t3:Tk R2 K3 a3 x3 R3] [t4:Tk R3 K4 a4 x4 R4] [t5:Tk R4 K5 a5 x5 R] (h:Holds L H):Holds (ent K1 a1 x1::ent K2 a2 x2::ent K3 a3 x3::ent K4 a4 x4::ent K5 a5 x5::R) H:=⟨h.ok,(t1.h _ h.s).cons (fun _ e=>e) fun _ e=>(t2.h _ e).cons (fun _ e=>e) fun _ e=>(t3.h _ e).cons (fun _ e=>e) fun _ e=>(t4.h _ e).cons (fun _ e=>e) t5.h⟩
theorem sM {f:FuncId} {as:List AVal} {κ1 α1:Type} {K1:κ1→α1→SP} {a1:κ1} {x1:α1} {κ2 α2:Type} {K2:κ2→α2→SP} {a2:κ2} {x2:α2} {κ3 α3:Type} {K3:κ3→α3→SP} {a3:κ3} {x3:α3} {κ4 α4:Type} {K4:κ4→α4→SP} {a4:κ4} {x4:α4} {κ5 α5:Type} {K5:κ5→α5→SP} {a5:κ5} {x5:α5} {R1 R2 R3 R4 R:List SP} {Q':AVal→List SP→Prop} [t1:Tk L K1 a1 x1 R1] [t2:Tk R1 K2 a2 x2 R2] [t3:Tk R2 K3 a3 x3 R3] [t4:Tk R3 K4 a4 x4 R4] [t5:Tk R4 K5 a5 x5 R] (hc:SW P F hook f as (ent K1 a1 x1::ent K2 a2 x2::ent K3 a3 x3::ent K4 a4 x4::ent K5 a5 x5::R) Q')
 (hw:zJ ops T o=some true) (ha: ∀H,yJ P F T H o=some (.call f as)) (k: ∀v L',Q' v L'→WO P F hook ops l (ze T o.dst v) L' Q):WO P F hook ops (o::l) T L Q:=
 o_call (fun H hH=>hc H hH.tk5) hw ha k
theorem Holds.tk6 {κ1 α1:Type} {K1:κ1→α1→SP} {a1:κ1} {x1:α1} {κ2 α2:Type} {K2:κ2→α2→SP} {a2:κ2} {x2:α2} {κ3 α3:Type} {K3:κ3→α3→SP} {a3:κ3} {x3:α3} {κ4 α4:Type} {K4:κ4→α4→SP} {a4:κ4} {x4:α4} {κ5 α5:Type} {K5:κ5→α5→SP} {a5:κ5} {x5:α5} {κ6 α6:Type} {K6:κ6→α6→SP} {a6:κ6} {x6:α6} {L R1 R2 R3 R4 R5 R:List SP} {H:Hp} [t1:Tk L K1 a1 x1 R1] [t2:Tk R1 K2 a2 x2 R2] [t3:Tk R2 K3 a3 x3 R3] [t4:Tk R3 K4 a4 x4 R4] [t5:Tk R4 K5 a5 x5 R5] [t6:Tk R5 K6 a6 x6 R] (h:Holds L H):Holds (ent K1 a1 x1::ent K2 a2 x2::ent K3 a3 x3::ent K4 a4 x4::ent K5 a5 x5::ent K6 a6 x6::R) H:=⟨h.ok,(t1.h _ h.s).cons (fun _ e=>e) fun _ e=>(t2.h _ e).cons (fun _ e=>e) fun _ e=>(t3.h _ e).cons (fun _ e=>e) fun _ e=>(t4.h _ e).cons (fun _ e=>e) fun _ e=>(t5.h _ e).cons (fun _ e=>e) t6.h⟩
theorem sq {f:FuncId} {as:List AVal} {κ1 α1:Type} {K1:κ1→α1→SP} {a1:κ1} {x1:α1} {κ2 α2:Type} {K2:κ2→α2→SP} {a2:κ2} {x2:α2} {κ3 α3:Type} {K3:κ3→α3→SP} {a3:κ3} {x3:α3} {κ4 α4:Type} {K4:κ4→α4→SP} {a4:κ4} {x4:α4} {κ5 α5:Type} {K5:κ5→α5→SP} {a5:κ5} {x5:α5} {κ6 α6:Type} {K6:κ6→α6→SP} {a6:κ6} {x6:α6} {R1 R2 R3 R4 R5 R:List SP} {Q':AVal→List SP→Prop} [t1:Tk L K1 a1 x1 R1] [t2:Tk R1 K2 a2 x2 R2] [t3:Tk R2 K3 a3 x3 R3] [t4:Tk R3 K4 a4 x4 R4] [t5:Tk R4 K5 a5 x5 R5] [t6:Tk R5 K6 a6 x6 R] (hc:SW P F hook f as (ent K1 a1 x1::ent K2 a2 x2::ent K3 a3 x3::ent K4 a4 x4::ent K5 a5 x5::ent K6 a6 x6::R) Q')
 (hw:zJ ops T o=some true) (ha: ∀H,yJ P F T H o=some (.call f as)) (k: ∀v L',Q' v L'→WO P F hook ops l (ze T o.dst v) L' Q):WO P F hook ops (o::l) T L Q:=
 o_call (fun H hH=>hc H hH.tk6) hw ha k
theorem Holds.tk7 {κ1 α1:Type} {K1:κ1→α1→SP} {a1:κ1} {x1:α1} {κ2 α2:Type} {K2:κ2→α2→SP} {a2:κ2} {x2:α2} {κ3 α3:Type} {K3:κ3→α3→SP} {a3:κ3} {x3:α3} {κ4 α4:Type} {K4:κ4→α4→SP} {a4:κ4} {x4:α4} {κ5 α5:Type} {K5:κ5→α5→SP} {a5:κ5} {x5:α5} {κ6 α6:Type} {K6:κ6→α6→SP} {a6:κ6} {x6:α6} {κ7 α7:Type} {K7:κ7→α7→SP} {a7:κ7} {x7:α7} {L R1 R2 R3 R4 R5 R6 R:List SP} {H:Hp} [t1:Tk L K1 a1 x1 R1] [t2:Tk R1 K2 a2 x2 R2] [t3:Tk R2 K3 a3 x3 R3] [t4:Tk R3 K4 a4 x4 R4] [t5:Tk R4 K5 a5 x5 R5] [t6:Tk R5 K6 a6 x6 R6] [t7:Tk R6 K7 a7 x7 R] (h:Holds L H):Holds (ent K1 a1 x1::ent K2 a2 x2::ent K3 a3 x3::ent K4 a4 x4::ent K5 a5 x5::ent K6 a6 x6::ent K7 a7 x7::R) H:=⟨h.ok,(t1.h _ h.s).cons (fun _ e=>e) fun _ e=>(t2.h _ e).cons (fun _ e=>e) fun _ e=>(t3.h _ e).cons (fun _ e=>e) fun _ e=>(t4.h _ e).cons (fun _ e=>e) fun _ e=>(t5.h _ e).cons (fun _ e=>e) fun _ e=>(t6.h _ e).cons (fun _ e=>e) t7.h⟩
theorem o3 {f:FuncId} {as:List AVal} {κ1 α1:Type} {K1:κ1→α1→SP} {a1:κ1} {x1:α1} {κ2 α2:Type} {K2:κ2→α2→SP} {a2:κ2} {x2:α2} {κ3 α3:Type} {K3:κ3→α3→SP} {a3:κ3} {x3:α3} {κ4 α4:Type} {K4:κ4→α4→SP} {a4:κ4} {x4:α4} {κ5 α5:Type} {K5:κ5→α5→SP} {a5:κ5} {x5:α5} {κ6 α6:Type} {K6:κ6→α6→SP} {a6:κ6} {x6:α6} {κ7 α7:Type} {K7:κ7→α7→SP} {a7:κ7} {x7:α7} {R1 R2 R3 R4 R5 R6 R:List SP} {Q':AVal→List SP→Prop} [t1:Tk L K1 a1 x1 R1] [t2:Tk R1 K2 a2 x2 R2] [t3:Tk R2 K3 a3 x3 R3] [t4:Tk R3 K4 a4 x4 R4] [t5:Tk R4 K5 a5 x5 R5] [t6:Tk R5 K6 a6 x6 R6] [t7:Tk R6 K7 a7 x7 R] (hc:SW P F hook f as (ent K1 a1 x1::ent K2 a2 x2::ent K3 a3 x3::ent K4 a4 x4::ent K5 a5 x5::ent K6 a6 x6::ent K7 a7 x7::R) Q')
 (hw:zJ ops T o=some true) (ha: ∀H,yJ P F T H o=some (.call f as)) (k: ∀v L',Q' v L'→WO P F hook ops l (ze T o.dst v) L' Q):WO P F hook ops (o::l) T L Q:=
 o_call (fun H hH=>hc H hH.tk7) hw ha k
theorem Holds.tk8 {κ1 α1:Type} {K1:κ1→α1→SP} {a1:κ1} {x1:α1} {κ2 α2:Type} {K2:κ2→α2→SP} {a2:κ2} {x2:α2} {κ3 α3:Type} {K3:κ3→α3→SP} {a3:κ3} {x3:α3} {κ4 α4:Type} {K4:κ4→α4→SP} {a4:κ4} {x4:α4} {κ5 α5:Type} {K5:κ5→α5→SP} {a5:κ5} {x5:α5} {κ6 α6:Type} {K6:κ6→α6→SP} {a6:κ6} {x6:α6} {κ7 α7:Type} {K7:κ7→α7→SP} {a7:κ7} {x7:α7} {κ8 α8:Type} {K8:κ8→α8→SP} {a8:κ8} {x8:α8} {L R1 R2 R3 R4 R5 R6 R7 R:List SP} {H:Hp} [t1:Tk L K1 a1 x1 R1] [t2:Tk R1 K2 a2 x2 R2] [t3:Tk R2 K3 a3 x3 R3] [t4:Tk R3 K4 a4 x4 R4] [t5:Tk R4 K5 a5 x5 R5] [t6:Tk R5 K6 a6 x6 R6] [t7:Tk R6 K7 a7 x7 R7] [t8:Tk R7 K8 a8 x8 R] (h:Holds L H):Holds (ent K1 a1 x1::ent K2 a2 x2::ent K3 a3 x3::ent K4 a4 x4::ent K5 a5 x5::ent K6 a6 x6::ent K7 a7 x7::ent K8 a8 x8::R) H:=⟨h.ok,(t1.h _ h.s).cons (fun _ e=>e) fun _ e=>(t2.h _ e).cons (fun _ e=>e) fun _ e=>(t3.h _ e).cons (fun _ e=>e) fun _ e=>(t4.h _ e).cons (fun _ e=>e) fun _ e=>(t5.h _ e).cons (fun _ e=>e) fun _ e=>(t6.h _ e).cons (fun _ e=>e) fun _ e=>(t7.h _ e).cons (fun _ e=>e) t8.h⟩
theorem aQ {f:FuncId} {as:List AVal} {κ1 α1:Type} {K1:κ1→α1→SP} {a1:κ1} {x1:α1} {κ2 α2:Type} {K2:κ2→α2→SP} {a2:κ2} {x2:α2} {κ3 α3:Type} {K3:κ3→α3→SP} {a3:κ3} {x3:α3} {κ4 α4:Type} {K4:κ4→α4→SP} {a4:κ4} {x4:α4} {κ5 α5:Type} {K5:κ5→α5→SP} {a5:κ5} {x5:α5} {κ6 α6:Type} {K6:κ6→α6→SP} {a6:κ6} {x6:α6} {κ7 α7:Type} {K7:κ7→α7→SP} {a7:κ7} {x7:α7} {κ8 α8:Type} {K8:κ8→α8→SP} {a8:κ8} {x8:α8} {R1 R2 R3 R4 R5 R6 R7 R:List SP} {Q':AVal→List SP→Prop} [t1:Tk L K1 a1 x1 R1] [t2:Tk R1 K2 a2 x2 R2] [t3:Tk R2 K3 a3 x3 R3] [t4:Tk R3 K4 a4 x4 R4] [t5:Tk R4 K5 a5 x5 R5] [t6:Tk R5 K6 a6 x6 R6] [t7:Tk R6 K7 a7 x7 R7] [t8:Tk R7 K8 a8 x8 R] (hc:SW P F hook f as (ent K1 a1 x1::ent K2 a2 x2::ent K3 a3 x3::ent K4 a4 x4::ent K5 a5 x5::ent K6 a6 x6::ent K7 a7 x7::ent K8 a8 x8::R) Q')
 (hw:zJ ops T o=some true) (ha: ∀H,yJ P F T H o=some (.call f as)) (k: ∀v L',Q' v L'→WO P F hook ops l (ze T o.dst v) L' Q):WO P F hook ops (o::l) T L Q:=
 o_call (fun H hH=>hc H hH.tk8) hw ha k
end
section
variable {α:Type} {en:α→List AVal} {es:Nat} {xs ys:List α} {v w:AVal}
theorem cR {f:yc} (s:zP en es v xs f) (hne:xs≠ []): ∃i off c,v= .slice (some (i,off)) xs.length c es∧ ∀k,c=some k→xs.length≤k:=by
 have hlen:=uN s
 obtain⟨h1,h2,h3⟩:=s
 have hne:xs.flatMap en≠ []:=by
  intro e
  cases xs with
  |nil=>exact hne rfl
  |cons x l=>
   have:(en x).length=0:=by
    rw [List.flatMap_cons,List.append_eq_nil_iff]at e
    rw [e.1];rfl
   rw [h2]at this;omega
 generalize xs.flatMap en=cs at h1 hne
 cases h1 with
 |nil e es=>exact absurd rfl hne
 |emp i off es=>exact absurd rfl hne
 |own i off len n es f cs hr hn hc=>
  have hlen:len=xs.length:=hlen
  subst hlen
  exact⟨i,off,none,rfl,fun k h=>by cases h⟩
 |part i off len cap n es f cs hr hn hl hc=>
  have hlen:len=xs.length:=hlen
  subst hlen
  exact⟨i,off,some cap,rfl,fun k h=>by cases h;exact hl⟩
theorem nF (h: ∀x,(en x).length=es): ∀(n:Nat) (xs:List α),(xs.take n).flatMap en=(xs.flatMap en).take (n*es):=by
 intro n
 induction n with
 |zero=>intro xs;simp
 |succ n ih=>
  intro xs
  cases xs with
  |nil=>simp
  |cons x l=>
   rw [List.take_succ_cons,List.flatMap_cons,List.flatMap_cons,ih,List.take_append,h,List.take_of_length_le (l:=en x) (by rw [h,Nat.succ_mul];omega),show(n+1)*es-es=n*es by rw [Nat.succ_mul];omega]
theorem fM (h: ∀x,(en x).length=es): ∀(n:Nat) (xs:List α),(xs.drop n).flatMap en=(xs.flatMap en).drop (n*es):=by
 intro n
 induction n with
 |zero=>intro xs;simp
 |succ n ih=>
  intro xs
  cases xs with
  |nil=>simp
  |cons x l=>
   rw [List.drop_succ_cons,List.flatMap_cons,ih,List.drop_append,h,List.drop_of_length_le (l:=en x) (by rw [h,Nat.succ_mul];omega),List.nil_append,show(n+1)*es-es=n*es by rw [Nat.succ_mul];omega]
theorem Q1 {f:Nat→AVal} {o a b:Nat} (h:a≤b):(zY f o b).take a=zY f o a:=by
 apply List.ext_getElem?
 intro j
 by_cases hj:j<a
 ·rw [List.getElem?_take_of_lt hj,zq _ _ _ _ (by omega),zq _ _ _ _ hj]
 rw [List.getElem?_eq_none (by rw [List.length_take,zo];omega),List.getElem?_eq_none (by rw [zo];omega)]
theorem jo {f:Nat→AVal} {o a b:Nat} (h:a≤b):(zY f o b).drop a=zY f (o+a) (b-a):=by
 apply List.ext_getElem?
 intro j
 rw [List.getElem?_drop]
 by_cases hj:j<b-a
 ·rw [zq _ _ _ _ (by omega),zq _ _ _ _ hj,Nat.add_assoc]
 rw [List.getElem?_eq_none (by rw [zo];omega),List.getElem?_eq_none (by rw [zo];omega)]
theorem A8 {f:yc} {i off len:Nat} {c:Option Nat} {n:Nat} (s:zP en es (.slice (some (i,off)) len c es) xs f) (hn:n≤xs.length):zP en es (.slice (some (i,off)) n c es) (xs.take n) f:=by
 have hlen:len=xs.length:=uN s
 obtain⟨h1,h2,h3⟩:=s
 refine⟨?_,h2,h3⟩
 rw [nF h2]
 generalize xs.flatMap en=cs at h1
 cases h1 with
 |emp i off es=>
  have:n=0:=by omega
  subst this
  rw [Nat.zero_mul,List.take_zero];exact .emp _ _ _
 |own i off len m es g cs hr hm hc=>
  have hk:n*es≤len*es:=Nat.mul_le_mul_right _ (by omega)
  exact .own i off n m es g _ hr (by omega) (by rw [hc,Q1 hk])
 |part i off len cap m es g cs hr hm hl hc=>
  have hk:n*es≤len*es:=Nat.mul_le_mul_right _ (by omega)
  exact .part i off n cap m es g _ hr hm (by omega) (by rw [hc,Q1 hk])
def eZ (i off len:Nat) (c:Option Nat) (es a:Nat):AVal:=match c with
 |some k=>bif Nat.beq k a then .slice (some (i,off)) (len-a) (some (k-a)) es else .slice (some (i,off+a*es)) (len-a) (some (k-a)) es
 |none=> .slice (some (i,off+a*es)) (len-a) none es
theorem AA {f:yc} {i off len:Nat} {c:Option Nat} {n:Nat} (s:zP en es (.slice (some (i,off)) len c es) xs f) (hn:n≤xs.length):zP en es (eZ i off len c es n) (xs.drop n) f:=by
 have hlen:len=xs.length:=uN s
 obtain⟨h1,h2,h3⟩:=s
 refine⟨?_,h2,h3⟩
 rw [fM h2]
 generalize xs.flatMap en=cs at h1
 cases h1 with
 |emp i off es=>
  have:n=0:=by omega
  subst this
  rw [List.drop_nil]
  exact .emp _ _ _
 |own i off len m es g cs hr hm hc=>
  have hk:n*es≤len*es:=Nat.mul_le_mul_right _ (by omega)
  have e:(len-n)*es=len*es-n*es:=Nat.sub_mul _ _ _
  exact .own i (off+n*es) (len-n) m es g _ hr (by omega) (by rw [hc,jo hk,e])
 |part i off len cap m es g cs hr hm hl hc=>
  have hk:n*es≤len*es:=Nat.mul_le_mul_right _ (by omega)
  have hk2:n*es≤cap*es:=Nat.mul_le_mul_right _ (by omega)
  have e:(len-n)*es=len*es-n*es:=Nat.sub_mul _ _ _
  have e2:(cap-n)*es=cap*es-n*es:=Nat.sub_mul _ _ _
  unfold eZ
  dsimp only
  cases hb:Nat.beq cap n with
  |true=>
   have:=Nat.eq_of_beq_eq_true hb
   have a1:len-n=0:=by omega
   have a2:cap-n=0:=by omega
   have a3:cs.drop (n*es)= []:=by rw [hc,jo hk,←e,a1,Nat.zero_mul];rfl
   rw [a3,a1,a2,cond_true]
   exact .emp _ _ _
  |false=>exact .part i (off+n*es) (len-n) (cap-n) m es g _ hr (by omega) (by omega) (by rw [hc,jo hk,e])
end
section
variable {P:Program} {F:z9} {hook:yZ} {ops:Array Oper} {o:Oper} {l:List Oper} {T:Tm} {H:Hp} {L R R2:List SP} {Q:Tm→List SP→Prop} {α:Type} {en:α→List AVal} {es:Nat} {xs ys:List α} {v w:AVal}
theorem tD {t:TypeId} {x lo:Operand} {i off len:Nat} {c:Option Nat} {z:Int} [hs:SL P t es] (ho:o.op= .slice t x (some lo) none none) (hx:opnd T x=some (.slice (some (i,off)) len c es)) (hl:opnd T lo=some (.int .i64 (.lit z))) (h0:0≤z) (hlt:z≤(len:Nat)) (hc: ∀k,c=some k→len≤k):
 yJ P F T H o=some (.val (eZ i off len c es z.toNat) H):=by
 obtain⟨e,g1,g2⟩:=hs.h
 obtain⟨a,rfl⟩: ∃a:Nat,z=a:=⟨z.toNat,by omega⟩
 have n1:vU (.int .i64 (.lit (a:Int)))=some a:=rfl
 have b1:Nat.ble a len=true:=Nat.ble_eq_true_of_le (by omega)
 have b2:Nat.beq es es=true:=Nat.beq_refl es
 rw [show((a:Nat):Int).toNat=a from rfl]
 cases c with
 |none=>
  cases hb:Nat.beq len a with
  |true=>
   have:=Nat.eq_of_beq_eq_true hb
   have a1:len-a=0:=by omega
   have b3:Nat.ble len len=true:=Nat.ble_eq_true_of_le (Nat.le_refl _)
   simp only [yJ,ho,qr,Option.map,Option.getD,hx,hl,wb,g1,g2,yv,j4,wR,wI,n1,b1,b2,b3,hb,a1,eZ,cond_true,cond_false,zH.ofVal]
  |false=>
   have b3:Nat.ble len len=true:=Nat.ble_eq_true_of_le (Nat.le_refl _)
   simp only [yJ,ho,qr,Option.map,Option.getD,hx,hl,wb,g1,g2,yv,j4,wR,wI,n1,b1,b2,b3,hb,eZ,cond_true,cond_false,zH.ofVal]
 |some k=>
  have b3:Nat.ble len k=true:=Nat.ble_eq_true_of_le (hc k rfl)
  cases hb:Nat.beq k a<;>simp only [yJ,ho,qr,Option.map,Option.getD,hx,hl,wb,g1,g2,yv,j4,wR,wI,n1,b1,b2,b3,hb,eZ,cond_true,cond_false,zH.ofVal]
theorem Ax {c:Call} {t:TypeId} {ts:List TypeId} {x:Operand} {sz:Nat} [hs:SL P t sz] (hel:zP en es w ys fun k=>H.t.get k) (ho:o.op= .call c) (hc:c.callee= .builtin .len) (ht:c.argTypes.toList=t::ts) (ha:c.args.toList= [x]) (hx:opnd T x=some w):
 yJ P F T H o=some (.val (.int .i64 (.lit ((ys.length:Nat):Int))) H):=by
 obtain⟨a,c,e,rfl⟩:=gp hel
 exact wD ho hc ht ha hx
theorem Az {c:Call} {ts:List TypeId} {t xt:TypeId} {a b:Operand} [AP P t es] [AP P xt es] [t1:GH L v en es xs R] (hel: ∀H,Holds L H→zP en es w ys fun k=>H.t.get k) (hw:zJ ops T o=some true) (ho:o.op= .call c) (hc:c.callee= .builtin .append) (ht:c.argTypes.toList=t::xt::ts) (ha:c.args.toList= [a,b]) (hx:opnd T a=some v) (hy:opnd T b=some w)
 (hlen:xs.length+ys.length≤1048576) (hcell: ∀y,yL (en y)=true)
 (k: ∀a c e,WO P F hook ops l (ze T o.dst (.slice a (xs.length+ys.length) c e)) (ent (zP en es) (.slice a (xs.length+ys.length) c e) (xs++ys)::R) Q):WO P F hook ops (o::l) T L Q:=by
 intro H hH
 have hH1:Holds (ent (zP en es) v xs::R) H:=⟨hH.ok,t1.h _ hH.s⟩
 replace hel:=hel H hH
 by_cases h0:ys= []
 ·subst h0
  have hel0:zP en es v xs fun k=>H.t.get k:=by
   obtain⟨a,b,h1,h2,h3,h4,h5⟩:=hH1.s
   exact Qb h2 h4
  obtain⟨p,q,e,rfl⟩:=gp hel0
  obtain⟨e1,by',z,h1,h2,h3,h4,h5,h6⟩:=(inferInstance:AP P t es).h
  obtain⟨e2,_,_,k1,_⟩:=(inferInstance:AP P xt es).h
  obtain⟨g1,g3⟩:=Ye hel
  have b1:Nat.beq z.cells.length es=true:=by rw [h6];exact Nat.beq_refl es
  have b2:Nat.ble (xs.length+0) yN=true:=Nat.ble_eq_true_of_le (by show xs.length+0≤1048576;simpa using hlen)
  have b3:Nat.ble by' yN=true:=Nat.ble_eq_true_of_le h4
  have b4:Nat.beq 0 0=true:=rfl
  have kk:=k p q e H (by simpa using hH1)
  refine qQ hw (v:= .slice p xs.length q e) ?_ kk
  rw [List.length_nil]at g1 g3
  cases p with
  |none=>simp only [yJ,ho,hc,ht,ha,qf,hx,hy,yU,yI,vG,h1,k1,h2,h3,h5,g1,b1,b2,b3,Bool.and_true,cond_true,g3,b4]
  |some p=>cases q<;>simp only [yJ,ho,hc,ht,ha,qf,hx,hy,yU,yI,vG,h1,k1,h2,h3,h5,g1,b1,b2,b3,Bool.and_true,cond_true,g3,b4]
 obtain⟨i,q,cap,H',g1,g2,g3⟩:=Qu (P:=P) (F:=F) (t:=t) (xt:=xt) (a:=a) (b:=b) hH1 (Ye hel) h0 hlen ((wL _).2 fun u hu=>by
  obtain⟨y,_,hy⟩:=List.mem_flatMap.1 hu
  exact(wL _).1 (hcell y) u hy)
 exact qQ hw (g1 ho hc ht ha hx hy) (k _ _ _ H' g2)
theorem B0 {c:Call} {ts:List TypeId} {t xt:TypeId} {a b:Operand} {ee:Nat} {kk:IntKind} {n:Nat} [hap:AP P t es] (hxt: ∃k,yO P xt=some (.int k)) (hw:zJ ops T o=some true) (ho:o.op= .call c) (hc:c.callee= .builtin .append) (ht:c.argTypes.toList=t::xt::ts) (ha:c.args.toList= [a,b]) (hx:opnd T a=some (.slice none 0 (some 0) ee)) (hy:opnd T b=some (.int kk (.lit (n:Nat))))
 (h0:0<n) (hn:n≤1024) (hes:0<es) (hz: ∀e z,yO P t=some (.slice e)→qk P e=some z→yL z.cells=true) (k: ∀i f,WO P F hook ops l (ze T o.dst (.slice (some (i,0)) n none es)) (ent zI i (n*es,f)::L) Q):WO P F hook ops (o::l) T L Q:=by
 intro H hH
 obtain⟨e,by',z,h1,h2,h3,h4,h5,h6⟩:=hap.h
 obtain⟨kn,k1⟩:=hxt
 have b1:Nat.beq z.cells.length es=true:=by rw [h6];exact Nat.beq_refl es
 have b2:Nat.blt 0 es=true:=by rw [Nat.blt_eq];exact hes
 have b3:Nat.blt 0 ((n:Nat):Int).toNat=true:=by rw [Nat.blt_eq];exact h0
 have b4:Nat.ble ((n:Nat):Int).toNat 1024=true:=Nat.ble_eq_true_of_le hn
 have b5:Nat.ble by' yN=true:=Nat.ble_eq_true_of_le h4
 have b6:=hz e z h1 h5
 have hnew:=hH.new (yA z.cells n)
 have hlen:(yA z.cells n).length=n*es:=by rw [uF,h6]
 have hf:=hnew.toF
 rw [hlen]at hf
 refine qQ hw (v:= .slice (some (H.next,0)) n none es) ?_ (k H.next _ _ hf)
 simp only [yJ,ho,hc,ht,ha,qf,hx,hy,yU,yI,vG,Vi,h1,k1,h2,h3,h5,b1,b2,b3,b4,b5,b6,Bool.and_true,cond_true]
 rfl
end
theorem uw {P:Program} {F:z9} {hook:yZ} {ops:Array Oper} {l:List Oper} {T:Tm} {L R:List SP} {Q:Tm→List SP→Prop} {κ α:Type} {K:κ→α→SP} {a:κ} {x:α} {p:Prop} [t:Tk L K a x R] (hu: ∀h,K a x h→p) (k:p→WO P F hook ops l T L Q):WO P F hook ops l T L Q:=fun H hH=>by
 obtain⟨a,b,h1,h2,h3,h4,h5⟩:=t.h _ hH.s
 exact k (hu _ h4) H hH
noncomputable section
inductive Fr where
 |seq (c:Code)
 |blk (id:Nat)
inductive St where
 |o (ops:Array Oper) (l:List Oper)
 |c (c:Code)
 |x (e:AExit)
def rO (P:Program) (F:z9) (T:Tm):Op→Option AVal
 | .move x=>opnd T x
 | .assign x=>opnd T x
 | .nilCheck x=>match opnd T x with
  |some (.ptr (some a))=>some (.ptr (some a))
  |some (.func f a b)=>some (.func f a b)
  |_=>none
 | .extract x n=>match opnd T x with
  |some (.tuple vs)=>vs[n]?
  |_=>none
 | .pick c a b=>match opnd T c with
  |some (.bool c)=>match c with
   |true=>opnd T a
   |false=>opnd T b
  |_=>none
 | .unOp op _ x=>match opnd T x with
  |some a=>D1 F op a
  |none=>none
 | .makeFunc f a b=>match f,qf T a.toList,qf T b.toList with
  | .func f,some a,some b=>some (.func f a b)
  |_,_,_=>none
 | .makeInterface t x=>match opnd T x,yO P t with
  |some _,some (.interface _)=>none
  |some v,some _=>some (.iface t v)
  |_,_=>none
 | .field t x n=>match opnd T x,yO P t with
  |some (.agg cs),some (.struct fs)=>match fs[n]? with
   |some f=>jP P f.type cs f.offset
   |none=>none
  |_,_=>none
 | .binOp op _ x y _=>match opnd T x,opnd T y with
  |some (.int k (.lit a)),some (.int j (.lit b))=>match vf k j with
   |true=>match op with
    | .lss=>some (.bool (decide (a<b)))
    | .gtr=>some (.bool (decide (b<a)))
    | .leq=>some (.bool (decide (a≤b)))
    | .geq=>some (.bool (decide (b≤a)))
    | .eql=>some (.bool (decide (a=b)))
    | .neq=>some (.bool (decide (a≠b)))
    |_=>none
   |false=>none
  |_,_=>none
 |_=>none
theorem kP {P:Program} {F:z9} {T:Tm} {o:Oper} {v:AVal} (h:rO P F T o.op=some v) (H:Hp):yJ P F T H o=some (.val v H):=by
 unfold yJ
 generalize o.op=p at h
 cases p<;>(try (cases h;done))<;>dsimp only [rO]at h ⊢
 case move x=>rw [h];rfl
 case assign x=>rw [h];rfl
 case pick c a b=>
  unfold Un
  split at h
  ·rename_i c0 hc
   rw [hc]
   cases c0<;>dsimp only at h ⊢ <;>simp only [cond_true,cond_false,h]<;>rfl
  cases h
 case nilCheck x=>
  unfold j5
  split at h
  ·rename_i a ha;cases h;rw [ha]
  ·rename_i a ha;cases h;rw [ha]
  cases h
 case binOp op t x y yt=>
  unfold Gl
  split at h
  ·rename_i k a j b hx hy
   rw [hx,hy]
   dsimp only
   split at h
   ·rename_i hk
    cases op<;>first|(cases h;done)|(cases h;(first|rw [QX hk]|rw [BM hk]|rw [Bt hk]|rw [JL hk]|rw [bK hk]|rw [vI hk]);rfl)
   cases h
  cases h
 case unOp op t x=>
  unfold pi
  split at h
  ·rename_i a ha;rw [ha];dsimp only;rw [h];rfl
  cases h
 case makeInterface t x=>
  unfold Yu
  split at h
  ·cases h
  ·rename_i v d t' h1 h2
   cases h
   rw [h2]
   split
   ·rename_i e;cases e;exact(t' _ rfl).elim
   ·rename_i g1 g2;simp_all
   simp_all
  cases h
 case makeFunc f a b=>
  unfold UY
  split at h
  ·rename_i h1 h2;cases h;rw [h1,h2]
  cases h
 case field t x n=>
  unfold YW
  split at h
  ·rename_i h1 h2
   rw [h1,h2]
   dsimp only
   split at h
   ·rename_i h3;rw [h3];dsimp only;rw [h];rfl
   cases h
  cases h
 case extract x n=>
  unfold gj
  split at h
  ·rename_i h1;rw [h1];dsimp only;rw [h];rfl
  cases h
section
variable (P:Program) (F:z9) (hook:yZ)
def Uu:List Fr→(AExit→Tm→List SP→Prop)→AExit→Tm→List SP→Prop
 | [],Q,e,T,L=>Q e T L
 | .seq c::st,Q,e,T,L=>match e with
  | .normal=>WC P F hook c T L (Uu st Q)
  |e=>Uu st Q e T L
 | .blk i::st,Q,e,T,L=>match e with
  | .exit j=>bif Nat.beq j i then Uu st Q .normal T L else Uu st Q (.exit j) T L
  |e=>Uu st Q e T L
def DZ (st:List Fr) (Q:AExit→Tm→List SP→Prop) (T:Tm) (L:List SP):Prop:=Uu P F hook st Q .normal T L
def Yy:List Fr→AExit→St×List Fr
 | [],e=>(.x e,[])
 | .seq c::st,e=>match e with
  | .normal=>(.c c,st)
  | .exit i=>Yy st (.exit i)
  | .ret=>Yy st .ret
 | .blk i::st,e=>match e with
  | .exit j=>match Nat.beq j i with
   |true=>Yy st .normal
   |false=>Yy st (.exit j)
  | .normal=>Yy st .normal
  | .ret=>Yy st .ret
def WM (s:St) (st:List Fr) (T:Tm) (L:List SP) (Q:AExit→Tm→List SP→Prop):Prop:=match s with
 | .o ops l=>WO P F hook ops l T L (DZ P F hook st Q)
 | .c c=>WC P F hook c T L (Uu P F hook st Q)
 | .x e=>Uu P F hook st Q e T L
def kx:Nat→St×List Fr→Tm→Option ((St×List Fr)×Tm)
 |0,s,T=>some (s,T)
 |n+1,(s,st),T=>match s with
  | .o ops l=>match l with
   | []=>kx n (Yy st .normal) T
   |o::l=>match zJ ops T o with
    |some true=>match rO P F T o.op with
     |some v=>kx n (.o ops l,st) (ze T o.dst v)
     |none=>none
    |some false=>kx n (.o ops l,st) (ze T o.dst unit)
    |none=>none
  | .c c=>match c with
   | .seq a b=>kx n (.c a,.seq b::st) T
   | .region _ ops false=>kx n (.o ops ops.toList,st) T
   | .cond x a b=>match opnd T x with
    |some (.bool true)=>kx n (.c a,st) T
    |some (.bool false)=>kx n (.c b,st) T
    |_=>none
   | .skip=>kx n (Yy st .normal) T
   | .exit i=>kx n (Yy st (.exit i)) T
   | .ret=>kx n (Yy st .ret) T
   | .block i b=>kx n (.c b,.blk i::st) T
   |_=>none
  | .x _=>none
end
section
variable {P:Program} {F:z9} {hook:yZ} {ops:Array Oper} {l:List Oper} {T T':Tm} {L:List SP} {Q:AExit→Tm→List SP→Prop} {st:List Fr} {s':St} {st':List Fr}
theorem Qi: ∀(st:List Fr) (e:AExit),WM P F hook (Yy st e).1 (Yy st e).2 T L Q→Uu P F hook st Q e T L:=by
 intro st
 induction st with
 |nil=>intro e h;exact h
 |cons f st ih=>
  intro e h
  cases f with
  |seq c=>cases e with
   |normal=>exact h
   |exit i=>exact ih _ h
   |ret=>exact ih _ h
  |blk i=>cases e with
   |normal=>exact ih _ h
   |exit j=>
    show cond (Nat.beq j i) _ _
    unfold Yy at h
    dsimp only at h
    split at h
    ·rename_i e;rw [e];exact ih _ h
    rename_i e;rw [e];exact ih _ h
   |ret=>exact ih _ h
theorem Jf: ∀(n:Nat) (s:St) (st:List Fr) (T:Tm),kx P F n (s,st) T=some ((s',st'),T')→WM P F hook s' st' T' L Q→WM P F hook s st T L Q:=by
 intro n
 induction n with
 |zero=>intro s st T h k;cases h;exact k
 |succ n ih=>
  intro s st T h k
  cases s with
  |o ops l=>
   cases l with
   |nil=>exact zF (Qi st .normal (ih _ _ _ h k))
   |cons o l=>
    simp only [kx]at h
    split at h
    ·rename_i hw
     split at h
     ·rename_i v hv
      exact zf hw (kP hv) (ih _ _ _ h k)
     cases h
    ·rename_i hw;exact gW hw (ih _ _ _ h k)
    cases h
  |c c=>
   cases c with
   |seq a b=>
    refine c_seq (kN (ih (.c a) (.seq b::st) T h k) fun e T L h=> ?_)
    cases e<;>exact h
   |region id ops d=>
    cases d with
    |false=>exact uU (ih _ _ _ h k)
    |true=>cases h
   |cond x a b=>
    simp only [kx]at h
    split at h
    ·rename_i hx;exact Jz hx (ih _ _ _ h k)
    ·rename_i hx;exact Vf hx (ih _ _ _ h k)
    cases h
   |skip=>exact kV (Qi st .normal (ih _ _ _ h k))
   |exit i=>exact B1 (Qi st (.exit i) (ih _ _ _ h k))
   |ret=>exact UV (Qi st .ret (ih _ _ _ h k))
   |block i b=>
    refine ah (kN (ih (.c b) (.blk i::st) T h k) fun e T L h=> ?_)
    cases e<;>exact h
   |_=>cases h
  |x e=>cases h
end
end
noncomputable section
theorem J {α:Type} {a:α} :a=a:=rfl
abbrev Y:= @inferInstance.{0}
def ag (ops:Array Oper) (T:Tm) (o:Oper):Option Op:=match zJ ops T o with
 |some true=>some o.op
 |_=>none
def CA (T:Tm) (x:Operand):Option (Nat×Nat):=match opnd T x with
 |some (.ptr (some (i,a)))=>some (i,a)
 |_=>none
def nA (ops:Array Oper) (T:Tm) (o:Oper):Option (TypeId×Nat×Nat):=match ag ops T o with
 |some (.load t x)=>match CA T x with
  |some (i,a)=>some (t,i,a)
  |none=>none
 |_=>none
def Cx (ops:Array Oper) (T:Tm) (o:Oper):Option (TypeId×Nat×Nat×Nat):=match ag ops T o with
 |some (.fieldAddr t x n)=>match CA T x with
  |some (i,a)=>some (t,n,i,a)
  |none=>none
 |_=>none
def Cz (T:Tm) (x:Operand):Option Int:=match opnd T x with
 |some (.int .i64 (.lit z))=>some z
 |_=>none
def BJ (ops:Array Oper) (T:Tm) (o:Oper):Option (BinOp×Int×Int):=match ag ops T o with
 |some (.binOp op _ x y _)=>match Cz T x,Cz T y with
  |some a,some b=>some (op,a,b)
  |_,_=>none
 |_=>none
def CQ (ops:Array Oper) (T:Tm) (o:Oper):Option (TypeId×Nat×Nat×AVal):=match ag ops T o with
 |some (.store t x y)=>match CA T x,opnd T y with
  |some (i,a),some v=>some (t,i,a,v)
  |_,_=>none
 |_=>none
def Cv (ops:Array Oper) (T:Tm) (o:Oper):Option (TypeId×List (Nat×AVal)):=match ag ops T o with
 |some (.build t parts)=>match wT T parts.toList with
  |some l=>some (t,l)
  |none=>none
 |_=>none
def fK (T:Tm) (o:Oper):Option AVal:=match o.dst with
 |some d=>Tm.get d T
 |none=>none
section
variable {P:Program} {F:z9} {hook:yZ} {ops:Array Oper} {o:Oper} {l:List Oper} {T T':Tm} {L R:List SP} {Q:Tm→List SP→Prop}
theorem ue {p:Op} (h:ag ops T o=some p):zJ ops T o=some true∧o.op=p:=by
 unfold ag at h
 split at h
 ·rename_i e;cases h;exact⟨e,rfl⟩
 cases h
theorem pw {x:Operand} {i a:Nat} (h:CA T x=some (i,a)):opnd T x=some (.ptr (some (i,a))):=by
 unfold CA at h
 split at h
 ·rename_i e;cases h;exact e
 cases h
theorem fe {x:Operand} {z:Int} (h:Cz T x=some z):opnd T x=some (.int .i64 (.lit z)):=by
 unfold Cz at h
 split at h
 ·rename_i e;cases h;exact e
 cases h
theorem jA {t:TypeId} {i a:Nat} (h:nA ops T o=some (t,i,a)):zJ ops T o=some true∧ ∃x,o.op= .load t x∧opnd T x=some (.ptr (some (i,a))):=by
 unfold nA at h
 split at h
 ·rename_i t x e
  split at h
  ·rename_i e2;cases h;exact⟨(ue e).1,x,(ue e).2,pw e2⟩
  cases h
 cases h
theorem lm {t:TypeId} {n i a:Nat} (h:Cx ops T o=some (t,n,i,a)):zJ ops T o=some true∧ ∃x,o.op= .fieldAddr t x n∧opnd T x=some (.ptr (some (i,a))):=by
 unfold Cx at h
 split at h
 ·rename_i t x n e
  split at h
  ·rename_i e2;cases h;exact⟨(ue e).1,x,(ue e).2,pw e2⟩
  cases h
 cases h
theorem kf {op:BinOp} {a b:Int} (h:BJ ops T o=some (op,a,b)):zJ ops T o=some true∧ ∃t x y yt,o.op= .binOp op t x y yt∧opnd T x=some (.int .i64 (.lit a))∧opnd T y=some (.int .i64 (.lit b)):=by
 unfold BJ at h
 split at h
 ·rename_i op t x y yt e
  split at h
  ·rename_i e2 e3;cases h;exact⟨(ue e).1,t,x,y,yt,(ue e).2,fe e2,fe e3⟩
  cases h
 cases h
theorem pH {t:TypeId} {i a:Nat} {v:AVal} (h:CQ ops T o=some (t,i,a,v)):zJ ops T o=some true∧ ∃x y,o.op= .store t x y∧opnd T x=some (.ptr (some (i,a)))∧opnd T y=some v:=by
 unfold CQ at h
 split at h
 ·rename_i t x y e
  split at h
  ·rename_i e2 e3;cases h;exact⟨(ue e).1,x,y,(ue e).2,pw e2,e3⟩
  cases h
 cases h
theorem fh {t:TypeId} {pl:List (Nat×AVal)} (h:Cv ops T o=some (t,pl)):zJ ops T o=some true∧ ∃parts,o.op= .build t parts∧wT T parts.toList=some pl:=by
 unfold Cv at h
 split at h
 ·rename_i t parts e
  split at h
  ·rename_i e2;cases h;exact⟨(ue e).1,parts,(ue e).2,e2⟩
  cases h
 cases h
theorem Vx {v:AVal} (h:fK T o=some v): ∃d,o.dst=some d∧Tm.get d T=some v:=by
 unfold fK at h
 split at h
 ·rename_i d e;exact⟨d,e,h⟩
 cases h
variable {st:List Fr} {s':St} {st':List Fr} {QE:AExit→Tm→List SP→Prop}
theorem Z (n:Nat) (h:kx P F n (.o ops l,st) T=some ((s',st'),T')) (k:WM P F hook s' st' T' L QE):WO P F hook ops l T L (DZ P F hook st QE):=Jf n (.o ops l) st T h k
theorem O (n:Nat) {c:Code} (h:kx P F n (.c c,st) T=some ((s',st'),T')) (k:WM P F hook s' st' T' L QE):WC P F hook c T L (Uu P F hook st QE):=Jf n (.c c) st T h k
theorem O0 (n:Nat) {c:Code} (h:kx P F n (.c c,[]) T=some ((s',st'),T')) (k:WM P F hook s' st' T' L QE):WC P F hook c T L QE:=kN (Jf n (.c c) [] T h k) fun _ _ _ h=>h
theorem OX (n:Nat) {e:AExit} (h:kx P F n (Yy st e) T=some ((s',st'),T')) (k:WM P F hook s' st' T' L QE):Uu P F hook st QE e T L:=Qi st e (Jf n (Yy st e).1 (Yy st e).2 T h k)
theorem fa {t:TypeId} {n i a off:Nat} (h:Cx ops T o=some (t,n,i,a)) (i1:FA P t n off) (k:WO P F hook ops l (ze T o.dst (.ptr (some (i,a+off)))) L Q):WO P F hook ops (o::l) T L Q:=by
 obtain⟨hw,x,ho,hx⟩:=lm h
 exact zf hw (fun _=>Cs ho hx) k
theorem ld {t:TypeId} {i a:Nat} {v:AVal} {cs:List AVal} (h:nA ops T o=some (t,i,a)) [L1 P t] (i1:Tk L z8 i cs R) (hv:cs[a]? =some v) (k:WO P F hook ops l (ze T o.dst v) L Q):WO P F hook ops (o::l) T L Q:=by
 obtain⟨hw,x,ho,hx⟩:=jA h
 exact yo hw (fun _ hH=>Zp ho hx hv hH) k
theorem lN {t:TypeId} {i a n:Nat} {vs:List AVal} {cs:List AVal} (h:nA ops T o=some (t,i,a)) (i1:LN P t n) (i2:Tk L z8 i cs R) (hv:(cs.drop a).take n=vs) (hl:Nat.ble (a+n) cs.length=true) (k:WO P F hook ops l (ze T o.dst (.agg vs)) L Q):WO P F hook ops (o::l) T L Q:=by
 obtain⟨hw,x,ho,hx⟩:=jA h
 exact yo hw (fun _ hH=>rD ho hx hv (Nat.le_of_ble_eq_true hl) hH) k
theorem lf {t:TypeId} {i a n:Nat} {v:AVal} {f:Nat→AVal} (h:nA ops T o=some (t,i,a)) [L1 P t] (i1:Tk L zI i (n,f) R) (hv:f a=v) (k:WO P F hook ops l (ze T o.dst v) L Q) (hl:a<n:=by omega):WO P F hook ops (o::l) T L Q:=by
 obtain⟨hw,x,ho,hx⟩:=jA h
 exact yo hw (fun _ hH=>VE ho hx hl hv hH) k
theorem lE {t:TypeId} {k0 a es:Nat} {α:Type} {v:AVal} {en:α→List AVal} {xs:List α} {x:α} {w:AVal} (j:Nat) (h:nA ops T o=some (t,o5 v,a)) [L1 P t] (i1:GH L v en es xs R) (ha:a=k0*es+oK v+j) (hk:xs[k0]? =some x) (hj:(en x)[j]? =some w) (k:WO P F hook ops l (ze T o.dst w) L Q):WO P F hook ops (o::l) T L Q:=by
 obtain⟨hw,y,ho,hx⟩:=jA h
 exact yo hw (fun _ hH=>qo ho hx ha hk hj hH) k
theorem ad {a b:Int} (h:BJ ops T o=some (.add,a,b)) (k:WO P F hook ops l (ze T o.dst (.int .i64 (.lit (a+b)))) L Q) (hr: -9223372036854775808≤a+b∧a+b≤9223372036854775807:=by omega):WO P F hook ops (o::l) T L Q:=by
 obtain⟨hw,t,x,y,yt,ho,hx,hy⟩:=kf h
 exact zf hw (fun _=>zC ho hx hy (vj hr)) k
theorem sb {a b:Int} (h:BJ ops T o=some (.sub,a,b)) (k:WO P F hook ops l (ze T o.dst (.int .i64 (.lit (a-b)))) L Q) (hr: -9223372036854775808≤a-b∧a-b≤9223372036854775807:=by omega):WO P F hook ops (o::l) T L Q:=by
 obtain⟨hw,t,x,y,yt,ho,hx,hy⟩:=kf h
 exact zf hw (fun _=>zC ho hx hy (mn hr)) k
theorem ml {a b:Int} (h:BJ ops T o=some (.mul,a,b)) (k:WO P F hook ops l (ze T o.dst (.int .i64 (.lit (a*b)))) L Q) (hr: -9223372036854775808≤a*b∧a*b≤9223372036854775807:=by omega):WO P F hook ops (o::l) T L Q:=by
 obtain⟨hw,t,x,y,yt,ho,hx,hy⟩:=kf h
 exact zf hw (fun _=>zC ho hx hy (uG hr)) k
theorem bu {t:TypeId} {pl:List (Nat×Nat)} {zc:List AVal} {lp:List (Nat×AVal)} (cs:List AVal) (h:Cv ops T o=some (t,lp)) (i1:SB P t pl) (i2:ZV P t (.agg zc)) (hf:ZB (fun i=>pl[i]?) zc lp=some cs) (k:WO P F hook ops l (ze T o.dst (.agg cs)) L Q):WO P F hook ops (o::l) T L Q:=by
 obtain⟨hw,parts,ho,hp⟩:=fh h
 exact zf hw (fun _=>UT ho hp hf) k
theorem sN {t:TypeId} {i a n:Nat} {v:AVal} {cs ds:List AVal} (h:CQ ops T o=some (t,i,a,v)) (i1:SN P t n) (i2:Tk L z8 i cs R) (hc:v.cells.length=n) (hv:yL v.cells=true) (hs:G8 cs a v.cells=some ds) (k:WO P F hook ops l (ze T o.dst unit) (ent z8 i ds::R) Q):WO P F hook ops (o::l) T L Q:=by
 obtain⟨hw,x,y,ho,hx,hy⟩:=pH h
 exact Cn hw ho hx hy hc hv hs k
theorem sO {t:TypeId} {i a:Nat} {v:AVal} {cs ds:List AVal} (h:CQ ops T o=some (t,i,a,v)) [S1 P t] (i1:Tk L z8 i cs R) (hc:v.cells= [v]) (hv:v.isCell=true) (hs:cV cs a v=some ds) (k:WO P F hook ops l (ze T o.dst unit) (ent z8 i ds::R) Q):WO P F hook ops (o::l) T L Q:=by
 obtain⟨hw,x,y,ho,hx,hy⟩:=pH h
 exact DV hw ho hx hy hc hv hs k
theorem sF {t:TypeId} {i a n:Nat} {v:AVal} {f:Nat→AVal} (h:CQ ops T o=some (t,i,a,v)) [S1 P t] (i1:Tk L zI i (n,f) R) (hc:v.cells= [v]) (hv:v.isCell=true) (k:WO P F hook ops l (ze T o.dst unit) (ent zI i (n,vK f a v)::R) Q) (hl:a<n:=by omega):WO P F hook ops (o::l) T L Q:=by
 obtain⟨hw,x,y,ho,hx,hy⟩:=pH h
 exact BZ hw ho hx hy hc hv hl k
variable {x:It} {m m':List It}
def fy (P:Program) (F:z9) (ops:Array Oper):Nat→List It→Tm→Option (List It×Tm)
 |0,m,T=>some (m,T)
 |n+1,m,T=>match m with
  | []=>none
  |x::m=>match zJ ops T x.o with
   |some true=>match rO P F T x.o.op with
    |some v=>fy P F ops n m (ze T x.o.dst v)
    |none=>none
   |some false=>fy P F ops n m (ze T x.o.dst unit)
   |none=>none
theorem sV: ∀(n:Nat) (m:List It) (T:Tm),fy P F ops n m T=some (m',T')→WK P F ops m' T' L Q→WK P F ops m T L Q:=by
 intro n
 induction n with
 |zero=>intro m T h k;cases h;exact k
 |succ n ih=>
  intro m T h k
  cases m with
  |nil=>cases h
  |cons x m=>
   simp only [fy]at h
   split at h
   ·rename_i hw
    split at h
    ·rename_i v hv
     exact vN hw (kP hv) (ih _ _ h k)
    cases h
   ·rename_i hw;exact C9 hw (ih _ _ h k)
   cases h
theorem ZK (n:Nat) (h:fy P F ops n m T=some (m',T')) (k:WK P F ops m' T' L Q):WK P F ops m T L Q:=sV n m T h k
theorem zj {t:TypeId} {n i a off:Nat} (h:Cx ops T x.o=some (t,n,i,a)) (i1:FA P t n off) (k:WK P F ops m (ze T x.o.dst (.ptr (some (i,a+off)))) L Q):WK P F ops (x::m) T L Q:=by
 obtain⟨hw,y,ho,hx⟩:=lm h
 exact vN hw (fun _=>Cs ho hx) k
theorem ye {t:TypeId} {i a:Nat} {v:AVal} {cs:List AVal} (h:nA ops T x.o=some (t,i,a)) [L1 P t] (i1:Tk L z8 i cs R) (hv:cs[a]? =some v) (k:WK P F ops m (ze T x.o.dst v) L Q):WK P F ops (x::m) T L Q:=by
 obtain⟨hw,y,ho,hx⟩:=jA h
 exact uW hw (fun _ hH=>Zp ho hx hv hH) k
theorem Vl {t:TypeId} {i a n:Nat} {vs:List AVal} {cs:List AVal} (h:nA ops T x.o=some (t,i,a)) (i1:LN P t n) (i2:Tk L z8 i cs R) (hv:(cs.drop a).take n=vs) (hl:Nat.ble (a+n) cs.length=true) (k:WK P F ops m (ze T x.o.dst (.agg vs)) L Q):WK P F ops (x::m) T L Q:=by
 obtain⟨hw,y,ho,hx⟩:=jA h
 exact uW hw (fun _ hH=>rD ho hx hv (Nat.le_of_ble_eq_true hl) hH) k
theorem jS {t:TypeId} {i a n:Nat} {v:AVal} {f:Nat→AVal} (h:nA ops T x.o=some (t,i,a)) [L1 P t] (i1:Tk L zI i (n,f) R) (hv:f a=v) (k:WK P F ops m (ze T x.o.dst v) L Q) (hl:a<n:=by omega):WK P F ops (x::m) T L Q:=by
 obtain⟨hw,y,ho,hx⟩:=jA h
 exact uW hw (fun _ hH=>VE ho hx hl hv hH) k
theorem Wm {t:TypeId} {k0 a es:Nat} {α:Type} {v:AVal} {en:α→List AVal} {xs:List α} {y:α} {w:AVal} (j:Nat) (h:nA ops T x.o=some (t,o5 v,a)) [L1 P t] (i1:GH L v en es xs R) (ha:a=k0*es+oK v+j) (hk:xs[k0]? =some y) (hj:(en y)[j]? =some w) (k:WK P F ops m (ze T x.o.dst w) L Q):WK P F ops (x::m) T L Q:=by
 obtain⟨hw,y,ho,hx⟩:=jA h
 exact uW hw (fun _ hH=>qo ho hx ha hk hj hH) k
theorem BK {a b:Int} (h:BJ ops T x.o=some (.add,a,b)) (k:WK P F ops m (ze T x.o.dst (.int .i64 (.lit (a+b)))) L Q) (hr: -9223372036854775808≤a+b∧a+b≤9223372036854775807:=by omega):WK P F ops (x::m) T L Q:=by
 obtain⟨hw,t,x,y,yt,ho,hx,hy⟩:=kf h
 exact vN hw (fun _=>zC ho hx hy (vj hr)) k
theorem p7 {t:TypeId} {pl:List (Nat×Nat)} {zc:List AVal} {lp:List (Nat×AVal)} (cs:List AVal) (h:Cv ops T x.o=some (t,lp)) (i1:SB P t pl) (i2:ZV P t (.agg zc)) (hf:ZB (fun i=>pl[i]?) zc lp=some cs) (k:WK P F ops m (ze T x.o.dst (.agg cs)) L Q):WK P F ops (x::m) T L Q:=by
 obtain⟨hw,parts,ho,hp⟩:=fh h
 exact vN hw (fun _=>UT ho hp hf) k
theorem kn (h1:WA P F ops [] T L) (h:Q T L):WK P F ops [] T L fun T L=>WA P F ops [] T L∧Q T L:=z5 ⟨h1,h⟩
theorem y6 {t:TypeId} {i a:Nat} {v:AVal} {cs:List AVal} (h:nA ops T x.o=some (t,i,a)) [L1 P t] (i1:Tk L z8 i cs R) (hv:cs[a]? =some v) (hd:fK T x.o=some v) (he:lx v=true) (k:WA P F ops m T L):WA P F ops (x::m) T L:=by
 obtain⟨hw,y,ho,hx⟩:=jA h
 obtain⟨d,h1,h2⟩:=Vx hd
 exact wV hw (fun _ hH=>Zp ho hx hv hH) h1 h2 (z3 _ he) k
theorem uY {t:TypeId} {i a n:Nat} {v u:AVal} {f:Nat→AVal} (h:nA ops T x.o=some (t,i,a)) [L1 P t] (i1:Tk L zI i (n,f) R) (hv:f a=v) (hd:fK T x.o=some u) (he:Yw u v=true) (k:WA P F ops m T L) (hl:a<n:=by omega):WA P F ops (x::m) T L:=by
 obtain⟨hw,y,ho,hx⟩:=jA h
 obtain⟨d,h1,h2⟩:=Vx hd
 exact wV hw (fun _ hH=>VE ho hx hl hv hH) h1 h2 he k
theorem YC {t:TypeId} {i a n:Nat} {vs:List AVal} {u:AVal} {cs:List AVal} (h:nA ops T x.o=some (t,i,a)) (i1:LN P t n) (i2:Tk L z8 i cs R) (hv:(cs.drop a).take n=vs) (hl:Nat.ble (a+n) cs.length=true) (hd:fK T x.o=some u) (he:Yw u (.agg vs)=true) (k:WA P F ops m T L):WA P F ops (x::m) T L:=by
 obtain⟨hw,y,ho,hx⟩:=jA h
 obtain⟨d,h1,h2⟩:=Vx hd
 exact wV hw (fun _ hH=>rD ho hx hv (Nat.le_of_ble_eq_true hl) hH) h1 h2 he k
theorem gv {u v:AVal} (hw:ag ops T x.o=some x.o.op) (hv:rO P F T x.o.op=some v) (hd:fK T x.o=some u) (he:Yw u v=true) (k:WA P F ops m T L):WA P F ops (x::m) T L:=by
 obtain⟨d,h1,h2⟩:=Vx hd
 exact vF (ue hw).1 (kP hv) h1 h2 he k
theorem Dj {K:Nat} {T:Tm} {a0:Nat} {v0:AVal} {a1:Nat} {v1:AVal} (hl:T.len=K) (g0:Tm.get a0 T=some v0) (g1:Tm.get a1 T=some v1): ∃tg,T=Tm.put a1 v1 (Tm.put a0 v0 (Tm.ofFun tg K)):=(Tm.shape K T hl).imp fun _ h=>by rw [←h,Tm.put_self g0,Tm.put_self g1]
theorem sA {K:Nat} {T:Tm} {a0:Nat} {v0:AVal} {a1:Nat} {v1:AVal} {a2:Nat} {v2:AVal} (hl:T.len=K) (g0:Tm.get a0 T=some v0) (g1:Tm.get a1 T=some v1) (g2:Tm.get a2 T=some v2): ∃tg,T=Tm.put a2 v2 (Tm.put a1 v1 (Tm.put a0 v0 (Tm.ofFun tg K))):=(Tm.shape K T hl).imp fun _ h=>by rw [←h,Tm.put_self g0,Tm.put_self g1,Tm.put_self g2]
theorem W7 {K:Nat} {T:Tm} {a0:Nat} {v0:AVal} {a1:Nat} {v1:AVal} {a2:Nat} {v2:AVal} {a3:Nat} {v3:AVal} (hl:T.len=K) (g0:Tm.get a0 T=some v0) (g1:Tm.get a1 T=some v1) (g2:Tm.get a2 T=some v2) (g3:Tm.get a3 T=some v3): ∃tg,T=Tm.put a3 v3 (Tm.put a2 v2 (Tm.put a1 v1 (Tm.put a0 v0 (Tm.ofFun tg K)))):=(Tm.shape K T hl).imp fun _ h=>by rw [←h,Tm.put_self g0,Tm.put_self g1,Tm.put_self g2,Tm.put_self g3]
theorem ef {K:Nat} {T:Tm} {a0:Nat} {v0:AVal} {a1:Nat} {v1:AVal} {a2:Nat} {v2:AVal} {a3:Nat} {v3:AVal} {a4:Nat} {v4:AVal} (hl:T.len=K) (g0:Tm.get a0 T=some v0) (g1:Tm.get a1 T=some v1) (g2:Tm.get a2 T=some v2) (g3:Tm.get a3 T=some v3) (g4:Tm.get a4 T=some v4): ∃tg,T=Tm.put a4 v4 (Tm.put a3 v3 (Tm.put a2 v2 (Tm.put a1 v1 (Tm.put a0 v0 (Tm.ofFun tg K))))):=(Tm.shape K T hl).imp fun _ h=>by rw [←h,Tm.put_self g0,Tm.put_self g1,Tm.put_self g2,Tm.put_self g3,Tm.put_self g4]
theorem oC {K:Nat} {T:Tm} {a0:Nat} {v0:AVal} {a1:Nat} {v1:AVal} {a2:Nat} {v2:AVal} {a3:Nat} {v3:AVal} {a4:Nat} {v4:AVal} {a5:Nat} {v5:AVal} (hl:T.len=K) (g0:Tm.get a0 T=some v0) (g1:Tm.get a1 T=some v1) (g2:Tm.get a2 T=some v2) (g3:Tm.get a3 T=some v3) (g4:Tm.get a4 T=some v4) (g5:Tm.get a5 T=some v5): ∃tg,T=Tm.put a5 v5 (Tm.put a4 v4 (Tm.put a3 v3 (Tm.put a2 v2 (Tm.put a1 v1 (Tm.put a0 v0 (Tm.ofFun tg K)))))):=(Tm.shape K T hl).imp fun _ h=>by rw [←h,Tm.put_self g0,Tm.put_self g1,Tm.put_self g2,Tm.put_self g3,Tm.put_self g4,Tm.put_self g5]
theorem Cw {K:Nat} {T:Tm} {a0:Nat} {v0:AVal} {a1:Nat} {v1:AVal} {a2:Nat} {v2:AVal} {a3:Nat} {v3:AVal} {a4:Nat} {v4:AVal} {a5:Nat} {v5:AVal} {a6:Nat} {v6:AVal} (hl:T.len=K) (g0:Tm.get a0 T=some v0) (g1:Tm.get a1 T=some v1) (g2:Tm.get a2 T=some v2) (g3:Tm.get a3 T=some v3) (g4:Tm.get a4 T=some v4) (g5:Tm.get a5 T=some v5) (g6:Tm.get a6 T=some v6): ∃tg,T=Tm.put a6 v6 (Tm.put a5 v5 (Tm.put a4 v4 (Tm.put a3 v3 (Tm.put a2 v2 (Tm.put a1 v1 (Tm.put a0 v0 (Tm.ofFun tg K))))))):=(Tm.shape K T hl).imp fun _ h=>by rw [←h,Tm.put_self g0,Tm.put_self g1,Tm.put_self g2,Tm.put_self g3,Tm.put_self g4,Tm.put_self g5,Tm.put_self g6]
theorem Di {K:Nat} {T:Tm} {a0:Nat} {v0:AVal} {a1:Nat} {v1:AVal} {a2:Nat} {v2:AVal} {a3:Nat} {v3:AVal} {a4:Nat} {v4:AVal} {a5:Nat} {v5:AVal} {a6:Nat} {v6:AVal} {a7:Nat} {v7:AVal} (hl:T.len=K) (g0:Tm.get a0 T=some v0) (g1:Tm.get a1 T=some v1) (g2:Tm.get a2 T=some v2) (g3:Tm.get a3 T=some v3) (g4:Tm.get a4 T=some v4) (g5:Tm.get a5 T=some v5) (g6:Tm.get a6 T=some v6) (g7:Tm.get a7 T=some v7): ∃tg,T=Tm.put a7 v7 (Tm.put a6 v6 (Tm.put a5 v5 (Tm.put a4 v4 (Tm.put a3 v3 (Tm.put a2 v2 (Tm.put a1 v1 (Tm.put a0 v0 (Tm.ofFun tg K)))))))):=(Tm.shape K T hl).imp fun _ h=>by rw [←h,Tm.put_self g0,Tm.put_self g1,Tm.put_self g2,Tm.put_self g3,Tm.put_self g4,Tm.put_self g5,Tm.put_self g6,Tm.put_self g7]
theorem A0 {K:Nat} {T:Tm} {a0:Nat} {v0:AVal} {a1:Nat} {v1:AVal} {a2:Nat} {v2:AVal} {a3:Nat} {v3:AVal} {a4:Nat} {v4:AVal} {a5:Nat} {v5:AVal} {a6:Nat} {v6:AVal} {a7:Nat} {v7:AVal} {a8:Nat} {v8:AVal} {a9:Nat} {v9:AVal} (hl:T.len=K) (g0:Tm.get a0 T=some v0) (g1:Tm.get a1 T=some v1) (g2:Tm.get a2 T=some v2) (g3:Tm.get a3 T=some v3) (g4:Tm.get a4 T=some v4) (g5:Tm.get a5 T=some v5) (g6:Tm.get a6 T=some v6) (g7:Tm.get a7 T=some v7) (g8:Tm.get a8 T=some v8) (g9:Tm.get a9 T=some v9): ∃tg,T=Tm.put a9 v9 (Tm.put a8 v8 (Tm.put a7 v7 (Tm.put a6 v6 (Tm.put a5 v5 (Tm.put a4 v4 (Tm.put a3 v3 (Tm.put a2 v2 (Tm.put a1 v1 (Tm.put a0 v0 (Tm.ofFun tg K)))))))))):=(Tm.shape K T hl).imp fun _ h=>by rw [←h,Tm.put_self g0,Tm.put_self g1,Tm.put_self g2,Tm.put_self g3,Tm.put_self g4,Tm.put_self g5,Tm.put_self g6,Tm.put_self g7,Tm.put_self g8,Tm.put_self g9]
theorem Jn {e:AExit} (he:(match e with| .exit _=>false|_=>true)=true):e= .normal∨e= .ret:=by
 cases e with
 |normal=>exact .inl rfl
 |ret=>exact .inr rfl
 |exit=>cases he
theorem zE {t:Tmp} {v:AVal} {rs:Array ResultVar} {QR:AVal→List SP→Prop} {e:AExit} (hr:rs.toList= [.tmp t]) (he:(match e with| .exit _=>false|_=>true)=true) (h:Tm.get t T=some v) (k: ∃L',QR v L'∧Sub L L'):(e= .normal∨e= .ret)∧Cy P T L rs.toList QR:=
 ⟨Jn he,[v],fun _ _=>by rw [hr];exact zi (za h) q7,k⟩
def Y5 (ops:Array Oper) (T:Tm) (o:Oper):Option (FuncId×List AVal):=match ag ops T o with
 |some (.call c)=>match c.callee with
  | .value f=>match kq (opnd T f) (qf T c.args.toList)with
   |some (.call g as)=>some (g,as)
   |_=>none
  |_=>none
 |_=>none
theorem qX {f:FuncId} {as:List AVal} (h:Y5 ops T o=some (f,as)):zJ ops T o=some true∧ ∀H,yJ P F T H o=some (.call f as):=by
 unfold Y5 at h
 split at h
 ·rename_i c e
  split at h
  ·rename_i x e2
   split at h
   ·rename_i g bs e3
    cases h
    refine⟨(ue e).1,fun H=> ?_⟩
    simp only [yJ,(ue e).2,e2,e3]
   cases h
  cases h
 cases h
theorem Z0 {f:FuncId} {as:List AVal} {w:AVal} {L':List SP} (hc:SW P F hook f as L fun v L2=>v=w∧L2=L') (h:Y5 ops T o=some (f,as)) (k:WO P F hook ops l (ze T o.dst w) L' Q):WO P F hook ops (o::l) T L Q:=
 o_call hc (qX (P:=P) (F:=F) h).1 (qX h).2 (by rintro _ _ ⟨rfl,rfl⟩;exact k)
theorem Z1 {f:FuncId} {as:List AVal} {w:AVal} {L':List SP} {κ1 α1:Type} {K1:κ1→α1→SP} {a1:κ1} {x1:α1} (hc:SW P F hook f as (ent K1 a1 x1::R) fun v L2=>v=w∧L2=L') (h:Y5 ops T o=some (f,as)) (t1:Tk L K1 a1 x1 R) (k:WO P F hook ops l (ze T o.dst w) L' Q):WO P F hook ops (o::l) T L Q:=
 yG hc (qX (P:=P) (F:=F) h).1 (qX h).2 (by rintro _ _ ⟨rfl,rfl⟩;exact k)
theorem Z2 {f:FuncId} {as:List AVal} {w:AVal} {L':List SP} {κ1 α1:Type} {K1:κ1→α1→SP} {a1:κ1} {x1:α1} {κ2 α2:Type} {K2:κ2→α2→SP} {a2:κ2} {x2:α2} {R1:List SP} (hc:SW P F hook f as (ent K1 a1 x1::ent K2 a2 x2::R) fun v L2=>v=w∧L2=L') (h:Y5 ops T o=some (f,as)) (t1:Tk L K1 a1 x1 R1) (t2:Tk R1 K2 a2 x2 R) (k:WO P F hook ops l (ze T o.dst w) L' Q):WO P F hook ops (o::l) T L Q:=
 Yc hc (qX (P:=P) (F:=F) h).1 (qX h).2 (by rintro _ _ ⟨rfl,rfl⟩;exact k)
theorem Z3 {f:FuncId} {as:List AVal} {w:AVal} {L':List SP} {κ1 α1:Type} {K1:κ1→α1→SP} {a1:κ1} {x1:α1} {κ2 α2:Type} {K2:κ2→α2→SP} {a2:κ2} {x2:α2} {κ3 α3:Type} {K3:κ3→α3→SP} {a3:κ3} {x3:α3} {R1 R2:List SP} (hc:SW P F hook f as (ent K1 a1 x1::ent K2 a2 x2::ent K3 a3 x3::R) fun v L2=>v=w∧L2=L') (h:Y5 ops T o=some (f,as)) (t1:Tk L K1 a1 x1 R1) (t2:Tk R1 K2 a2 x2 R2) (t3:Tk R2 K3 a3 x3 R) (k:WO P F hook ops l (ze T o.dst w) L' Q):WO P F hook ops (o::l) T L Q:=
 oS hc (qX (P:=P) (F:=F) h).1 (qX h).2 (by rintro _ _ ⟨rfl,rfl⟩;exact k)
theorem Z4 {f:FuncId} {as:List AVal} {w:AVal} {L':List SP} {κ1 α1:Type} {K1:κ1→α1→SP} {a1:κ1} {x1:α1} {κ2 α2:Type} {K2:κ2→α2→SP} {a2:κ2} {x2:α2} {κ3 α3:Type} {K3:κ3→α3→SP} {a3:κ3} {x3:α3} {κ4 α4:Type} {K4:κ4→α4→SP} {a4:κ4} {x4:α4} {R1 R2 R3:List SP} (hc:SW P F hook f as (ent K1 a1 x1::ent K2 a2 x2::ent K3 a3 x3::ent K4 a4 x4::R) fun v L2=>v=w∧L2=L') (h:Y5 ops T o=some (f,as)) (t1:Tk L K1 a1 x1 R1) (t2:Tk R1 K2 a2 x2 R2) (t3:Tk R2 K3 a3 x3 R3) (t4:Tk R3 K4 a4 x4 R) (k:WO P F hook ops l (ze T o.dst w) L' Q):WO P F hook ops (o::l) T L Q:=
 je hc (qX (P:=P) (F:=F) h).1 (qX h).2 (by rintro _ _ ⟨rfl,rfl⟩;exact k)
theorem Z5 {f:FuncId} {as:List AVal} {w:AVal} {L':List SP} {κ1 α1:Type} {K1:κ1→α1→SP} {a1:κ1} {x1:α1} {κ2 α2:Type} {K2:κ2→α2→SP} {a2:κ2} {x2:α2} {κ3 α3:Type} {K3:κ3→α3→SP} {a3:κ3} {x3:α3} {κ4 α4:Type} {K4:κ4→α4→SP} {a4:κ4} {x4:α4} {κ5 α5:Type} {K5:κ5→α5→SP} {a5:κ5} {x5:α5} {R1 R2 R3 R4:List SP} (hc:SW P F hook f as (ent K1 a1 x1::ent K2 a2 x2::ent K3 a3 x3::ent K4 a4 x4::ent K5 a5 x5::R) fun v L2=>v=w∧L2=L') (h:Y5 ops T o=some (f,as)) (t1:Tk L K1 a1 x1 R1) (t2:Tk R1 K2 a2 x2 R2) (t3:Tk R2 K3 a3 x3 R3) (t4:Tk R3 K4 a4 x4 R4) (t5:Tk R4 K5 a5 x5 R) (k:WO P F hook ops l (ze T o.dst w) L' Q):WO P F hook ops (o::l) T L Q:=
 sM hc (qX (P:=P) (F:=F) h).1 (qX h).2 (by rintro _ _ ⟨rfl,rfl⟩;exact k)
theorem Z6 {f:FuncId} {as:List AVal} {w:AVal} {L':List SP} {κ1 α1:Type} {K1:κ1→α1→SP} {a1:κ1} {x1:α1} {κ2 α2:Type} {K2:κ2→α2→SP} {a2:κ2} {x2:α2} {κ3 α3:Type} {K3:κ3→α3→SP} {a3:κ3} {x3:α3} {κ4 α4:Type} {K4:κ4→α4→SP} {a4:κ4} {x4:α4} {κ5 α5:Type} {K5:κ5→α5→SP} {a5:κ5} {x5:α5} {κ6 α6:Type} {K6:κ6→α6→SP} {a6:κ6} {x6:α6} {R1 R2 R3 R4 R5:List SP} (hc:SW P F hook f as (ent K1 a1 x1::ent K2 a2 x2::ent K3 a3 x3::ent K4 a4 x4::ent K5 a5 x5::ent K6 a6 x6::R) fun v L2=>v=w∧L2=L') (h:Y5 ops T o=some (f,as)) (t1:Tk L K1 a1 x1 R1) (t2:Tk R1 K2 a2 x2 R2) (t3:Tk R2 K3 a3 x3 R3) (t4:Tk R3 K4 a4 x4 R4) (t5:Tk R4 K5 a5 x5 R5) (t6:Tk R5 K6 a6 x6 R) (k:WO P F hook ops l (ze T o.dst w) L' Q):WO P F hook ops (o::l) T L Q:=
 sq hc (qX (P:=P) (F:=F) h).1 (qX h).2 (by rintro _ _ ⟨rfl,rfl⟩;exact k)
theorem Z7 {f:FuncId} {as:List AVal} {w:AVal} {L':List SP} {κ1 α1:Type} {K1:κ1→α1→SP} {a1:κ1} {x1:α1} {κ2 α2:Type} {K2:κ2→α2→SP} {a2:κ2} {x2:α2} {κ3 α3:Type} {K3:κ3→α3→SP} {a3:κ3} {x3:α3} {κ4 α4:Type} {K4:κ4→α4→SP} {a4:κ4} {x4:α4} {κ5 α5:Type} {K5:κ5→α5→SP} {a5:κ5} {x5:α5} {κ6 α6:Type} {K6:κ6→α6→SP} {a6:κ6} {x6:α6} {κ7 α7:Type} {K7:κ7→α7→SP} {a7:κ7} {x7:α7} {R1 R2 R3 R4 R5 R6:List SP} (hc:SW P F hook f as (ent K1 a1 x1::ent K2 a2 x2::ent K3 a3 x3::ent K4 a4 x4::ent K5 a5 x5::ent K6 a6 x6::ent K7 a7 x7::R) fun v L2=>v=w∧L2=L') (h:Y5 ops T o=some (f,as)) (t1:Tk L K1 a1 x1 R1) (t2:Tk R1 K2 a2 x2 R2) (t3:Tk R2 K3 a3 x3 R3) (t4:Tk R3 K4 a4 x4 R4) (t5:Tk R4 K5 a5 x5 R5) (t6:Tk R5 K6 a6 x6 R6) (t7:Tk R6 K7 a7 x7 R) (k:WO P F hook ops l (ze T o.dst w) L' Q):WO P F hook ops (o::l) T L Q:=
 o3 hc (qX (P:=P) (F:=F) h).1 (qX h).2 (by rintro _ _ ⟨rfl,rfl⟩;exact k)
theorem Z8 {f:FuncId} {as:List AVal} {w:AVal} {L':List SP} {κ1 α1:Type} {K1:κ1→α1→SP} {a1:κ1} {x1:α1} {κ2 α2:Type} {K2:κ2→α2→SP} {a2:κ2} {x2:α2} {κ3 α3:Type} {K3:κ3→α3→SP} {a3:κ3} {x3:α3} {κ4 α4:Type} {K4:κ4→α4→SP} {a4:κ4} {x4:α4} {κ5 α5:Type} {K5:κ5→α5→SP} {a5:κ5} {x5:α5} {κ6 α6:Type} {K6:κ6→α6→SP} {a6:κ6} {x6:α6} {κ7 α7:Type} {K7:κ7→α7→SP} {a7:κ7} {x7:α7} {κ8 α8:Type} {K8:κ8→α8→SP} {a8:κ8} {x8:α8} {R1 R2 R3 R4 R5 R6 R7:List SP} (hc:SW P F hook f as (ent K1 a1 x1::ent K2 a2 x2::ent K3 a3 x3::ent K4 a4 x4::ent K5 a5 x5::ent K6 a6 x6::ent K7 a7 x7::ent K8 a8 x8::R) fun v L2=>v=w∧L2=L') (h:Y5 ops T o=some (f,as)) (t1:Tk L K1 a1 x1 R1) (t2:Tk R1 K2 a2 x2 R2) (t3:Tk R2 K3 a3 x3 R3) (t4:Tk R3 K4 a4 x4 R4) (t5:Tk R4 K5 a5 x5 R5) (t6:Tk R5 K6 a6 x6 R6) (t7:Tk R6 K7 a7 x7 R7) (t8:Tk R7 K8 a8 x8 R) (k:WO P F hook ops l (ze T o.dst w) L' Q):WO P F hook ops (o::l) T L Q:=
 aQ hc (qX (P:=P) (F:=F) h).1 (qX h).2 (by rintro _ _ ⟨rfl,rfl⟩;exact k)
theorem qz {rs:Array ResultVar} {QR:AVal→List SP→Prop} {e:AExit} (hr:rs.toList= []) (he:(match e with| .exit _=>false|_=>true)=true) (k: ∃L',QR (.tuple []) L'∧Sub L L'):(e= .normal∨e= .ret)∧Cy P T L rs.toList QR:=
 ⟨Jn he,[],fun _ _=>by rw [hr];exact q7,k⟩
theorem qO {t u:Tmp} {v w:AVal} {rs:Array ResultVar} {QR:AVal→List SP→Prop} {e:AExit} (hr:rs.toList= [.tmp t,.tmp u]) (he:(match e with| .exit _=>false|_=>true)=true) (h:Tm.get t T=some v) (h2:Tm.get u T=some w) (k: ∃L',QR (.tuple [v,w]) L'∧Sub L L'):(e= .normal∨e= .ret)∧Cy P T L rs.toList QR:=
 ⟨Jn he,[v,w],fun _ _=>by rw [hr];exact zi (za h) (zi (za h2) q7),k⟩
theorem fq {v:AVal} {L':List SP} [s:Sub L L']: ∃L2,(v=v∧L2=L')∧Sub L L2:=⟨_,⟨rfl,rfl⟩,s⟩
end
end
noncomputable section
inductive RO where
 |fail
 |ok (T:Tm) (H:Hp)
inductive RV where
 |fail
 |ok (v:AVal) (H:Hp)
inductive RC where
 |fail
 |norm (T:Tm) (H:Hp)
 |exit (i:Nat) (T:Tm) (H:Hp)
 |ret (T:Tm) (H:Hp)
structure yV where
 code:Code→Tm→Hp→RC
 call:FuncId→List AVal→Hp→RV
def RO.opt:RO→Option (Tm×Hp)
 | .fail=>none
 | .ok T H=>some (T,H)
def RV.opt:RV→Option (AVal×Hp)
 | .fail=>none
 | .ok v H=>some (v,H)
def RC.opt:RC→Option (AExit×Tm×Hp)
 | .fail=>none
 | .norm T H=>some (.normal,T,H)
 | .exit i T H=>some (.exit i,T,H)
 | .ret T H=>some (.ret,T,H)
def Cc (_v:AVal) (T:Tm):Tm:=T
def Cd (d:Tmp) (v:AVal) (T:Tm):Tm:=Tm.put d v T
def U9 (d:Option Tmp) (v:AVal) (T:Tm):Tm:=Option.rec (motive:=fun _=>AVal→Tm→Tm) Cc Cd d v T
def ew (_d:Option Tmp) (_T:Tm):RO:= .fail
def CR (v:AVal) (H:Hp) (d:Option Tmp) (T:Tm):RO:= .ok (U9 d v T) H
def DR (v:AVal) (H:Hp) (_rec:yV) (T:Tm) (_H0:Hp) (o:Oper):RO:= .ok (U9 o.dst v T) H
def fu (f:FuncId) (args:List AVal) (rec:yV) (T:Tm) (H0:Hp) (o:Oper):RO:=
 RV.rec (motive:=fun _=>Option Tmp→Tm→RO) ew CR (rec.call f args H0) o.dst T
def C5 (_rec:yV) (_T:Tm) (_H0:Hp) (_o:Oper):RO:= .fail
def C6 (x:zH) (rec:yV) (T:Tm) (H0:Hp) (o:Oper):RO:=zH.rec (motive:=fun _=>yV→Tm→Hp→Oper→RO) DR fu x rec T H0 o
def mX (r:Option zH) (rec:yV) (T:Tm) (H:Hp) (o:Oper):RO:=Option.rec (motive:=fun _=>yV→Tm→Hp→Oper→RO) C5 C6 r rec T H o
def BO (P:Program) (F:z9) (rec:yV) (_ops:Array Oper) (T:Tm) (H:Hp) (o:Oper):RO:=mX (Zr P F T H o) rec T H o
def C7 (P:Program) (F:z9) (rec:yV) (T:Tm) (H:Hp) (o:Oper) (b:Bool):RO:=
 Bool.rec (motive:=fun _=>RO) (.ok (U9 o.dst unit T) H) (mX (Zr P F T H o) rec T H o) b
def oZ (w:Option Bool) (P:Program) (F:z9) (rec:yV) (T:Tm) (H:Hp) (o:Oper):RO:=
 Option.rec (motive:=fun _=>RO) .fail (fun b=>C7 P F rec T H o b) w
def Cj (_g:Nat×Bool) (P:Program) (F:z9) (rec:yV) (ops:Array Oper) (T:Tm) (H:Hp) (o:Oper):RO:=oZ (zJ ops T o) P F rec T H o
def YD (P:Program) (F:z9) (rec:yV) (ops:Array Oper) (T:Tm) (H:Hp) (o:Oper):RO:=
 Option.rec (motive:=fun _=>Program→z9→yV→Array Oper→Tm→Hp→Oper→RO) BO Cj o.guard P F rec ops T H o
theorem Ql (d:Option Tmp) (v:AVal) (T:Tm):U9 d v T=ze T d v:=by cases d<;>rfl
theorem bH {P:Program} {F:z9} {rec:Vg} {recF:yV} (hc: ∀f as H,(recF.call f as H).opt=rec.call f as H) (ops:Array Oper) (T:Tm) (H:Hp) (o:Oper):
 (YD P F recF ops T H o).opt=gS P F rec ops T H o:=by
 have hdone:(mX (Zr P F T H o) recF T H o).opt=(match Zr P F T H o with
  |some (.val v H)=>some (ze T o.dst v,H)
  |some (.call f args)=>match rec.call f args H with
   |some (v,H)=>some (ze T o.dst v,H)
   |none=>none
  |none=>none):=by
  cases h:Zr P F T H o with
  |none=>rfl
  |some x=>
   cases x with
   |val v H'=>show some (U9 o.dst v T,H')=_;rw [Ql]
   |call f as=>
    have:=hc f as H
    show(fu f as recF T H o).opt=_
    unfold fu
    simp only
    rw [←this]
    cases recF.call f as H with
    |fail=>rfl
    |ok v H'=>show some (U9 o.dst v T,H')=_;rw [Ql];rfl
 unfold gS
 cases hg:o.guard with
 |none=>
  have hw:zJ ops T o=some true:=by unfold zJ;rw [hg]
  have e:YD P F recF ops T H o=mX (Zr P F T H o) recF T H o:=by unfold YD;rw [hg];rfl
  rw [e,hw];exact hdone
 |some g=>
  have e:YD P F recF ops T H o=oZ (zJ ops T o) P F recF T H o:=by unfold YD;rw [hg];rfl
  rw [e]
  cases hw:zJ ops T o with
  |none=>rfl
  |some b=>
   cases b with
   |true=>exact hdone
   |false=>show some (U9 o.dst unit T,H)=_;rw [Ql]
abbrev dN:=Program→z9→yV→Array Oper→Tm→Hp→RO
def D4 (_P:Program) (_F:z9) (_rec:yV) (_ops:Array Oper) (T:Tm) (H:Hp):RO:= .ok T H
def ol (_k:dN) (_P:Program) (_F:z9) (_rec:yV) (_ops:Array Oper):RO:= .fail
def DX (T:Tm) (H:Hp) (k:dN) (P:Program) (F:z9) (rec:yV) (ops:Array Oper):RO:=k P F rec ops T H
def BX (o:Oper) (_os:List Oper) (k:dN) (P:Program) (F:z9) (rec:yV) (ops:Array Oper) (T:Tm) (H:Hp):RO:=
 RO.rec (motive:=fun _=>dN→Program→z9→yV→Array Oper→RO) ol DX (YD P F rec ops T H o) k P F rec ops
def AM (l:List Oper):dN:=List.rec (motive:=fun _=>dN) D4 BX l
theorem oG {P:Program} {F:z9} {rec:Vg} {recF:yV} (hc: ∀f as H,(recF.call f as H).opt=rec.call f as H) (ops:Array Oper): ∀(l:List Oper) (T:Tm) (H:Hp),
 (AM l P F recF ops T H).opt=ZE P F rec ops l T H:=by
 intro l
 induction l with
 |nil=>intro T H;rfl
 |cons o os ih=>
  intro T H
  have:=bH (P:=P) (F:=F) hc ops T H o
  show(RO.rec (motive:=fun _=>dN→Program→z9→yV→Array Oper→RO) ol DX (YD P F recF ops T H o) (AM os) P F recF ops:RO).opt=_
  unfold ZE
  rw [←this]
  cases YD P F recF ops T H o with
  |fail=>rfl
  |ok T' H'=>exact ih T' H'
def DN (v:AVal) (H':Hp) (T:Tm) (H:Hp) (o:Oper):RO:= .ok (U9 o.dst v T) (Bool.rec (motive:=fun _=>Hp) H H' (qU o.op))
def Br (_f:FuncId) (_args:List AVal) (_T:Tm) (_H:Hp) (_o:Oper):RO:= .fail
def Cp (_T:Tm) (_H:Hp) (_o:Oper):RO:= .fail
def Ct (x:zH) (T:Tm) (H:Hp) (o:Oper):RO:=zH.rec (motive:=fun _=>Tm→Hp→Oper→RO) DN Br x T H o
def cW (r:Option zH) (T:Tm) (H:Hp) (o:Oper):RO:=Option.rec (motive:=fun _=>Tm→Hp→Oper→RO) Cp Ct r T H o
def oe (_P:Program) (_F:z9) (_T:Tm) (_H:Hp) (_o:Oper):RO:= .fail
def DJ (_P:Program) (_F:z9) (T:Tm) (H:Hp) (o:Oper):RO:= .ok (U9 o.dst unit T) H
def Df (P:Program) (F:z9) (T:Tm) (H:Hp) (o:Oper):RO:=cW (Zr P F T H o) T H o
def iW (b:Bool):Program→z9→Tm→Hp→Oper→RO:=Bool.rec (motive:=fun _=>Program→z9→Tm→Hp→Oper→RO) DJ Df b
def Cl (P:Program) (F:z9) (_ops:Array Oper) (T:Tm) (H:Hp) (o:Oper):RO:=Df P F T H o
def Bh (_g:Nat×Bool) (P:Program) (F:z9) (ops:Array Oper) (T:Tm) (H:Hp) (o:Oper):RO:=
 Option.rec (motive:=fun _=>Program→z9→Tm→Hp→Oper→RO) oe iW (zJ ops T o) P F T H o
def VF (P:Program) (F:z9) (ops:Array Oper) (T:Tm) (H:Hp) (o:Oper):RO:=
 Option.rec (motive:=fun _=>Program→z9→Array Oper→Tm→Hp→Oper→RO) Cl Bh o.guard P F ops T H o
theorem rR (P:Program) (F:z9) (ops:Array Oper) (T:Tm) (H:Hp) (o:Oper):(VF P F ops T H o).opt=jO P F ops T H o:=by
 have hdone:(cW (Zr P F T H o) T H o).opt=(match Zr P F T H o with
  |some (.val v H')=>some (ze T o.dst v,bif qU o.op then H' else H)
  |_=>none):=by
  cases h:Zr P F T H o with
  |none=>rfl
  |some x=>
   cases x with
   |val v H'=>
    show some (U9 o.dst v T,_)=_
    rw [Ql]
    cases qU o.op<;>rfl
   |call f as=>rfl
 unfold jO
 cases hg:o.guard with
 |none=>
  have hw:zJ ops T o=some true:=by unfold zJ;rw [hg]
  have e:VF P F ops T H o=cW (Zr P F T H o) T H o:=by unfold VF;rw [hg];rfl
  rw [e,hw];exact hdone
 |some g=>
  have e:VF P F ops T H o=(Option.rec (motive:=fun _=>Program→z9→Tm→Hp→Oper→RO) oe iW (zJ ops T o) P F T H o:RO):=by unfold VF;rw [hg];rfl
  rw [e]
  cases hw:zJ ops T o with
  |none=>rfl
  |some b=>
   cases b with
   |true=>exact hdone
   |false=>show some (U9 o.dst unit T,H)=_;rw [Ql]
abbrev GE:=Program→z9→Array Oper→Tm→Hp→RO
def DK (_P:Program) (_F:z9) (_ops:Array Oper) (T:Tm) (H:Hp):RO:= .ok T H
def iB (_k:GE) (_P:Program) (_F:z9) (_ops:Array Oper):RO:= .fail
def Dd (T:Tm) (H:Hp) (k:GE) (P:Program) (F:z9) (ops:Array Oper):RO:=k P F ops T H
def Ba (x:It) (_l:List It) (k:GE) (P:Program) (F:z9) (ops:Array Oper) (T:Tm) (H:Hp):RO:=
 RO.rec (motive:=fun _=>GE→Program→z9→Array Oper→RO) iB Dd (VF P F ops T H x.o) k P F ops
def UJ (l:List It):GE:=List.rec (motive:=fun _=>GE) DK Ba l
theorem ta (P:Program) (F:z9) (ops:Array Oper): ∀(l:List It) (T:Tm) (H:Hp),(UJ l P F ops T H).opt=jd P F ops l T H:=by
 intro l
 induction l with
 |nil=>intro T H;rfl
 |cons x l ih=>
  intro T H
  have:=rR P F ops T H x.o
  show(RO.rec (motive:=fun _=>GE→Program→z9→Array Oper→RO) iB Dd (VF P F ops T H x.o) (UJ l) P F ops:RO).opt=_
  unfold jd
  rw [←this]
  cases VF P F ops T H x.o with
  |fail=>rfl
  |ok T' H'=>exact ih T' H'
def DL (v:AVal) (_H:Hp) (T:Tm) (o:Oper):Bool:=match o.dst with
 |none=>true
 |some d=>match Tm.get d T with
  |some u=>Yw u v
  |none=>true
def Cq (_f:FuncId) (_args:List AVal) (_T:Tm) (_o:Oper):Bool:=false
def Bf (_T:Tm) (_o:Oper):Bool:=false
def C2 (x:zH) (T:Tm) (o:Oper):Bool:=zH.rec (motive:=fun _=>Tm→Oper→Bool) DL Cq x T o
def iM (r:Option zH) (T:Tm) (o:Oper):Bool:=Option.rec (motive:=fun _=>Tm→Oper→Bool) Bf C2 r T o
def Bi (P:Program) (F:z9) (_ops:Array Oper) (T:Tm) (H:Hp) (o:Oper):Bool:=iM (Zr P F T H o) T o
def CV (_g:Nat×Bool) (P:Program) (F:z9) (ops:Array Oper) (T:Tm) (H:Hp) (o:Oper):Bool:=wo P F ops T H o
def Wp (P:Program) (F:z9) (ops:Array Oper) (T:Tm) (H:Hp) (o:Oper):Bool:=
 Option.rec (motive:=fun _=>Program→z9→Array Oper→Tm→Hp→Oper→Bool) Bi CV o.guard P F ops T H o
theorem tT (P:Program) (F:z9) (ops:Array Oper) (T:Tm) (H:Hp) (o:Oper):Wp P F ops T H o=wo P F ops T H o:=by
 cases hg:o.guard with
 |none=>
  have hw:zJ ops T o=some true:=by unfold zJ;rw [hg]
  have e:Wp P F ops T H o=iM (Zr P F T H o) T o:=by unfold Wp;rw [hg];rfl
  rw [e]
  unfold wo
  rw [hw]
  cases Zr P F T H o with
  |none=>rfl
  |some x=>cases x<;>rfl
 |some g=>unfold Wp;rw [hg];rfl
def eK (P:Program) (F:z9) (ops:Array Oper) (T:Tm) (H:Hp) (l:List It):Bool:=List.rec (motive:=fun _=>Bool) true (fun x _ ih=>Bool.rec (motive:=fun _=>Bool) false ih (Wp P F ops T H x.o)) l
theorem eE (P:Program) (F:z9) (ops:Array Oper) (T:Tm) (H:Hp): ∀l:List It,eK P F ops T H l=l.all (fun x=>wo P F ops T H x.o):=by
 intro l
 induction l with
 |nil=>rfl
 |cons x l ih=>
  show(Bool.rec (motive:=fun _=>Bool) false (eK P F ops T H l) (Wp P F ops T H x.o):Bool)=_
  rw [tT,ih,List.all_cons]
  cases wo P F ops T H x.o<;>rfl
abbrev qu:=Program→z9→yV→Array Oper→Tm→Hp→RO
def DQ (_P:Program) (_F:z9) (_rec:yV) (_ops:Array Oper) (_T:Tm) (_H:Hp):RO:= .fail
def Bn (_k:qu) (_P:Program) (_F:z9) (_rec:yV) (_ops:Array Oper) (T:Tm) (H:Hp):RO:= .ok T H
def oi (_k:qu) (_P:Program) (_F:z9) (_rec:yV) (_ops:Array Oper):RO:= .fail
def Dg (T:Tm) (H:Hp) (k:qu) (P:Program) (F:z9) (rec:yV) (ops:Array Oper):RO:=k P F rec ops T H
def A1 (c:It) (k:qu) (P:Program) (F:z9) (rec:yV) (ops:Array Oper) (T:Tm) (H:Hp):RO:=
 RO.rec (motive:=fun _=>qu→Program→z9→yV→Array Oper→RO) oi Dg (YD P F rec ops T H c.o) k P F rec ops
def bV (_s:wZ) (_k:qu) (_P:Program) (_F:z9) (_rec:yV) (_ops:Array Oper) (_T:Tm) (_H:Hp):RO:= .fail
def Qd (s:wZ) (k:qu) (P:Program) (F:z9) (rec:yV) (ops:Array Oper) (T:Tm) (H:Hp):RO:=
 Option.rec (motive:=fun _=>qu→Program→z9→yV→Array Oper→Tm→Hp→RO) Bn A1 s.chain k P F rec ops T H
def lc (_s:wZ) (_k:qu) (_P:Program) (_F:z9) (_rec:yV) (_ops:Array Oper):RO:= .fail
def BV (T:Tm) (H:Hp) (s:wZ) (k:qu) (P:Program) (F:z9) (rec:yV) (ops:Array Oper):RO:=
 Bool.rec (motive:=fun _=>wZ→qu→Program→z9→yV→Array Oper→Tm→Hp→RO) bV Qd (eK P F ops T H s.again) s k P F rec ops T H
def BY (s:wZ) (_ss:List wZ) (k:qu) (P:Program) (F:z9) (rec:yV) (ops:Array Oper) (T:Tm) (H:Hp):RO:=
 RO.rec (motive:=fun _=>wZ→qu→Program→z9→yV→Array Oper→RO) lc BV (UJ s.work P F ops T H) s k P F rec ops
def Yp (l:List wZ):qu:=List.rec (motive:=fun _=>qu) DQ BY l
def CT (_P:Program) (_F:z9) (_rec:yV) (_ops:Array Oper) (_T:Tm) (_H:Hp):RO:= .fail
def CM (ss:List wZ) (P:Program) (F:z9) (rec:yV) (ops:Array Oper) (T:Tm) (H:Hp):RO:=Yp ss P F rec ops T H
def fx (P:Program) (F:z9) (rec:yV) (ops:Array Oper) (T:Tm) (H:Hp):RO:=
 Option.rec (motive:=fun _=>qu) CT CM (QG ops) P F rec ops T H
theorem pK {P:Program} {F:z9} {rec:Vg} {recF:yV} (hc: ∀f as H,(recF.call f as H).opt=rec.call f as H) (ops:Array Oper): ∀(l:List wZ) (T:Tm) (H:Hp),
 (Yp l P F recF ops T H).opt=wY P F rec ops l T H:=by
 intro l
 induction l with
 |nil=>intro T H;rfl
 |cons s ss ih=>
  intro T H
  have hw:=ta P F ops s.work T H
  show(RO.rec (motive:=fun _=>wZ→qu→Program→z9→yV→Array Oper→RO) lc BV (UJ s.work P F ops T H) s (Yp ss) P F recF ops:RO).opt=_
  unfold wY
  rw [←hw]
  cases UJ s.work P F ops T H with
  |fail=>rfl
  |ok T1 H1=>
   show(Bool.rec (motive:=fun _=>wZ→qu→Program→z9→yV→Array Oper→Tm→Hp→RO) bV Qd (eK P F ops T1 H1 s.again) s (Yp ss) P F recF ops T1 H1:RO).opt=_
   rw [eE]
   simp only [RO.opt]
   cases s.again.all (fun x=>wo P F ops T1 H1 x.o)with
   |false=>rfl
   |true=>
    simp only [cond_true]
    show(Qd s (Yp ss) P F recF ops T1 H1).opt=_
    unfold Qd
    cases s.chain with
    |none=>rfl
    |some c=>
     have:=bH (P:=P) (F:=F) hc ops T1 H1 c.o
     show(RO.rec (motive:=fun _=>qu→Program→z9→yV→Array Oper→RO) oi Dg (YD P F recF ops T1 H1 c.o) (Yp ss) P F recF ops:RO).opt=_
     simp only
     rw [←this]
     cases YD P F recF ops T1 H1 c.o with
     |fail=>rfl
     |ok T2 H2=>exact ih T2 H2
theorem lY {P:Program} {F:z9} {rec:Vg} {recF:yV} (hc: ∀f as H,(recF.call f as H).opt=rec.call f as H) (ops:Array Oper) (T:Tm) (H:Hp):(fx P F recF ops T H).opt=YY P F rec ops T H:=by
 unfold fx YY
 cases QG ops with
 |none=>rfl
 |some ss=>exact pK hc ops ss T H
abbrev gC:=Program→z9→yV→Tm→Hp→RC
def oj (_P:Program) (_F:z9) (_rec:yV) (T:Tm) (H:Hp):RC:= .norm T H
def mo (_P:Program) (_F:z9) (_rec:yV) (_T:Tm) (_H:Hp):RC:= .fail
def Ak (_l:Nat):gC:=oj
def mF:RC:= .fail
def oh (T:Tm) (H:Hp):RC:= .norm T H
def eL (_id:Nat) (ops:Array Oper) (draw:Bool) (P:Program) (F:z9) (rec:yV) (T:Tm) (H:Hp):RC:=
 RO.rec (motive:=fun _=>RC) mF oh (Bool.rec (motive:=fun _=>RO) (AM ops.toList P F rec ops T H) (fx P F rec ops T H) draw)
def mh (_rec:yV) (_b:Code):RC:= .fail
def mS (T:Tm) (H:Hp) (rec:yV) (b:Code):RC:=rec.code b T H
def mR (i:Nat) (T:Tm) (H:Hp) (_rec:yV) (_b:Code):RC:= .exit i T H
def ae (T:Tm) (H:Hp) (_rec:yV) (_b:Code):RC:= .ret T H
def DU (a b:Code) (_P:Program) (_F:z9) (rec:yV) (T:Tm) (H:Hp):RC:=RC.rec (motive:=fun _=>yV→Code→RC) mh mS mR ae (rec.code a T H) rec b
def Bw (b:Code) (_P:Program) (_F:z9) (rec:yV) (T:Tm) (H:Hp):RC:=RC.rec (motive:=fun _=>yV→Code→RC) mh mS mR ae (rec.code b T H) rec (.loop b)
def oX (_id:Nat):RC:= .fail
def iF (T:Tm) (H:Hp) (_id:Nat):RC:= .norm T H
def mK (i:Nat) (T:Tm) (H:Hp) (id:Nat):RC:=Bool.rec (motive:=fun _=>RC) (.exit i T H) (.norm T H) (Nat.beq i id)
def Bl (T:Tm) (H:Hp) (_id:Nat):RC:= .ret T H
def A2 (id:Nat) (b:Code) (_P:Program) (_F:z9) (rec:yV) (T:Tm) (H:Hp):RC:=RC.rec (motive:=fun _=>Nat→RC) oX iF mK Bl (rec.code b T H) id
def B5 (_a b:Code) (rec:yV) (T:Tm) (H:Hp):RC:=rec.code b T H
def Bd (a _b:Code) (rec:yV) (T:Tm) (H:Hp):RC:=rec.code a T H
def iG (t:Bool):Code→Code→yV→Tm→Hp→RC:=Bool.rec (motive:=fun _=>Code→Code→yV→Tm→Hp→RC) B5 Bd t
def kK (x:Option AVal):Option Bool:=match x with
 |some (.bool t)=>some t
 |_=>none
def oo (_a _b:Code) (_rec:yV) (_T:Tm) (_H:Hp):RC:= .fail
def Bb (x:Operand) (a b:Code) (_P:Program) (_F:z9) (rec:yV) (T:Tm) (H:Hp):RC:=Option.rec (motive:=fun _=>Code→Code→yV→Tm→Hp→RC) oo iG (kK (opnd T x)) a b rec T H
def C0 (id:Nat) (_P:Program) (_F:z9) (_rec:yV) (T:Tm) (H:Hp):RC:= .exit id T H
def DT (_P:Program) (_F:z9) (_rec:yV) (T:Tm) (H:Hp):RC:= .ret T H
def cw (id:Nat) (ops:Array Oper) (draw:Bool):gC:=eL id ops draw
def C1 (a b:Code) (_ _:gC):gC:=DU a b
def AZ (x:Operand) (a b:Code) (_ _:gC):gC:=Bb x a b
def sn (id:Nat) (b:Code) (_:gC):gC:=A2 id b
def ia (b:Code) (_:gC):gC:=Bw b
def aD (_f:Operand) (_ps:Array Tmp) (_a _b:Code) (_ _:gC):gC:=mo
def aE (_b:Code) (_:gC):gC:=mo
def Aj (_l:Nat):gC:=mo
def lD (_w:String):gC:=mo
def iE (P:Program) (F:z9) (rec:yV) (c:Code) (T:Tm) (H:Hp):RC:=
 Code.rec (motive:=fun _=>gC) oj cw C1 AZ sn ia aD C0 aE Ak Aj DT lD c P F rec T H
theorem ne (x:Option AVal):(∃t,x=some (.bool t)∧kK x=some t)∨(kK x=none∧ ∀t,x≠some (.bool t)):=by
 cases x with
 |none=>exact .inr ⟨rfl,nofun⟩
 |some v=>cases v<;>first|exact .inl ⟨_,rfl,rfl⟩|exact .inr ⟨rfl,nofun⟩
theorem fw {P:Program} {F:z9} {rec:Vg} {recF:yV} (hd: ∀c T H,(recF.code c T H).opt=rec.code c T H) (hc: ∀f as H,(recF.call f as H).opt=rec.call f as H) (c:Code) (T:Tm) (H:Hp):
 (iE P F recF c T H).opt=vc P F rec c T H:=by
 cases c with
 |skip=>rfl
 |label l=>rfl
 |exit id=>rfl
 |ret=>rfl
 |rangeFunc f ps a b=>rfl
 |scope b=>rfl
 |goto l=>rfl
 |refuse w=>rfl
 |region id ops draw=>
  unfold vc
  have h: ∀(r:RO) (q:Option (Tm×Hp)),r.opt=q→(RO.rec (motive:=fun _=>RC) mF oh r:RC).opt=(match q with
   |some (T,H)=>some (.normal,T,H)
   |none=>none):=by
   intro r q h;subst h;cases r<;>rfl
  cases draw with
  |false=>exact h _ _ (oG hc ops ops.toList T H)
  |true=>exact h _ _ (lY hc ops T H)
 |seq a b=>
  have ha:=hd a T H
  show(RC.rec (motive:=fun _=>yV→Code→RC) mh mS mR ae (recF.code a T H) recF b:RC).opt=_
  unfold vc
  simp only
  rw [←ha]
  cases recF.code a T H with
  |norm T1 H1=>exact hd b T1 H1
  |_=>rfl
 |loop b=>
  have ha:=hd b T H
  show(RC.rec (motive:=fun _=>yV→Code→RC) mh mS mR ae (recF.code b T H) recF (.loop b):RC).opt=_
  unfold vc
  simp only
  rw [←ha]
  cases recF.code b T H with
  |norm T1 H1=>exact hd (.loop b) T1 H1
  |_=>rfl
 |block id b=>
  have ha:=hd b T H
  show(RC.rec (motive:=fun _=>Nat→RC) oX iF mK Bl (recF.code b T H) id:RC).opt=_
  unfold vc
  simp only
  rw [←ha]
  cases recF.code b T H with
  |exit i T1 H1=>
   show(mK i T1 H1 id).opt=_
   unfold mK
   simp only [RC.opt]
   cases Nat.beq i id<;>rfl
  |_=>rfl
 |cond x a b=>
  show(Option.rec (motive:=fun _=>Code→Code→yV→Tm→Hp→RC) oo iG (kK (opnd T x)) a b recF T H:RC).opt=_
  unfold vc
  rcases ne (opnd T x)with⟨t,h1,h2⟩|⟨h1,h2⟩
  ·rw [h2]
   simp only
   rw [h1]
   cases t with
   |true=>exact hd a T H
   |false=>exact hd b T H
  rw [h1]
  simp only
  rfl
def Ce (_P:Program) (_fn:Func):RV:= .fail
def eD (T:Tm) (H:Hp) (P:Program) (fn:Func):RV:=match ql P T H fn.results.toList with
 |some [v]=> .ok v H
 |some vs=> .ok (.tuple vs) H
 |none=> .fail
def CI (_i:Nat) (_T:Tm) (_H:Hp) (_P:Program) (_fn:Func):RV:= .fail
def lL (b:Code) (P:Program) (rec:yV) (fn:Func) (args:List AVal) (H:Hp):RV:=
 RC.rec (motive:=fun _=>Program→Func→RV) Ce eD CI eD (rec.code b (YE args 0 (Tm.mk (fn.ntmps/16+1))) H) P fn
def Dh (_P:Program) (_rec:yV) (_fn:Func) (_args:List AVal) (_H:Hp):RV:= .fail
def DM (fn:Func) (P:Program) (rec:yV) (args:List AVal) (H:Hp):RV:=
 Option.rec (motive:=fun _=>Program→yV→Func→List AVal→Hp→RV) Dh lL fn.body P rec fn args H
def Cb (_P:Program) (_rec:yV) (_args:List AVal) (_H:Hp):RV:= .fail
def lP (P:Program) (rec:yV) (f:FuncId) (args:List AVal) (H:Hp):RV:=
 Option.rec (motive:=fun _=>Program→yV→List AVal→Hp→RV) Cb DM P.funcs[f]? P rec args H
def RV.of:Option (AVal×Hp)→RV
 |none=> .fail
 |some (v,H)=> .ok v H
def lR (P:Program) (hook:yZ) (rec:yV) (f:FuncId) (args:List AVal) (H:Hp):RV:=match hook f with
 |some h=>RV.of (h args H)
 |none=>lP P rec f args H
theorem cG {P:Program} {rec:Vg} {recF:yV} (hd: ∀c T H,(recF.code c T H).opt=rec.code c T H) (f:FuncId) (args:List AVal) (H:Hp):(lP P recF f args H).opt=Q6 P rec f args H:=by
 unfold Q6 lP
 cases P.funcs[f]? with
 |none=>rfl
 |some fn=>
  show(DM fn P recF args H).opt=_
  unfold DM
  simp only
  cases fn.body with
  |none=>rfl
  |some b=>
   show(lL b P recF fn args H).opt=_
   unfold lL
   simp only
   rw [←hd]
   have he: ∀(T1:Tm) (H1:Hp),(eD T1 H1 P fn).opt=(match ql P T1 H1 fn.results.toList with
    |some [v]=>some (v,H1)
    |some vs=>some (.tuple vs,H1)
    |none=>none):=by
    intro T1 H1
    unfold eD
    split<;>rfl
   cases recF.code b (YE args 0 (Tm.mk (fn.ntmps/16+1))) H with
   |fail=>rfl
   |exit=>rfl
   |norm T1 H1=>exact he T1 H1
   |ret T1 H1=>exact he T1 H1
def Bv (_c:Code) (_T:Tm) (_H:Hp):RC:= .fail
def BU (_f:FuncId) (_a:List AVal) (_H:Hp):RV:= .fail
def xY (P:Program) (F:z9) (hook:yZ) (n:Nat):yV:=Nat.rec (motive:=fun _=>yV) ⟨Bv,BU⟩ (fun _ ih=>⟨iE P F ih,lR P hook ih⟩) n
theorem cA {P:Program} {F:z9} {hook:yZ} : ∀n,(∀c T H,((xY P F hook n).code c T H).opt=(ZH P F hook n).code c T H)∧(∀f as H,((xY P F hook n).call f as H).opt=(ZH P F hook n).call f as H):=by
 intro n
 induction n with
 |zero=>exact⟨fun _ _ _=>rfl,fun _ _ _=>rfl⟩
 |succ n ih=>
  refine⟨fun c T H=>fw ih.1 ih.2 c T H,fun f as H=> ?_⟩
  show(lR P hook (xY P F hook n) f as H).opt=(match hook f with
   |some h=>h as H
   |none=>Q6 P (ZH P F hook n) f as H)
  unfold lR
  cases hook f with
  |none=>exact cG ih.1 f as H
  |some h=>
   show(RV.of (h as H)).opt=h as H
   cases h as H with
   |none=>rfl
   |some p=>rfl
def rE:RV→Bool
 | .ok (.bool b) _=>b
 |_=>false
theorem po {P:Program} {F:z9} {hook:yZ} {n:Nat} {f:FuncId} {args:List AVal} {H:Hp} (h:rE ((xY P F hook n).call f args H)=true): ∃H',(ZH P F hook n).call f args H=some (.bool true,H'):=by
 rw [←(cA n).2]
 unfold rE at h
 split at h
 ·rename_i b H' he;subst h;rw [he];exact⟨H',rfl⟩
 cases h
end
end Go.Px
namespace Go.Proofs.YtlhcpplnlgehbaaGreat
open Go.RowKit Go.Px
noncomputable section
def Dc (i:Nat):AVal:= .int .i64 (.lin 1 i 0)
def lit (n:Int):AVal:= .int .i64 (.lit n)
def CB (n:Int) (args:List AVal) (H:Hp):Option (AVal×Hp):=match args with
 | [a,b]=>bif Yw a (Dc 0) && Yw b (lit n)then some (Dc 1,H)else none
 |_=>none
def hook (n:Int):yZ:=fun f=>bif Nat.beq f 15 then some (CB n)else none
end
theorem Bo:Tryz.prog.funcs.toList.all m7=true:=by kernel_rfl
theorem Db:iH Tryz.prog:=by
 refine⟨fun f fn h=> ?_,Tryz.checked.mixed⟩
 have:=Bo
 rw [List.all_eq_true]at this
 exact this fn (List.mem_of_getElem? (by rw [Array.getElem?_toList];exact h))
theorem jR:yH Tryz.prog 3=some 1:=by kernel_rfl
theorem dE:yH Tryz.prog 4=some 1:=by kernel_rfl
theorem De:yH Tryz.prog 9=some 1:=by kernel_rfl
theorem tY:yH Tryz.prog 26=some 4:=by kernel_rfl
theorem tM:yH Tryz.prog 29=some 1:=by kernel_rfl
theorem dQ:yH Tryz.prog 32=some 1:=by kernel_rfl
theorem DW:yH Tryz.prog 37=some 1:=by kernel_rfl
theorem Ja:yH Tryz.prog 39=some 1:=by kernel_rfl
theorem im:yH Tryz.prog 42=some 1:=by kernel_rfl
theorem DH:yH Tryz.prog 44=some 1:=by kernel_rfl
theorem D9:yH Tryz.prog 46=some 1:=by kernel_rfl
theorem oU:yH Tryz.prog 48=some 1:=by kernel_rfl
theorem rc:yH Tryz.prog 52=some 5:=by kernel_rfl
theorem nJ:yH Tryz.prog 54=some 6:=by kernel_rfl
theorem DI:yH Tryz.prog 56=some 1:=by kernel_rfl
theorem nr:yH Tryz.prog 58=some 4:=by kernel_rfl
theorem DO:yH Tryz.prog 64=some 1:=by kernel_rfl
theorem nd:yH Tryz.prog 68=some 8:=by kernel_rfl
theorem iq:yH Tryz.prog 70=some 10:=by kernel_rfl
theorem az:yH Tryz.prog 74=some 5:=by kernel_rfl
theorem D6:yH Tryz.prog 76=some 1:=by kernel_rfl
theorem DC:yH Tryz.prog 83=some 2:=by kernel_rfl
theorem Bg:yH Tryz.prog 86=some 1:=by kernel_rfl
theorem ib:yH Tryz.prog 90=some 10:=by kernel_rfl
theorem D5:yH Tryz.prog 94=some 1:=by kernel_rfl
theorem AB:yH Tryz.prog 95=some 1:=by kernel_rfl
theorem BL:yH Tryz.prog 96=some 4:=by kernel_rfl
theorem DP:yH Tryz.prog 97=some 40:=by kernel_rfl
theorem fo:yH Tryz.prog 101=some 1:=by kernel_rfl
theorem ox:yH Tryz.prog 102=some 1:=by kernel_rfl
theorem CN:yH Tryz.prog 103=some 1:=by kernel_rfl
theorem rF:yH Tryz.prog 105=some 2:=by kernel_rfl
theorem me:yH Tryz.prog 107=some 9:=by kernel_rfl
theorem l4:yH Tryz.prog 108=some 1:=by kernel_rfl
theorem Bs:yH Tryz.prog 109=some 4:=by kernel_rfl
theorem oy:yH Tryz.prog 110=some 1:=by kernel_rfl
theorem CW:yH Tryz.prog 111=some 1:=by kernel_rfl
theorem CG:yH Tryz.prog 112=some 1:=by kernel_rfl
theorem Cf:yH Tryz.prog 113=some 1:=by kernel_rfl
theorem ci:yH Tryz.prog 144=some 4:=by kernel_rfl
theorem Cu:yH Tryz.prog 145=some 1:=by kernel_rfl
theorem Bm:yH Tryz.prog 155=some 1:=by kernel_rfl
theorem CD:yH Tryz.prog 156=some 1:=by kernel_rfl
theorem l6:yH Tryz.prog 157=some 1:=by kernel_rfl
theorem xy:yH Tryz.prog 164=some 4:=by kernel_rfl
theorem rT:yH Tryz.prog 170=some 1:=by kernel_rfl
theorem ma:yH Tryz.prog 178=some 1:=by kernel_rfl
theorem iX:yH Tryz.prog 179=some 1:=by kernel_rfl
theorem Bk:yH Tryz.prog 195=some 1:=by kernel_rfl
theorem BR:yH Tryz.prog 200=some 1:=by kernel_rfl
theorem oY:yH Tryz.prog 203=some 1:=by kernel_rfl
theorem iA:yH Tryz.prog 220=some 1:=by kernel_rfl
theorem ct:yH Tryz.prog 224=some 10:=by kernel_rfl
theorem iK:yH Tryz.prog 243=some 5:=by kernel_rfl
theorem Bq:yH Tryz.prog 244=some 1:=by kernel_rfl
theorem mz:yH Tryz.prog 249=some 6:=by kernel_rfl
theorem tA:yH Tryz.prog 257=some 256:=by kernel_rfl
theorem oc:yH Tryz.prog 259=some 256:=by kernel_rfl
theorem iI:yH Tryz.prog 309=some 6:=by kernel_rfl
instance:AE Tryz.prog 144 4:=⟨⟨_,Tryz.underlying144,by kernel_rfl,jR⟩⟩
instance:AE Tryz.prog 257 256:=⟨⟨_,Tryz.underlying257,by kernel_rfl,jR⟩⟩
instance:AE Tryz.prog 68 8:=⟨⟨_,Tryz.underlying68,by kernel_rfl,dQ⟩⟩
instance:AE Tryz.prog 96 4:=⟨⟨_,Tryz.underlying96,by kernel_rfl,AB⟩⟩
instance:AP Tryz.prog 110 1:=⟨⟨_,_,(.ptr none),Tryz.underlying110,im,(show qC Tryz.prog 42=some 8 by kernel_rfl),by decide,by kernel_rfl,rfl⟩⟩
instance:AP Tryz.prog 179 1:=⟨⟨_,_,(.ptr none),Tryz.underlying179,ma,(show qC Tryz.prog 178=some 8 by kernel_rfl),by decide,by kernel_rfl,rfl⟩⟩
instance:AP Tryz.prog 220 10:=⟨⟨_,_,(.agg ([.int .u64 (.lit 0),.int .u64 (.lit 0),.int .u64 (.lit 0),.int .u64 (.lit 0),.int .u64 (.lit 0),.int .u64 (.lit 0),.int .u64 (.lit 0),.int .u64 (.lit 0),.int .i64 (.lit 0),.int .i64 (.lit 0)])),Tryz.underlying220,ct,(show qC Tryz.prog 224=some 80 by kernel_rfl),by decide,by kernel_rfl,rfl⟩⟩
instance:AP Tryz.prog 29 4:=⟨⟨_,_,(.agg ([.int .i64 (.lit 0),.int .i64 (.lit 0),.int .i64 (.lit 0),.int .i64 (.lit 0)])),Tryz.underlying29,tY,(show qC Tryz.prog 26=some 32 by kernel_rfl),by decide,by kernel_rfl,rfl⟩⟩
instance:AP Tryz.prog 37 1:=⟨⟨_,_,(.slice none 0 (some 0) 0),Tryz.underlying37,tM,(show qC Tryz.prog 29=some 24 by kernel_rfl),by decide,by kernel_rfl,rfl⟩⟩
instance:AP Tryz.prog 39 1:=⟨⟨_,_,(.int .i64 (.lit 0)),Tryz.underlying39,jR,(show qC Tryz.prog 3=some 8 by kernel_rfl),by decide,by kernel_rfl,rfl⟩⟩
instance:AP Tryz.prog 48 6:=⟨⟨_,_,(.agg ([.int .i64 (.lit 0),.int .i64 (.lit 0),.int .i64 (.lit 0),.bool false,.bool false,.bool false])),Tryz.underlying48,nJ,(show qC Tryz.prog 54=some 32 by kernel_rfl),by decide,by kernel_rfl,rfl⟩⟩
instance:AP Tryz.prog 66 5:=⟨⟨_,_,(.agg ([.int .i64 (.lit 0),.int .i64 (.lit 0),.int .i64 (.lit 0),.int .i64 (.lit 0),.int .i64 (.lit 0)])),Tryz.underlying66,rc,(show qC Tryz.prog 52=some 40 by kernel_rfl),by decide,by kernel_rfl,rfl⟩⟩
instance:AP Tryz.prog 86 1:=⟨⟨_,_,(.int .u64 (.lit 0)),Tryz.underlying86,dQ,(show qC Tryz.prog 32=some 8 by kernel_rfl),by decide,by kernel_rfl,rfl⟩⟩
instance:AR Tryz.prog 109 4 1:=⟨⟨_,Tryz.underlying109,l4⟩⟩
instance:AR Tryz.prog 144 4 1:=⟨⟨_,Tryz.underlying144,jR⟩⟩
instance:AR Tryz.prog 164 4 1:=⟨⟨_,Tryz.underlying164,dE⟩⟩
instance:AR Tryz.prog 257 256 1:=⟨⟨_,Tryz.underlying257,jR⟩⟩
instance:AR Tryz.prog 68 8 1:=⟨⟨_,Tryz.underlying68,dQ⟩⟩
instance:AR Tryz.prog 83 2 1:=⟨⟨_,Tryz.underlying83,jR⟩⟩
instance:AR Tryz.prog 96 4 1:=⟨⟨_,Tryz.underlying96,AB⟩⟩
instance:AR Tryz.prog 97 4 10:=⟨⟨_,Tryz.underlying97,ib⟩⟩
instance:BS Tryz.prog 110 1 (.ptr none):=⟨⟨_,Tryz.underlying110,im,by kernel_rfl,rfl,rfl⟩⟩
instance:BS Tryz.prog 179 1 (.ptr none):=⟨⟨_,Tryz.underlying179,ma,by kernel_rfl,rfl,rfl⟩⟩
instance:BS Tryz.prog 220 10 (.agg ([.int .u64 (.lit 0),.int .u64 (.lit 0),.int .u64 (.lit 0),.int .u64 (.lit 0),.int .u64 (.lit 0),.int .u64 (.lit 0),.int .u64 (.lit 0),.int .u64 (.lit 0),.int .i64 (.lit 0),.int .i64 (.lit 0)])):=⟨⟨_,Tryz.underlying220,ct,by kernel_rfl,rfl,rfl⟩⟩
instance:BS Tryz.prog 237 1 (.slice none 0 (some 0) 0):=⟨⟨_,Tryz.underlying237,oU,by kernel_rfl,rfl,rfl⟩⟩
instance:BS Tryz.prog 250 6 (.agg ([.str [],.bool false,.bool false,.bool false,.int .i64 (.lit 0),.int .i64 (.lit 0)])):=⟨⟨_,Tryz.underlying250,mz,by kernel_rfl,rfl,rfl⟩⟩
instance:BS Tryz.prog 29 4 (.agg ([.int .i64 (.lit 0),.int .i64 (.lit 0),.int .i64 (.lit 0),.int .i64 (.lit 0)])):=⟨⟨_,Tryz.underlying29,tY,by kernel_rfl,rfl,rfl⟩⟩
instance:BS Tryz.prog 294 1 (.str []):=⟨⟨_,Tryz.underlying294,De,by kernel_rfl,rfl,rfl⟩⟩
instance:BS Tryz.prog 37 1 (.slice none 0 (some 0) 0):=⟨⟨_,Tryz.underlying37,tM,by kernel_rfl,rfl,rfl⟩⟩
instance:BS Tryz.prog 39 1 (.int .i64 (.lit 0)):=⟨⟨_,Tryz.underlying39,jR,by kernel_rfl,rfl,rfl⟩⟩
instance:BS Tryz.prog 48 6 (.agg ([.int .i64 (.lit 0),.int .i64 (.lit 0),.int .i64 (.lit 0),.bool false,.bool false,.bool false])):=⟨⟨_,Tryz.underlying48,nJ,by kernel_rfl,rfl,rfl⟩⟩
instance:BS Tryz.prog 66 5 (.agg ([.int .i64 (.lit 0),.int .i64 (.lit 0),.int .i64 (.lit 0),.int .i64 (.lit 0),.int .i64 (.lit 0)])):=⟨⟨_,Tryz.underlying66,rc,by kernel_rfl,rfl,rfl⟩⟩
instance:BS Tryz.prog 75 5 (.agg ([.int .i64 (.lit 0),.int .i64 (.lit 0),.bool false,.bool false,.slice none 0 (some 0) 0])):=⟨⟨_,Tryz.underlying75,az,by kernel_rfl,rfl,rfl⟩⟩
instance:BS Tryz.prog 86 1 (.int .u64 (.lit 0)):=⟨⟨_,Tryz.underlying86,dQ,by kernel_rfl,rfl,rfl⟩⟩
instance:FA Tryz.prog 105 0 0:=⟨⟨_,_,_,Tryz.underlying105,rfl,jR,rfl⟩⟩
instance:FA Tryz.prog 105 1 1:=⟨⟨_,_,_,Tryz.underlying105,rfl,jR,rfl⟩⟩
instance:FA Tryz.prog 107 0 0:=⟨⟨_,_,_,Tryz.underlying107,rfl,nr,rfl⟩⟩
instance:FA Tryz.prog 107 1 4:=⟨⟨_,_,_,Tryz.underlying107,rfl,fo,rfl⟩⟩
instance:FA Tryz.prog 107 2 5:=⟨⟨_,_,_,Tryz.underlying107,rfl,ox,rfl⟩⟩
instance:FA Tryz.prog 107 3 6:=⟨⟨_,_,_,Tryz.underlying107,rfl,CN,rfl⟩⟩
instance:FA Tryz.prog 107 4 7:=⟨⟨_,_,_,Tryz.underlying107,rfl,rF,rfl⟩⟩
instance:FA Tryz.prog 115 0 0:=⟨⟨_,_,_,Tryz.underlying115,rfl,me,rfl⟩⟩
instance:FA Tryz.prog 115 1 9:=⟨⟨_,_,_,Tryz.underlying115,rfl,Bs,rfl⟩⟩
instance:FA Tryz.prog 115 2 13:=⟨⟨_,_,_,Tryz.underlying115,rfl,oy,rfl⟩⟩
instance:FA Tryz.prog 115 3 14:=⟨⟨_,_,_,Tryz.underlying115,rfl,CW,rfl⟩⟩
instance:FA Tryz.prog 115 4 15:=⟨⟨_,_,_,Tryz.underlying115,rfl,DO,rfl⟩⟩
instance:FA Tryz.prog 115 5 16:=⟨⟨_,_,_,Tryz.underlying115,rfl,CG,rfl⟩⟩
instance:FA Tryz.prog 115 6 17:=⟨⟨_,_,_,Tryz.underlying115,rfl,Cf,rfl⟩⟩
instance:FA Tryz.prog 117 0 0:=⟨⟨_,_,_,Tryz.underlying117,rfl,nr,rfl⟩⟩
instance:FA Tryz.prog 117 1 4:=⟨⟨_,_,_,Tryz.underlying117,rfl,jR,rfl⟩⟩
instance:FA Tryz.prog 117 2 5:=⟨⟨_,_,_,Tryz.underlying117,rfl,DH,rfl⟩⟩
instance:FA Tryz.prog 119 0 0:=⟨⟨_,_,_,Tryz.underlying119,rfl,jR,rfl⟩⟩
instance:FA Tryz.prog 119 1 1:=⟨⟨_,_,_,Tryz.underlying119,rfl,jR,rfl⟩⟩
instance:FA Tryz.prog 119 2 2:=⟨⟨_,_,_,Tryz.underlying119,rfl,jR,rfl⟩⟩
instance:FA Tryz.prog 119 3 3:=⟨⟨_,_,_,Tryz.underlying119,rfl,D9,rfl⟩⟩
instance:FA Tryz.prog 122 0 0:=⟨⟨_,_,_,Tryz.underlying122,rfl,oU,rfl⟩⟩
instance:FA Tryz.prog 141 0 0:=⟨⟨_,_,_,Tryz.underlying141,rfl,iq,rfl⟩⟩
instance:FA Tryz.prog 141 1 10:=⟨⟨_,_,_,Tryz.underlying141,rfl,D6,rfl⟩⟩
instance:FA Tryz.prog 147 0 0:=⟨⟨_,_,_,Tryz.underlying147,rfl,ci,rfl⟩⟩
instance:FA Tryz.prog 147 1 4:=⟨⟨_,_,_,Tryz.underlying147,rfl,Cu,rfl⟩⟩
instance:FA Tryz.prog 147 2 5:=⟨⟨_,_,_,Tryz.underlying147,rfl,jR,rfl⟩⟩
instance:FA Tryz.prog 159 0 0:=⟨⟨_,_,_,Tryz.underlying159,rfl,Bm,rfl⟩⟩
instance:FA Tryz.prog 159 1 1:=⟨⟨_,_,_,Tryz.underlying159,rfl,CD,rfl⟩⟩
instance:FA Tryz.prog 159 2 2:=⟨⟨_,_,_,Tryz.underlying159,rfl,l6,rfl⟩⟩
instance:FA Tryz.prog 159 3 3:=⟨⟨_,_,_,Tryz.underlying159,rfl,l6,rfl⟩⟩
instance:FA Tryz.prog 159 4 4:=⟨⟨_,_,_,Tryz.underlying159,rfl,l6,rfl⟩⟩
instance:FA Tryz.prog 162 0 0:=⟨⟨_,_,_,Tryz.underlying162,rfl,nd,rfl⟩⟩
instance:FA Tryz.prog 162 1 8:=⟨⟨_,_,_,Tryz.underlying162,rfl,jR,rfl⟩⟩
instance:FA Tryz.prog 162 2 9:=⟨⟨_,_,_,Tryz.underlying162,rfl,dE,rfl⟩⟩
instance:FA Tryz.prog 166 0 0:=⟨⟨_,_,_,Tryz.underlying166,rfl,xy,rfl⟩⟩
instance:FA Tryz.prog 166 1 4:=⟨⟨_,_,_,Tryz.underlying166,rfl,Ja,rfl⟩⟩
instance:FA Tryz.prog 166 2 5:=⟨⟨_,_,_,Tryz.underlying166,rfl,Ja,rfl⟩⟩
instance:FA Tryz.prog 169 0 0:=⟨⟨_,_,_,Tryz.underlying169,rfl,xy,rfl⟩⟩
instance:FA Tryz.prog 169 1 4:=⟨⟨_,_,_,Tryz.underlying169,rfl,Ja,rfl⟩⟩
instance:FA Tryz.prog 169 2 5:=⟨⟨_,_,_,Tryz.underlying169,rfl,Ja,rfl⟩⟩
instance:FA Tryz.prog 172 0 0:=⟨⟨_,_,_,Tryz.underlying172,rfl,fo,rfl⟩⟩
instance:FA Tryz.prog 172 1 1:=⟨⟨_,_,_,Tryz.underlying172,rfl,rT,rfl⟩⟩
instance:FA Tryz.prog 181 0 0:=⟨⟨_,_,_,Tryz.underlying181,rfl,iX,rfl⟩⟩
instance:FA Tryz.prog 181 1 1:=⟨⟨_,_,_,Tryz.underlying181,rfl,ma,rfl⟩⟩
instance:FA Tryz.prog 197 0 0:=⟨⟨_,_,_,Tryz.underlying197,rfl,Bk,rfl⟩⟩
instance:FA Tryz.prog 206 0 0:=⟨⟨_,_,_,Tryz.underlying206,rfl,me,rfl⟩⟩
instance:FA Tryz.prog 206 1 9:=⟨⟨_,_,_,Tryz.underlying206,rfl,jR,rfl⟩⟩
instance:FA Tryz.prog 206 2 10:=⟨⟨_,_,_,Tryz.underlying206,rfl,oY,rfl⟩⟩
instance:FA Tryz.prog 206 3 11:=⟨⟨_,_,_,Tryz.underlying206,rfl,BR,rfl⟩⟩
instance:FA Tryz.prog 206 4 12:=⟨⟨_,_,_,Tryz.underlying206,rfl,rT,rfl⟩⟩
instance:FA Tryz.prog 206 5 13:=⟨⟨_,_,_,Tryz.underlying206,rfl,rT,rfl⟩⟩
instance:FA Tryz.prog 222 0 0:=⟨⟨_,_,_,Tryz.underlying222,rfl,iA,rfl⟩⟩
instance:FA Tryz.prog 224 0 0:=⟨⟨_,_,_,Tryz.underlying224,rfl,nd,rfl⟩⟩
instance:FA Tryz.prog 224 1 8:=⟨⟨_,_,_,Tryz.underlying224,rfl,jR,rfl⟩⟩
instance:FA Tryz.prog 224 2 9:=⟨⟨_,_,_,Tryz.underlying224,rfl,jR,rfl⟩⟩
instance:FA Tryz.prog 243 0 0:=⟨⟨_,_,_,Tryz.underlying243,rfl,dE,rfl⟩⟩
instance:FA Tryz.prog 243 1 1:=⟨⟨_,_,_,Tryz.underlying243,rfl,dE,rfl⟩⟩
instance:FA Tryz.prog 243 2 2:=⟨⟨_,_,_,Tryz.underlying243,rfl,dE,rfl⟩⟩
instance:FA Tryz.prog 243 3 3:=⟨⟨_,_,_,Tryz.underlying243,rfl,dE,rfl⟩⟩
instance:FA Tryz.prog 243 4 4:=⟨⟨_,_,_,Tryz.underlying243,rfl,jR,rfl⟩⟩
instance:FA Tryz.prog 246 0 0:=⟨⟨_,_,_,Tryz.underlying246,rfl,Bq,rfl⟩⟩
instance:FA Tryz.prog 249 1 1:=⟨⟨_,_,_,Tryz.underlying249,rfl,dE,rfl⟩⟩
instance:FA Tryz.prog 249 2 2:=⟨⟨_,_,_,Tryz.underlying249,rfl,dE,rfl⟩⟩
instance:FA Tryz.prog 249 4 4:=⟨⟨_,_,_,Tryz.underlying249,rfl,jR,rfl⟩⟩
instance:FA Tryz.prog 249 5 5:=⟨⟨_,_,_,Tryz.underlying249,rfl,jR,rfl⟩⟩
instance:FA Tryz.prog 254 0 0:=⟨⟨_,_,_,Tryz.underlying254,rfl,DI,rfl⟩⟩
instance:FA Tryz.prog 254 1 1:=⟨⟨_,_,_,Tryz.underlying254,rfl,jR,rfl⟩⟩
instance:FA Tryz.prog 256 0 0:=⟨⟨_,_,_,Tryz.underlying256,rfl,fo,rfl⟩⟩
instance:FA Tryz.prog 256 1 1:=⟨⟨_,_,_,Tryz.underlying256,rfl,ox,rfl⟩⟩
instance:FA Tryz.prog 256 2 2:=⟨⟨_,_,_,Tryz.underlying256,rfl,jR,rfl⟩⟩
instance:FA Tryz.prog 256 3 3:=⟨⟨_,_,_,Tryz.underlying256,rfl,jR,rfl⟩⟩
instance:FA Tryz.prog 256 4 4:=⟨⟨_,_,_,Tryz.underlying256,rfl,jR,rfl⟩⟩
instance:FA Tryz.prog 256 5 5:=⟨⟨_,_,_,Tryz.underlying256,rfl,Ja,rfl⟩⟩
instance:FA Tryz.prog 259 0 0:=⟨⟨_,_,_,Tryz.underlying259,rfl,tA,rfl⟩⟩
instance:FA Tryz.prog 26 0 0:=⟨⟨_,_,_,Tryz.underlying26,rfl,jR,rfl⟩⟩
instance:FA Tryz.prog 26 1 1:=⟨⟨_,_,_,Tryz.underlying26,rfl,jR,rfl⟩⟩
instance:FA Tryz.prog 26 2 2:=⟨⟨_,_,_,Tryz.underlying26,rfl,jR,rfl⟩⟩
instance:FA Tryz.prog 26 3 3:=⟨⟨_,_,_,Tryz.underlying26,rfl,jR,rfl⟩⟩
instance:FA Tryz.prog 265 0 0:=⟨⟨_,_,_,Tryz.underlying265,rfl,tA,rfl⟩⟩
instance:FA Tryz.prog 309 0 0:=⟨⟨_,_,_,Tryz.underlying309,rfl,Ja,rfl⟩⟩
instance:FA Tryz.prog 309 1 1:=⟨⟨_,_,_,Tryz.underlying309,rfl,dQ,rfl⟩⟩
instance:FA Tryz.prog 309 2 2:=⟨⟨_,_,_,Tryz.underlying309,rfl,dE,rfl⟩⟩
instance:FA Tryz.prog 309 3 3:=⟨⟨_,_,_,Tryz.underlying309,rfl,dE,rfl⟩⟩
instance:FA Tryz.prog 309 4 4:=⟨⟨_,_,_,Tryz.underlying309,rfl,dE,rfl⟩⟩
instance:FA Tryz.prog 309 5 5:=⟨⟨_,_,_,Tryz.underlying309,rfl,jR,rfl⟩⟩
instance:FA Tryz.prog 52 0 0:=⟨⟨_,_,_,Tryz.underlying52,rfl,jR,rfl⟩⟩
instance:FA Tryz.prog 52 1 1:=⟨⟨_,_,_,Tryz.underlying52,rfl,jR,rfl⟩⟩
instance:FA Tryz.prog 52 2 2:=⟨⟨_,_,_,Tryz.underlying52,rfl,jR,rfl⟩⟩
instance:FA Tryz.prog 52 3 3:=⟨⟨_,_,_,Tryz.underlying52,rfl,jR,rfl⟩⟩
instance:FA Tryz.prog 52 4 4:=⟨⟨_,_,_,Tryz.underlying52,rfl,jR,rfl⟩⟩
instance:FA Tryz.prog 54 0 0:=⟨⟨_,_,_,Tryz.underlying54,rfl,jR,rfl⟩⟩
instance:FA Tryz.prog 54 1 1:=⟨⟨_,_,_,Tryz.underlying54,rfl,jR,rfl⟩⟩
instance:FA Tryz.prog 54 2 2:=⟨⟨_,_,_,Tryz.underlying54,rfl,jR,rfl⟩⟩
instance:FA Tryz.prog 54 3 3:=⟨⟨_,_,_,Tryz.underlying54,rfl,dE,rfl⟩⟩
instance:FA Tryz.prog 54 4 4:=⟨⟨_,_,_,Tryz.underlying54,rfl,dE,rfl⟩⟩
instance:FA Tryz.prog 54 5 5:=⟨⟨_,_,_,Tryz.underlying54,rfl,dE,rfl⟩⟩
instance:FA Tryz.prog 58 0 0:=⟨⟨_,_,_,Tryz.underlying58,rfl,jR,rfl⟩⟩
instance:FA Tryz.prog 58 1 1:=⟨⟨_,_,_,Tryz.underlying58,rfl,jR,rfl⟩⟩
instance:FA Tryz.prog 58 2 2:=⟨⟨_,_,_,Tryz.underlying58,rfl,dE,rfl⟩⟩
instance:FA Tryz.prog 58 3 3:=⟨⟨_,_,_,Tryz.underlying58,rfl,dE,rfl⟩⟩
instance:FA Tryz.prog 70 0 0:=⟨⟨_,_,_,Tryz.underlying70,rfl,nd,rfl⟩⟩
instance:FA Tryz.prog 70 1 8:=⟨⟨_,_,_,Tryz.underlying70,rfl,tM,rfl⟩⟩
instance:FA Tryz.prog 70 2 9:=⟨⟨_,_,_,Tryz.underlying70,rfl,jR,rfl⟩⟩
instance:FA Tryz.prog 74 0 0:=⟨⟨_,_,_,Tryz.underlying74,rfl,nr,rfl⟩⟩
instance:FA Tryz.prog 74 1 4:=⟨⟨_,_,_,Tryz.underlying74,rfl,DW,rfl⟩⟩
instance:FA Tryz.prog 90 0 0:=⟨⟨_,_,_,Tryz.underlying90,rfl,nd,rfl⟩⟩
instance:FA Tryz.prog 90 1 8:=⟨⟨_,_,_,Tryz.underlying90,rfl,tM,rfl⟩⟩
instance:FA Tryz.prog 90 2 9:=⟨⟨_,_,_,Tryz.underlying90,rfl,jR,rfl⟩⟩
instance:FA Tryz.prog 99 0 0:=⟨⟨_,_,_,Tryz.underlying99,rfl,nr,rfl⟩⟩
instance:FA Tryz.prog 99 1 4:=⟨⟨_,_,_,Tryz.underlying99,rfl,D5,rfl⟩⟩
instance:FA Tryz.prog 99 2 5:=⟨⟨_,_,_,Tryz.underlying99,rfl,BL,rfl⟩⟩
instance:FA Tryz.prog 99 3 9:=⟨⟨_,_,_,Tryz.underlying99,rfl,DP,rfl⟩⟩
instance:FA Tryz.prog 99 4 49:=⟨⟨_,_,_,Tryz.underlying99,rfl,Bg,rfl⟩⟩
instance:FA Tryz.prog 99 5 50:=⟨⟨_,_,_,Tryz.underlying99,rfl,jR,rfl⟩⟩
instance:IC Tryz.prog 3 32 .u64:=⟨⟨_,Tryz.underlying3,Tryz.underlying32⟩⟩
instance:IC Tryz.prog 32 3 .i64:=⟨⟨_,Tryz.underlying32,Tryz.underlying3⟩⟩
instance:L1 Tryz.prog 101:=⟨by kernel_rfl⟩
instance:L1 Tryz.prog 102:=⟨by kernel_rfl⟩
instance:L1 Tryz.prog 103:=⟨by kernel_rfl⟩
instance:L1 Tryz.prog 108:=⟨by kernel_rfl⟩
instance:L1 Tryz.prog 110:=⟨by kernel_rfl⟩
instance:L1 Tryz.prog 111:=⟨by kernel_rfl⟩
instance:L1 Tryz.prog 112:=⟨by kernel_rfl⟩
instance:L1 Tryz.prog 113:=⟨by kernel_rfl⟩
instance:L1 Tryz.prog 145:=⟨by kernel_rfl⟩
instance:L1 Tryz.prog 155:=⟨by kernel_rfl⟩
instance:L1 Tryz.prog 156:=⟨by kernel_rfl⟩
instance:L1 Tryz.prog 157:=⟨by kernel_rfl⟩
instance:L1 Tryz.prog 170:=⟨by kernel_rfl⟩
instance:L1 Tryz.prog 178:=⟨by kernel_rfl⟩
instance:L1 Tryz.prog 179:=⟨by kernel_rfl⟩
instance:L1 Tryz.prog 195:=⟨by kernel_rfl⟩
instance:L1 Tryz.prog 200:=⟨by kernel_rfl⟩
instance:L1 Tryz.prog 203:=⟨by kernel_rfl⟩
instance:L1 Tryz.prog 220:=⟨by kernel_rfl⟩
instance:L1 Tryz.prog 244:=⟨by kernel_rfl⟩
instance:L1 Tryz.prog 29:=⟨by kernel_rfl⟩
instance:L1 Tryz.prog 293:=⟨by kernel_rfl⟩
instance:L1 Tryz.prog 3:=⟨by kernel_rfl⟩
instance:L1 Tryz.prog 32:=⟨by kernel_rfl⟩
instance:L1 Tryz.prog 37:=⟨by kernel_rfl⟩
instance:L1 Tryz.prog 39:=⟨by kernel_rfl⟩
instance:L1 Tryz.prog 4:=⟨by kernel_rfl⟩
instance:L1 Tryz.prog 42:=⟨by kernel_rfl⟩
instance:L1 Tryz.prog 44:=⟨by kernel_rfl⟩
instance:L1 Tryz.prog 46:=⟨by kernel_rfl⟩
instance:L1 Tryz.prog 48:=⟨by kernel_rfl⟩
instance:L1 Tryz.prog 56:=⟨by kernel_rfl⟩
instance:L1 Tryz.prog 64:=⟨by kernel_rfl⟩
instance:L1 Tryz.prog 76:=⟨by kernel_rfl⟩
instance:L1 Tryz.prog 86:=⟨by kernel_rfl⟩
instance:L1 Tryz.prog 9:=⟨by kernel_rfl⟩
instance:L1 Tryz.prog 94:=⟨by kernel_rfl⟩
instance:L1 Tryz.prog 95:=⟨by kernel_rfl⟩
instance:LN Tryz.prog 105 2:=⟨by kernel_rfl,rF⟩
instance:LN Tryz.prog 107 9:=⟨by kernel_rfl,me⟩
instance:LN Tryz.prog 144 4:=⟨by kernel_rfl,ci⟩
instance:LN Tryz.prog 243 5:=⟨by kernel_rfl,iK⟩
instance:LN Tryz.prog 249 6:=⟨by kernel_rfl,mz⟩
instance:LN Tryz.prog 257 256:=⟨by kernel_rfl,tA⟩
instance:LN Tryz.prog 259 256:=⟨by kernel_rfl,oc⟩
instance:LN Tryz.prog 26 4:=⟨by kernel_rfl,tY⟩
instance:LN Tryz.prog 309 6:=⟨by kernel_rfl,iI⟩
instance:LN Tryz.prog 52 5:=⟨by kernel_rfl,rc⟩
instance:LN Tryz.prog 54 6:=⟨by kernel_rfl,nJ⟩
instance:LN Tryz.prog 58 4:=⟨by kernel_rfl,nr⟩
instance:LN Tryz.prog 68 8:=⟨by kernel_rfl,nd⟩
instance:LN Tryz.prog 70 10:=⟨by kernel_rfl,iq⟩
instance:LN Tryz.prog 74 5:=⟨by kernel_rfl,az⟩
instance:LN Tryz.prog 90 10:=⟨by kernel_rfl,ib⟩
instance:LN Tryz.prog 96 4:=⟨by kernel_rfl,BL⟩
instance:MI Tryz.prog 170 (.int .i64 (.lit 0)):=⟨⟨_,_,Tryz.underlying170,Tryz.underlying3,by kernel_rfl⟩⟩
instance:MI Tryz.prog 244 (.agg (List.replicate 8 (.int .u64 (.lit 0)))):=⟨⟨_,_,Tryz.underlying244,Tryz.underlying3,by kernel_rfl⟩⟩
instance:MS Tryz.prog 145 4 (.agg ([.bool false,.bool false,.bool false,.bool false])):=⟨⟨_,_,Tryz.underlying145,xy,by kernel_rfl,(show qC Tryz.prog 164=some 4 by kernel_rfl),by decide,rfl,rfl⟩⟩
instance:MS Tryz.prog 29 4 (.agg ([.int .i64 (.lit 0),.int .i64 (.lit 0),.int .i64 (.lit 0),.int .i64 (.lit 0)])):=⟨⟨_,_,Tryz.underlying29,tY,by kernel_rfl,(show qC Tryz.prog 26=some 32 by kernel_rfl),by decide,rfl,rfl⟩⟩
instance:MS Tryz.prog 39 1 (.int .i64 (.lit 0)):=⟨⟨_,_,Tryz.underlying39,jR,by kernel_rfl,(show qC Tryz.prog 3=some 8 by kernel_rfl),by decide,rfl,rfl⟩⟩
instance:MS Tryz.prog 48 6 (.agg ([.int .i64 (.lit 0),.int .i64 (.lit 0),.int .i64 (.lit 0),.bool false,.bool false,.bool false])):=⟨⟨_,_,Tryz.underlying48,nJ,by kernel_rfl,(show qC Tryz.prog 54=some 32 by kernel_rfl),by decide,rfl,rfl⟩⟩
instance:MS Tryz.prog 56 1 (.slice none 0 (some 0) 0):=⟨⟨_,_,Tryz.underlying56,Ja,by kernel_rfl,(show qC Tryz.prog 39=some 24 by kernel_rfl),by decide,rfl,rfl⟩⟩
instance:MT Tryz.prog 154:=⟨⟨_,_,Tryz.underlying154⟩⟩
instance:MT Tryz.prog 156:=⟨⟨_,_,Tryz.underlying156⟩⟩
instance:MT Tryz.prog 157:=⟨⟨_,_,Tryz.underlying157⟩⟩
instance:MT Tryz.prog 170:=⟨⟨_,_,Tryz.underlying170⟩⟩
instance:MT Tryz.prog 244:=⟨⟨_,_,Tryz.underlying244⟩⟩
instance:MT Tryz.prog 323:=⟨⟨_,_,Tryz.underlying323⟩⟩
instance:MT Tryz.prog 34:=⟨⟨_,_,Tryz.underlying34⟩⟩
instance:S1 Tryz.prog 108:=⟨l4⟩
instance:S1 Tryz.prog 110:=⟨oy⟩
instance:S1 Tryz.prog 179:=⟨iX⟩
instance:S1 Tryz.prog 203:=⟨oY⟩
instance:S1 Tryz.prog 220:=⟨iA⟩
instance:S1 Tryz.prog 29:=⟨tM⟩
instance:S1 Tryz.prog 3:=⟨jR⟩
instance:S1 Tryz.prog 32:=⟨dQ⟩
instance:S1 Tryz.prog 39:=⟨Ja⟩
instance:S1 Tryz.prog 4:=⟨dE⟩
instance:S1 Tryz.prog 48:=⟨oU⟩
instance:S1 Tryz.prog 86:=⟨Bg⟩
instance:S1 Tryz.prog 95:=⟨AB⟩
instance:SB Tryz.prog 105 [(0,1),(1,1)]:=⟨⟨_,Tryz.underlying105,by kernel_rfl⟩⟩
instance:SB Tryz.prog 107 [(0,4),(4,1),(5,1),(6,1),(7,2)]:=⟨⟨_,Tryz.underlying107,by kernel_rfl⟩⟩
instance:SB Tryz.prog 115 [(0,9),(9,4),(13,1),(14,1),(15,1),(16,1),(17,1)]:=⟨⟨_,Tryz.underlying115,by kernel_rfl⟩⟩
instance:SB Tryz.prog 117 [(0,4),(4,1),(5,1)]:=⟨⟨_,Tryz.underlying117,by kernel_rfl⟩⟩
instance:SB Tryz.prog 119 [(0,1),(1,1),(2,1),(3,1)]:=⟨⟨_,Tryz.underlying119,by kernel_rfl⟩⟩
instance:SB Tryz.prog 122 [(0,1)]:=⟨⟨_,Tryz.underlying122,by kernel_rfl⟩⟩
instance:SB Tryz.prog 141 [(0,10),(10,1)]:=⟨⟨_,Tryz.underlying141,by kernel_rfl⟩⟩
instance:SB Tryz.prog 147 [(0,4),(4,1),(5,1)]:=⟨⟨_,Tryz.underlying147,by kernel_rfl⟩⟩
instance:SB Tryz.prog 159 [(0,1),(1,1),(2,1),(3,1),(4,1)]:=⟨⟨_,Tryz.underlying159,by kernel_rfl⟩⟩
instance:SB Tryz.prog 162 [(0,8),(8,1),(9,1)]:=⟨⟨_,Tryz.underlying162,by kernel_rfl⟩⟩
instance:SB Tryz.prog 166 [(0,4),(4,1),(5,1)]:=⟨⟨_,Tryz.underlying166,by kernel_rfl⟩⟩
instance:SB Tryz.prog 169 [(0,4),(4,1),(5,1)]:=⟨⟨_,Tryz.underlying169,by kernel_rfl⟩⟩
instance:SB Tryz.prog 172 [(0,1),(1,1)]:=⟨⟨_,Tryz.underlying172,by kernel_rfl⟩⟩
instance:SB Tryz.prog 181 [(0,1),(1,1)]:=⟨⟨_,Tryz.underlying181,by kernel_rfl⟩⟩
instance:SB Tryz.prog 197 [(0,1)]:=⟨⟨_,Tryz.underlying197,by kernel_rfl⟩⟩
instance:SB Tryz.prog 206 [(0,9),(9,1),(10,1),(11,1),(12,1),(13,1)]:=⟨⟨_,Tryz.underlying206,by kernel_rfl⟩⟩
instance:SB Tryz.prog 222 [(0,1)]:=⟨⟨_,Tryz.underlying222,by kernel_rfl⟩⟩
instance:SB Tryz.prog 224 [(0,8),(8,1),(9,1)]:=⟨⟨_,Tryz.underlying224,by kernel_rfl⟩⟩
instance:SB Tryz.prog 243 [(0,1),(1,1),(2,1),(3,1),(4,1)]:=⟨⟨_,Tryz.underlying243,by kernel_rfl⟩⟩
instance:SB Tryz.prog 246 [(0,1)]:=⟨⟨_,Tryz.underlying246,by kernel_rfl⟩⟩
instance:SB Tryz.prog 249 [(0,1),(1,1),(2,1),(3,1),(4,1),(5,1)]:=⟨⟨_,Tryz.underlying249,by kernel_rfl⟩⟩
instance:SB Tryz.prog 254 [(0,1),(1,1)]:=⟨⟨_,Tryz.underlying254,by kernel_rfl⟩⟩
instance:SB Tryz.prog 256 [(0,1),(1,1),(2,1),(3,1),(4,1),(5,1)]:=⟨⟨_,Tryz.underlying256,by kernel_rfl⟩⟩
instance:SB Tryz.prog 259 [(0,256)]:=⟨⟨_,Tryz.underlying259,by kernel_rfl⟩⟩
instance:SB Tryz.prog 26 [(0,1),(1,1),(2,1),(3,1)]:=⟨⟨_,Tryz.underlying26,by kernel_rfl⟩⟩
instance:SB Tryz.prog 265 [(0,256)]:=⟨⟨_,Tryz.underlying265,by kernel_rfl⟩⟩
instance:SB Tryz.prog 309 [(0,1),(1,1),(2,1),(3,1),(4,1),(5,1)]:=⟨⟨_,Tryz.underlying309,by kernel_rfl⟩⟩
instance:SB Tryz.prog 325 [(0,1),(1,1)]:=⟨⟨_,Tryz.underlying325,by kernel_rfl⟩⟩
instance:SB Tryz.prog 52 [(0,1),(1,1),(2,1),(3,1),(4,1)]:=⟨⟨_,Tryz.underlying52,by kernel_rfl⟩⟩
instance:SB Tryz.prog 54 [(0,1),(1,1),(2,1),(3,1),(4,1),(5,1)]:=⟨⟨_,Tryz.underlying54,by kernel_rfl⟩⟩
instance:SB Tryz.prog 58 [(0,1),(1,1),(2,1),(3,1)]:=⟨⟨_,Tryz.underlying58,by kernel_rfl⟩⟩
instance:SB Tryz.prog 70 [(0,8),(8,1),(9,1)]:=⟨⟨_,Tryz.underlying70,by kernel_rfl⟩⟩
instance:SB Tryz.prog 74 [(0,4),(4,1)]:=⟨⟨_,Tryz.underlying74,by kernel_rfl⟩⟩
instance:SB Tryz.prog 90 [(0,8),(8,1),(9,1)]:=⟨⟨_,Tryz.underlying90,by kernel_rfl⟩⟩
instance:SB Tryz.prog 99 [(0,4),(4,1),(5,4),(9,40),(49,1),(50,1)]:=⟨⟨_,Tryz.underlying99,by kernel_rfl⟩⟩
instance:SL Tryz.prog 110 1:=⟨⟨_,Tryz.underlying110,im⟩⟩
instance:SL Tryz.prog 145 4:=⟨⟨_,Tryz.underlying145,xy⟩⟩
instance:SL Tryz.prog 179 1:=⟨⟨_,Tryz.underlying179,ma⟩⟩
instance:SL Tryz.prog 220 10:=⟨⟨_,Tryz.underlying220,ct⟩⟩
instance:SL Tryz.prog 237 1:=⟨⟨_,Tryz.underlying237,oU⟩⟩
instance:SL Tryz.prog 250 6:=⟨⟨_,Tryz.underlying250,mz⟩⟩
instance:SL Tryz.prog 29 4:=⟨⟨_,Tryz.underlying29,tY⟩⟩
instance:SL Tryz.prog 294 1:=⟨⟨_,Tryz.underlying294,De⟩⟩
instance:SL Tryz.prog 304 1:=⟨⟨_,Tryz.underlying304,l4⟩⟩
instance:SL Tryz.prog 37 1:=⟨⟨_,Tryz.underlying37,tM⟩⟩
instance:SL Tryz.prog 39 1:=⟨⟨_,Tryz.underlying39,jR⟩⟩
instance:SL Tryz.prog 48 6:=⟨⟨_,Tryz.underlying48,nJ⟩⟩
instance:SL Tryz.prog 56 1:=⟨⟨_,Tryz.underlying56,Ja⟩⟩
instance:SL Tryz.prog 66 5:=⟨⟨_,Tryz.underlying66,rc⟩⟩
instance:SL Tryz.prog 75 5:=⟨⟨_,Tryz.underlying75,az⟩⟩
instance:SL Tryz.prog 86 1:=⟨⟨_,Tryz.underlying86,dQ⟩⟩
instance:SN Tryz.prog 105 2:=⟨rF,by decide⟩
instance:SN Tryz.prog 107 9:=⟨me,by decide⟩
instance:SN Tryz.prog 144 4:=⟨ci,by decide⟩
instance:SN Tryz.prog 164 4:=⟨xy,by decide⟩
instance:SN Tryz.prog 243 5:=⟨iK,by decide⟩
instance:SN Tryz.prog 249 6:=⟨mz,by decide⟩
instance:SN Tryz.prog 257 256:=⟨tA,by decide⟩
instance:SN Tryz.prog 259 256:=⟨oc,by decide⟩
instance:SN Tryz.prog 26 4:=⟨tY,by decide⟩
instance:SN Tryz.prog 309 6:=⟨iI,by decide⟩
instance:SN Tryz.prog 52 5:=⟨rc,by decide⟩
instance:SN Tryz.prog 54 6:=⟨nJ,by decide⟩
instance:SN Tryz.prog 58 4:=⟨nr,by decide⟩
instance:SN Tryz.prog 68 8:=⟨nd,by decide⟩
instance:SN Tryz.prog 70 10:=⟨iq,by decide⟩
instance:SN Tryz.prog 74 5:=⟨az,by decide⟩
instance:SN Tryz.prog 83 2:=⟨DC,by decide⟩
instance:SN Tryz.prog 90 10:=⟨ib,by decide⟩
instance:ZV Tryz.prog 105 (.agg ([.int .i64 (.lit 0),.int .i64 (.lit 0)])):=⟨by kernel_rfl⟩
instance:ZV Tryz.prog 107 (.agg ([.int .i64 (.lit 0),.int .i64 (.lit 0),.bool false,.bool false,.ptr none,.ptr none,.ptr none,.int .i64 (.lit 0),.int .i64 (.lit 0)])):=⟨by kernel_rfl⟩
instance:ZV Tryz.prog 115 (.agg ([.int .i64 (.lit 0),.int .i64 (.lit 0),.bool false,.bool false,.ptr none,.ptr none,.ptr none,.int .i64 (.lit 0),.int .i64 (.lit 0),.ptr none,.ptr none,.ptr none,.ptr none,.slice none 0 (some 0) 0,.ptr none,.ptr none,.ptr none,.ptr none])):=⟨by kernel_rfl⟩
instance:ZV Tryz.prog 117 (.agg ([.int .i64 (.lit 0),.int .i64 (.lit 0),.bool false,.bool false,.int .i64 (.lit 0),.ptr none])):=⟨by kernel_rfl⟩
instance:ZV Tryz.prog 119 (.agg ([.int .i64 (.lit 0),.int .i64 (.lit 0),.int .i64 (.lit 0),.ptr none])):=⟨by kernel_rfl⟩
instance:ZV Tryz.prog 122 (.agg ([.slice none 0 (some 0) 0])):=⟨by kernel_rfl⟩
instance:ZV Tryz.prog 141 (.agg ([.int .u64 (.lit 0),.int .u64 (.lit 0),.int .u64 (.lit 0),.int .u64 (.lit 0),.int .u64 (.lit 0),.int .u64 (.lit 0),.int .u64 (.lit 0),.int .u64 (.lit 0),.slice none 0 (some 0) 0,.int .i64 (.lit 0),.ptr none])):=⟨by kernel_rfl⟩
instance:ZV Tryz.prog 144 (.agg ([.int .i64 (.lit 0),.int .i64 (.lit 0),.int .i64 (.lit 0),.int .i64 (.lit 0)])):=⟨by kernel_rfl⟩
instance:ZV Tryz.prog 147 (.agg ([.int .i64 (.lit 0),.int .i64 (.lit 0),.int .i64 (.lit 0),.int .i64 (.lit 0),.slice none 0 (some 0) 0,.int .i64 (.lit 0)])):=⟨by kernel_rfl⟩
instance:ZV Tryz.prog 159 (.agg ([.ptr none,.map none,.map none,.map none,.map none])):=⟨by kernel_rfl⟩
instance:ZV Tryz.prog 162 (.agg ([.int .u64 (.lit 0),.int .u64 (.lit 0),.int .u64 (.lit 0),.int .u64 (.lit 0),.int .u64 (.lit 0),.int .u64 (.lit 0),.int .u64 (.lit 0),.int .u64 (.lit 0),.int .i64 (.lit 0),.bool false])):=⟨by kernel_rfl⟩
instance:ZV Tryz.prog 164 (.agg ([.bool false,.bool false,.bool false,.bool false])):=⟨by kernel_rfl⟩
instance:ZV Tryz.prog 166 (.agg ([.bool false,.bool false,.bool false,.bool false,.slice none 0 (some 0) 0,.slice none 0 (some 0) 0])):=⟨by kernel_rfl⟩
instance:ZV Tryz.prog 169 (.agg ([.bool false,.bool false,.bool false,.bool false,.slice none 0 (some 0) 0,.slice none 0 (some 0) 0])):=⟨by kernel_rfl⟩
instance:ZV Tryz.prog 172 (.agg ([.ptr none,.map none])):=⟨by kernel_rfl⟩
instance:ZV Tryz.prog 181 (.agg ([.slice none 0 (some 0) 0,.ptr none])):=⟨by kernel_rfl⟩
instance:ZV Tryz.prog 197 (.agg ([.chan none])):=⟨by kernel_rfl⟩
instance:ZV Tryz.prog 206 (.agg ([.int .i64 (.lit 0),.int .i64 (.lit 0),.bool false,.bool false,.ptr none,.ptr none,.ptr none,.int .i64 (.lit 0),.int .i64 (.lit 0),.int .i64 (.lit 0),.ptr none,.ptr none,.map none,.map none])):=⟨by kernel_rfl⟩
instance:ZV Tryz.prog 222 (.agg ([.slice none 0 (some 0) 0])):=⟨by kernel_rfl⟩
instance:ZV Tryz.prog 224 (.agg ([.int .u64 (.lit 0),.int .u64 (.lit 0),.int .u64 (.lit 0),.int .u64 (.lit 0),.int .u64 (.lit 0),.int .u64 (.lit 0),.int .u64 (.lit 0),.int .u64 (.lit 0),.int .i64 (.lit 0),.int .i64 (.lit 0)])):=⟨by kernel_rfl⟩
instance:ZV Tryz.prog 243 (.agg ([.bool false,.bool false,.bool false,.bool false,.int .i64 (.lit 0)])):=⟨by kernel_rfl⟩
instance:ZV Tryz.prog 246 (.agg ([.map none])):=⟨by kernel_rfl⟩
instance:ZV Tryz.prog 249 (.agg ([.str [],.bool false,.bool false,.bool false,.int .i64 (.lit 0),.int .i64 (.lit 0)])):=⟨by kernel_rfl⟩
instance:ZV Tryz.prog 254 (.agg ([.slice none 0 (some 0) 0,.int .i64 (.lit 0)])):=⟨by kernel_rfl⟩
instance:ZV Tryz.prog 256 (.agg ([.ptr none,.ptr none,.int .i64 (.lit 0),.int .i64 (.lit 0),.int .i64 (.lit 0),.slice none 0 (some 0) 0])):=⟨by kernel_rfl⟩
instance:ZV Tryz.prog 259 (.agg (List.replicate 256 (.int .i64 (.lit 0)))):=⟨by kernel_rfl⟩
instance:ZV Tryz.prog 26 (.agg ([.int .i64 (.lit 0),.int .i64 (.lit 0),.int .i64 (.lit 0),.int .i64 (.lit 0)])):=⟨by kernel_rfl⟩
instance:ZV Tryz.prog 265 (.agg (List.replicate 256 (.int .i64 (.lit 0)))):=⟨by kernel_rfl⟩
instance:ZV Tryz.prog 309 (.agg ([.slice none 0 (some 0) 0,.int .u64 (.lit 0),.bool false,.bool false,.bool false,.int .i64 (.lit 0)])):=⟨by kernel_rfl⟩
instance:ZV Tryz.prog 325 (.agg ([.int .i64 (.lit 0),.int .i64 (.lit 0)])):=⟨by kernel_rfl⟩
instance:ZV Tryz.prog 52 (.agg ([.int .i64 (.lit 0),.int .i64 (.lit 0),.int .i64 (.lit 0),.int .i64 (.lit 0),.int .i64 (.lit 0)])):=⟨by kernel_rfl⟩
instance:ZV Tryz.prog 54 (.agg ([.int .i64 (.lit 0),.int .i64 (.lit 0),.int .i64 (.lit 0),.bool false,.bool false,.bool false])):=⟨by kernel_rfl⟩
instance:ZV Tryz.prog 58 (.agg ([.int .i64 (.lit 0),.int .i64 (.lit 0),.bool false,.bool false])):=⟨by kernel_rfl⟩
instance:ZV Tryz.prog 68 (.agg ([.int .u64 (.lit 0),.int .u64 (.lit 0),.int .u64 (.lit 0),.int .u64 (.lit 0),.int .u64 (.lit 0),.int .u64 (.lit 0),.int .u64 (.lit 0),.int .u64 (.lit 0)])):=⟨by kernel_rfl⟩
instance:ZV Tryz.prog 70 (.agg ([.int .u64 (.lit 0),.int .u64 (.lit 0),.int .u64 (.lit 0),.int .u64 (.lit 0),.int .u64 (.lit 0),.int .u64 (.lit 0),.int .u64 (.lit 0),.int .u64 (.lit 0),.slice none 0 (some 0) 0,.int .i64 (.lit 0)])):=⟨by kernel_rfl⟩
instance:ZV Tryz.prog 74 (.agg ([.int .i64 (.lit 0),.int .i64 (.lit 0),.bool false,.bool false,.slice none 0 (some 0) 0])):=⟨by kernel_rfl⟩
instance:ZV Tryz.prog 83 (.agg ([.int .i64 (.lit 0),.int .i64 (.lit 0)])):=⟨by kernel_rfl⟩
instance:ZV Tryz.prog 90 (.agg ([.int .u64 (.lit 0),.int .u64 (.lit 0),.int .u64 (.lit 0),.int .u64 (.lit 0),.int .u64 (.lit 0),.int .u64 (.lit 0),.int .u64 (.lit 0),.int .u64 (.lit 0),.slice none 0 (some 0) 0,.int .i64 (.lit 0)])):=⟨by kernel_rfl⟩
end Go.Proofs.YtlhcpplnlgehbaaGreat
namespace Go.Px
open Go Go.RowKit
noncomputable def Ve (H:Hp) (r:Nat) (v:AVal):Option (AVal×Hp):=match H.t.get r with
 |some (.chan cap buf s n)=>bif Nat.blt buf.length cap then some (.bool true,H.put r (.chan cap (buf++ [v]) (s+1) n))else some (.bool false,H)
 |_=>none
noncomputable def Vy (H:Hp) (r:Nat):Option (AVal×Hp):=match H.t.get r with
 |some (.chan cap buf s n)=>match buf with
  | []=>some (.tuple [.int .u64 (.lit 0),.bool false],H)
  |v::buf=>some (.tuple [v,.bool true],H.put r (.chan cap buf s (n+1)))
 |_=>none
noncomputable def UG (args:List AVal) (H:Hp):Option (AVal×Hp):=match args with
 | [.ptr (some (i,o)),v]=>match H.read1 i o with
  |some (.chan (some r))=>Ve H r v
  |_=>none
 |_=>none
noncomputable def Wz (args:List AVal) (H:Hp):Option (AVal×Hp):=match args with
 | [.ptr (some (i,o))]=>match H.read1 i o with
  |some (.chan (some r))=>Vy H r
  |_=>none
 |_=>none
section
variable {P:Program} {F:z9} {hook:yZ} {L R:List SP} {Q:AVal→List SP→Prop}
theorem SW.hooked {f:FuncId} {g:List AVal→Hp→Option (AVal×Hp)} {as:List AVal} (hk:hook f=some g) (h: ∀H,Holds L H→ ∃v H',g as H=some (v,H')∧ ∃L',Q v L'∧Holds L' H'):SW P F hook f as L Q:=by
 intro H hH
 obtain⟨v,H',h1,h2⟩:=h H hH
 refine⟨v,H',⟨1,fun m hm=> ?_⟩,h2⟩
 obtain⟨k,rfl⟩: ∃k,m=k+1:=⟨m-1,by omega⟩
 show(match hook f with
  |some h=>h as H
  |none=>Q6 P (ZH P F hook k) f as H)=_
 rw [hk];exact h1
theorem Holds.chan {i cap:Nat} {buf:List AVal} {H:Hp} (h:Holds (ent yh i (cap,buf)::R) H): ∃s r,H.t.get i=some (.chan cap buf s r):=by
 obtain⟨p,q,h1,h2,h3,⟨s,r,h4⟩,h6⟩:=h.s
 exact⟨s,r,h2 _ _ h4⟩
theorem r8 {f:FuncId} {i c cap:Nat} {buf:List AVal} {v:AVal} (hk:hook f=some UG) (hf:buf.length<cap→Q (.bool true) (ent yh c (cap,buf++ [v])::ent z8 i [.chan (some c)]::R)) (hn:cap≤buf.length→Q (.bool false) (ent yh c (cap,buf)::ent z8 i [.chan (some c)]::R)):
 SW P F hook f [.ptr (some (i,0)),v] (ent yh c (cap,buf)::ent z8 i [.chan (some c)]::R) Q:=by
 refine SW.hooked hk fun H hH=> ?_
 obtain⟨s,r,hc⟩:=hH.chan
 have hr:H.read1 i 0=some (.chan (some c)):=mU (cs:= [.chan (some c)]) rfl hH
 by_cases hl:buf.length<cap
 ·refine⟨.bool true,H.put c (.chan cap (buf++ [v]) (s+1) r),?_,_,hf hl,hH.put (y:=(cap,buf++ [v])) hc (fun f ⟨s,r,e⟩=>⟨_,e⟩) fun f e=>⟨_,_,e⟩⟩
  simp only [UG,hr,Ve,hc]
  rw [show Nat.blt buf.length cap=true by rw [Nat.blt_eq];exact hl];rfl
 refine⟨.bool false,H,?_,_,hn (by omega),hH⟩
 simp only [UG,hr,Ve,hc]
 rw [show Nat.blt buf.length cap=false by rw [←Bool.not_eq_true,Nat.blt_eq];exact hl];rfl
theorem pj {f:FuncId} {i c cap:Nat} (hk:hook f=some Wz) (hq:Q (.tuple [.int .u64 (.lit 0),.bool false]) (ent yh c (cap,[])::ent z8 i [.chan (some c)]::R)):
 SW P F hook f [.ptr (some (i,0))] (ent yh c (cap,[])::ent z8 i [.chan (some c)]::R) Q:=by
 refine SW.hooked hk fun H hH=> ?_
 obtain⟨s,r,hc⟩:=hH.chan
 have hr:H.read1 i 0=some (.chan (some c)):=mU (cs:= [.chan (some c)]) rfl hH
 exact⟨_,_,by simp only [Wz,hr,Vy,hc],_,hq,hH⟩
theorem db {f:FuncId} {i c cap:Nat} {v:AVal} {buf:List AVal} (hk:hook f=some Wz) (hq:Q (.tuple [v,.bool true]) (ent yh c (cap,buf)::ent z8 i [.chan (some c)]::R)):
 SW P F hook f [.ptr (some (i,0))] (ent yh c (cap,v::buf)::ent z8 i [.chan (some c)]::R) Q:=by
 refine SW.hooked hk fun H hH=> ?_
 obtain⟨s,r,hc⟩:=hH.chan
 have hr:H.read1 i 0=some (.chan (some c)):=mU (cs:= [.chan (some c)]) rfl hH
 exact⟨_,H.put c (.chan cap buf s (r+1)),by simp only [Wz,hr,Vy,hc],_,hq,hH.put (y:=(cap,buf)) hc (fun f ⟨s,r,e⟩=>⟨_,e⟩) fun f e=>⟨_,_,e⟩⟩
end
end Go.Px
section
namespace Go.Px
open Go Go.RowKit
variable {P:Program} {F:z9} {G:(Nat→Int)→Prop} {V:qS} {B:Nat} {w0 w:World} {H:Hp}
theorem zt.grow (hW:zt B w0 V H w) {w':World} (hb:Below w.heap.size w w') (hz: ∀(b:Nat) arr el z,w.heap.size≤b→w'.heap[b]? =some (.cells arr el z)→z=(0,0)):zt B w0 V H w':=by
 refine⟨hW.below.trans (hb.mono hW.size),Nat.le_trans hW.size hb.size,hW.next,fun id b base S h=>Nat.lt_of_lt_of_le (hW.lt id b base S h) hb.size,fun id o b base S h1 h2=> ?_,hW.inj,fun b arr el z hB h=> ?_,hW.lim⟩
 ·obtain⟨x,h3,h4⟩:=hW.obj id o b base S h1 h2
  exact⟨x,by rw [hb.block b (hW.lt id b base S h2)];exact h3,h4⟩
 by_cases hlt:b<w.heap.size
 ·rw [hb.block b hlt]at h
  exact hW.fz b arr el z hB h
 exact hz b arr el z (by omega) h
noncomputable def YI (args:List AVal) (H:Hp):Option (AVal×Hp):=match args with
 | []=>some (.bool true,H)
 |_=>none
theorem dD {f:FuncId} (hf:jG P f) (h: ∀w,Calls P f #[] w fun e w'=>e= .returned (.bool true)∧Below w.heap.size w w'∧ ∀b arr el z,w.heap.size≤b→w'.heap[b]? =some (.cells arr el z)→z=(0,0)):
 j3 P F G B w0 fun f' args H=>if f'=f then YI args H else none:=by
 intro f' args H v H' hh
 simp only at hh
 split at hh
 case isFalse=>cases hh
 rename_i hf'
 subst hf'
 unfold YI at hh
 split at hh
 case h_2=>cases hh
 cases hh
 refine⟨hf,fun V w args' hF hW hl=> ?_⟩
 have e:args'= #[]:=by
  cases ha:args'.toList with
  |nil=>exact Array.toList_inj.1 ha
  |cons x l=>rw [ha]at hl;cases hl
 subst e
 refine(h w).mono fun e w' he=> ?_
 obtain⟨rfl,h1,h2⟩:=he
 exact⟨V,_,rfl,.refl V _,hW.grow h1 h2,.bool true⟩
end Go.Px
end
namespace Go.Proofs.YtlhcpplnlgehbaaGreat
open Go Go.RowKit Go.Px
abbrev vi (z:Int):AVal:= .int .i64 (.lit z)
abbrev vu (n:Nat):AVal:= .int .u64 (.lit (n:Int))
abbrev vp (i o:Nat):AVal:= .ptr (some (i,o))
noncomputable def hk:yZ:=fun f=>bif Nat.beq f 186 then some UG else bif Nat.beq f 188 then some Wz else bif Nat.beq f 22 then some YI else none
abbrev zy (f:FuncId) (vs:List AVal) (L:List SP) (Q:AVal→List SP→Prop):Prop:=SW Tryz.prog [] hk f vs L Q
theorem yC {b:Bool} {p:Prop} [Decidable p] (h:b=true↔p):AVal.bool b= .bool (decide p):=by
 congr 1
 cases b with
 |true=>exact(decide_eq_true (h.1 rfl)).symm
 |false=>exact(decide_eq_false fun e=>by cases h.2 e).symm
structure zA where
 n:Nat
 word:Nat→Nat→Nat
 cls:Nat→Int
 own:Nat→Int
def zA.cell (M:zA) (j:Nat):AVal:=if j%10<8 then vu (M.word (j/10) (j%10))else if j%10=8 then vi (M.cls (j/10))else vi (M.own (j/10))
def zA.Ok (M:zA):Prop:=0<M.n∧M.n≤64∧ ∀f o,M.word f o≤18446744073709551615
theorem zA.cell_word (M:zA) (f o:Nat) (h:o<8):M.cell (f*10+o)=vu (M.word f o):=by
 unfold zA.cell
 rw [show(f*10+o)%10=o by omega,show(f*10+o)/10=f by omega,if_pos h]
theorem zA.cell_cls (M:zA) (f:Nat):M.cell (f*10+8)=vi (M.cls f):=by
 unfold zA.cell
 rw [show(f*10+8)%10=8 by omega,show(f*10+8)/10=f by omega];rfl
theorem zA.cell_own (M:zA) (f:Nat):M.cell (f*10+9)=vi (M.own f):=by
 unfold zA.cell
 rw [show(f*10+9)%10=9 by omega,show(f*10+9)/10=f by omega];rfl
abbrev JR (m:Nat) (M:zA) (r:Nat):List SP:= [ent z8 m [.slice (some (r,0)) M.n none 10],ent zI r (M.n*10,M.cell)]
def zQ (m:Nat) (M:zA):SP:=fun h=> ∃r,M.Ok∧yd (JR m M r) h
theorem un (m:Nat) (M:zA): ∀h,zQ m M h→ ∃r,M.Ok∧yd (JR m M r) h:=fun _ h=>h
theorem yr {m r:Nat} {M:zA} (hM:M.Ok) {n:Nat} (hn:n=M.n) {f:Nat→AVal} (hf: ∀j,j<M.n*10→f j=M.cell j): ∀h,yd [ent z8 m [.slice (some (r,0)) n none 10],ent zI r (n*10,f)] h→zQ m M h:=by
 subst hn
 exact fun h s=>⟨r,hM,dd s (wK hf)⟩
theorem vk (R:List SP) (m:Nat) (M:zA):zy 85 [vp m 0] (ent zQ m M::R) fun v L=>v=vi M.n∧L=ent zQ m M::R:=by
 refine zS (un m M) fun r hM=> ?_
 dsimp only [JR,List.cons_append,List.nil_append]
 have hM1:=hM.1
 have hM2:=hM.2.1
 refine SW.intro rfl Tryz.func85 rfl ?_
 refine O0 8 J (fa J Y (ld J Y J (zf rfl (fun _=>wD rfl rfl rfl rfl rfl) ?_)))
 exact Z 3 J (zE J J J ⟨_,⟨rfl,rfl⟩,Sub.mk2 (yr hM rfl fun _ _=>rfl) Y⟩)
theorem JB (R:List SP) (m r:Nat) (M:zA) (z:Int):zy 129 [vp m 0,vi z] (ent z8 m [.slice (some (r,0)) M.n none 10]::ent zI r (M.n*10,M.cell)::R) fun v L=>v= .bool (decide (0≤z∧z<M.n))∧L=ent z8 m [.slice (some (r,0)) M.n none 10]::ent zI r (M.n*10,M.cell)::R:=by
 refine SW.intro rfl Tryz.func129 rfl ?_
 refine O0 8 J (z0 (fun h6=> ?_) (fun h6=> ?_))
 ·refine Z 4 J (fa J Y (ld J Y J (zf rfl (fun _=>wD rfl rfl rfl rfl rfl) ?_)))
  refine Z 5 J (zE J J J (⟨_,⟨yC ?_,rfl⟩,Y⟩))
  first|(simp;omega)|simp|omega
 refine Z 12 J (zE J J J (⟨_,⟨yC ?_,rfl⟩,Y⟩))
 first|(simp;omega)|simp|omega
def zA.at (M:zA) (r:Nat) (z:Int):Option (Nat×Nat):=if 0≤z∧z/8<M.n then some (r,(z/8).toNat*10+(z%8).toNat)else none
def zA.class (M:zA) (z:Int):Int:=if 0≤z∧z<M.n then M.cls z.toNat else-1
def zA.read (M:zA) (z:Int):Option Nat:=if 0≤z∧z/8<M.n then some (M.word (z/8).toNat (z%8).toNat)else none
def zA.rd (M:zA) (z:Int):Nat:=(M.read z).getD 0
def zA.setWord (M:zA) (f o x:Nat):zA:= { M with word:=fun a b=>if a=f∧b=o then x else M.word a b }
def zA.write (M:zA) (z:Int) (x:Nat):zA:=if 0≤z∧z/8<M.n then M.setWord (z/8).toNat (z%8).toNat x else M
def zA.setMark (M:zA) (f:Nat) (c w:Int):zA:= { M with cls:=fun a=>if a=f then c else M.cls a,own:=fun a=>if a=f then w else M.own a }
def zA.mark (M:zA) (z c w:Int):zA:=if(0≤z∧z<M.n)∧0≤c∧c≤5 then M.setMark z.toNat c w else M
def zA.zero (M:zA) (z:Int):zA:=if 0≤z∧z<M.n then { M with word:=fun a b=>if a=z.toNat then 0 else M.word a b } else M
def zA.copy (M:zA) (f t:Int):zA:=if(0≤f∧f<M.n)∧0≤t∧t<M.n then { M with word:=fun a b=>if a=t.toNat then M.word f.toNat b else M.word a b } else M
theorem zA.write_n (M:zA) (z:Int) (x:Nat):(M.write z x).n=M.n:=by unfold zA.write;split<;>rfl
theorem zA.mark_n (M:zA) (z c w:Int):(M.mark z c w).n=M.n:=by unfold zA.mark;split<;>rfl
theorem zA.zero_n (M:zA) (z:Int):(M.zero z).n=M.n:=by unfold zA.zero;split<;>rfl
theorem zA.copy_n (M:zA) (f t:Int):(M.copy f t).n=M.n:=by unfold zA.copy;split<;>rfl
theorem zA.Ok.setWord {M:zA} (h:M.Ok) (f o x:Nat) (hx:x≤18446744073709551615):(M.setWord f o x).Ok:=⟨h.1,h.2.1,fun a b=>by
 show(if a=f∧b=o then x else M.word a b)≤_
 split
 ·exact hx
 exact h.2.2 _ _⟩
theorem zA.Ok.setMark {M:zA} (h:M.Ok) (f:Nat) (c w:Int):(M.setMark f c w).Ok:=⟨h.1,h.2.1,h.2.2⟩
theorem zA.Ok.read {M:zA} (h:M.Ok) (z:Int):M.rd z≤18446744073709551615:=by
 unfold zA.rd zA.read;split
 ·exact h.2.2 _ _
 exact Nat.zero_le _
theorem zA.Ok.zero {M:zA} (h:M.Ok) (z:Int):(M.zero z).Ok:=by
 unfold zA.zero;split
 ·refine⟨h.1,h.2.1,fun a b=> ?_⟩
  show(if a=z.toNat then 0 else M.word a b)≤_
  split
  ·omega
  exact h.2.2 _ _
 exact h
theorem zA.Ok.copy {M:zA} (h:M.Ok) (f t:Int):(M.copy f t).Ok:=by
 unfold zA.copy;split
 ·refine⟨h.1,h.2.1,fun a b=> ?_⟩
  show(if a=t.toNat then M.word f.toNat b else M.word a b)≤_
  split
  ·exact h.2.2 _ _
  exact h.2.2 _ _
 exact h
theorem zA.cell_at (M:zA) (j:Nat):M.cell j=if j%10<8 then vu (M.word (j/10) (j%10))else if j%10=8 then vi (M.cls (j/10))else vi (M.own (j/10)):=rfl
theorem Jd (M:zA) (f o x:Nat) (ho:o<8) (k:Nat) (hk:k=f*10+o) (j:Nat):vK M.cell k (vu x) j=(M.setWord f o x).cell j:=by
 subst hk
 unfold vK
 rw [zA.cell_at,zA.cell_at]
 by_cases h:j=f*10+o
 ·subst h
  rw [if_pos rfl,show(f*10+o)%10=o by omega,show(f*10+o)/10=f by omega,if_pos ho]
  simp [zA.setWord]
 rw [if_neg h]
 by_cases h2:j%10<8
 ·rw [if_pos h2,if_pos h2]
  simp only [zA.setWord]
  rw [if_neg (by omega)]
 rw [if_neg h2,if_neg h2];rfl
theorem Jg (M:zA) (f:Nat) (c w:Int) (k1 k2:Nat) (h1:k1=f*10+8) (h2:k2=f*10+9) (j:Nat):vK (vK M.cell k1 (vi c)) k2 (vi w) j=(M.setMark f c w).cell j:=by
 subst h1 h2
 unfold vK
 rw [zA.cell_at,zA.cell_at]
 by_cases h:j=f*10+9
 ·subst h
  rw [if_pos rfl,show(f*10+9)%10=9 by omega,show(f*10+9)/10=f by omega]
  simp [zA.setMark]
 rw [if_neg h]
 by_cases h0:j=f*10+8
 ·subst h0
  rw [if_pos rfl,show(f*10+8)%10=8 by omega,show(f*10+8)/10=f by omega]
  simp [zA.setMark]
 rw [if_neg h0]
 by_cases h2:j%10<8
 ·rw [if_pos h2,if_pos h2];rfl
 rw [if_neg h2,if_neg h2]
 by_cases h3:j%10=8
 ·rw [if_pos h3,if_pos h3]
  show vi _=vi (if j/10=f then c else _)
  rw [if_neg (by omega)]
 rw [if_neg h3,if_neg h3]
 show vi _=vi (if j/10=f then w else _)
 rw [if_neg (by omega)]
theorem tt (M:zA) (z:Int) (hz:0≤z∧z<M.n) (k:Nat) (hk:k=z.toNat*10) (j:Nat):vL M.cell k (List.replicate 8 (vu 0)) j=(M.zero z).cell j:=by
 subst hk
 rw [show M.zero z= { M with word:=fun a b=>if a=z.toNat then 0 else M.word a b } from if_pos hz]
 unfold vL
 rw [zA.cell_at,zA.cell_at]
 have hw: ∀a b,(zA.mk M.n (fun a b=>if a=z.toNat then 0 else M.word a b) M.cls M.own).word a b=if a=z.toNat then 0 else M.word a b:=fun _ _=>rfl
 by_cases h:z.toNat*10≤j
 ·rw [if_pos h]
  by_cases h8:j-z.toNat*10<8
  ·rw [List.getElem?_replicate,if_pos h8,if_pos (show j%10<8 by omega),if_pos (show j%10<8 by omega),hw,if_pos (show j/10=z.toNat by omega)];rfl
  rw [List.getElem?_eq_none (by simp;omega),hw]
  by_cases h2:j%10<8
  ·rw [if_pos h2,if_pos h2,if_neg (by omega)];rfl
  rw [if_neg h2,if_neg h2];rfl
 rw [if_neg h,hw]
 by_cases h2:j%10<8
 ·rw [if_pos h2,if_pos h2,if_neg (by omega)]
 rw [if_neg h2,if_neg h2]
theorem f9 (M:zA) (f t:Int) (hf:0≤f∧f<M.n) (ht:0≤t∧t<M.n) (k l:Nat) (hk:k=t.toNat*10) (hl:l=f.toNat*10) (j:Nat):vL M.cell k (zY M.cell l 8) j=(M.copy f t).cell j:=by
 subst hk hl
 rw [show M.copy f t= { M with word:=fun a b=>if a=t.toNat then M.word f.toNat b else M.word a b } from if_pos ⟨hf,ht⟩]
 unfold vL
 have hw: ∀a b,(zA.mk M.n (fun a b=>if a=t.toNat then M.word f.toNat b else M.word a b) M.cls M.own).word a b=if a=t.toNat then M.word f.toNat b else M.word a b:=fun _ _=>rfl
 by_cases h:t.toNat*10≤j
 ·rw [if_pos h]
  by_cases h8:j-t.toNat*10<8
  ·rw [zq _ _ _ _ h8,show f.toNat*10+(j-t.toNat*10)=f.toNat*10+j%10 by omega,zA.cell_word _ _ _ (by omega),zA.cell_at (M:=zA.mk M.n (fun a b=>if a=t.toNat then M.word f.toNat b else M.word a b) M.cls M.own),if_pos (show j%10<8 by omega),hw,if_pos (show j/10=t.toNat by omega)];rfl
  rw [List.getElem?_eq_none (by rw [zo];omega),zA.cell_at,zA.cell_at,hw]
  by_cases h2:j%10<8
  ·rw [if_pos h2,if_pos h2,if_neg (by omega)];rfl
  rw [if_neg h2,if_neg h2];rfl
 rw [if_neg h,zA.cell_at,zA.cell_at,hw]
 by_cases h2:j%10<8
 ·rw [if_pos h2,if_pos h2,if_neg (by omega)]
 rw [if_neg h2,if_neg h2]
theorem zA.okA (M:zA) (j:Nat):VQ (M.cell j)=true:=by
 rw [zA.cell_at]
 split
 ·rfl
 split<;>rfl
theorem xv (M:zA): ∀n k,yL (zY M.cell k n)=true:=by
 intro n
 induction n with
 |zero=>intro k;rfl
 |succ n ih=>
  intro k
  show((M.cell k).isCell && yL (zY M.cell (k+1) n))=true
  rw [ih,Bool.and_true,zA.cell_at]
  split
  ·rfl
  split<;>rfl
theorem nU {f:Nat→AVal} (h: ∀j,VQ (f j)=true): ∀n k,(zY f k n).all VQ=true:=by
 intro n
 induction n with
 |zero=>intro k;rfl
 |succ n ih=>intro k;simp only [zY,List.all_cons,h,ih,Bool.and_self]
theorem lG (R:List SP) (m r:Nat) (M:zA) (hM2:M.n≤64) (z:Int) (hz:z≤9223372036854775807):zy 106 [vp m 0,vi z] (ent z8 m [.slice (some (r,0)) M.n none 10]::ent zI r (M.n*10,M.cell)::R) fun v L=>v= .ptr (M.at r z)∧L=ent z8 m [.slice (some (r,0)) M.n none 10]::ent zI r (M.n*10,M.cell)::R:=by
 refine SW.intro rfl Tryz.func106 rfl ?_
 refine O0 9 J (z0 (fun h6=> ?_) (fun h6=> ?_))
 ·exact Z 14 J (zE J J J ⟨_,⟨by unfold zA.at;rw [if_neg (by omega)],rfl⟩,Y⟩)
 refine Z 3 J (zf rfl (fun _=>zC rfl rfl rfl (iT (by omega) (by omega))) ?_)
 refine Z2 (JB _ _ _ M _) J Y Y (z0 (fun h11=> ?_) (fun h11=> ?_))
 ·refine Z 9 J (fa J Y (ld J Y J (Z 1 J (zf rfl (fun _=>zC rfl rfl rfl (iT (by omega) (by omega))) ?_))))
  refine Z 1 J (zf rfl (fun _=>zC rfl rfl rfl (bF (by omega) (by omega))) ?_)
  refine zf rfl (fun _=>vQ rfl rfl rfl (by omega) (by omega)) ?_
  refine fa J Y (zf rfl (fun _=>zh rfl rfl rfl (by omega) (by omega)) ?_)
  refine Z 3 J (zE J J J (⟨_,⟨?_,rfl⟩,Y⟩))
  unfold zA.at;rw [if_pos (by omega)]
  show vp _ _=vp _ _
  congr 1;omega
 exact Z 9 J (zE J J J ⟨_,⟨by unfold zA.at;rw [if_neg (by omega)],rfl⟩,Y⟩)
theorem ke (R:List SP) (m:Nat) (M:zA) (z:Int):zy 86 [vp m 0,vi z] (ent zQ m M::R) fun v L=>v=vi (M.class z)∧L=ent zQ m M::R:=by
 refine zS (un m M) fun r hM=> ?_
 dsimp only [JR,List.cons_append,List.nil_append]
 have hM1:=hM.1
 have hM2:=hM.2.1
 refine SW.intro rfl Tryz.func86 rfl ?_
 refine O0 9 J (Z2 (JB _ _ _ M _) J Y Y (z0 (fun h7=> ?_) (fun h7=> ?_)))
 ·refine Z 8 J (fa J Y (ld J Y J (Z 1 J (zf rfl (fun _=>vQ rfl rfl rfl (by omega) (by omega)) ?_))))
  refine fa J Y (yo rfl (fun _ h=>VE rfl rfl (by omega) (M.cell_cls z.toNat) h) ?_)
  refine Z 3 J (zE J J J (⟨_,⟨?_,rfl⟩,Sub.mk2 (yr hM rfl fun _ _=>rfl) Y⟩))
  unfold zA.class;rw [if_pos h7]
 refine Z 8 J (zE J J J (⟨_,⟨?_,rfl⟩,Sub.mk2 (yr hM rfl fun _ _=>rfl) Y⟩))
 unfold zA.class;rw [if_neg h7]
theorem Wt (R:List SP) (m:Nat) (M:zA) (z:Int) (hz:z≤9223372036854775807):zy 116 [vp m 0,vi z] (ent zQ m M::R) fun v L=>v= .tuple [vu (M.rd z),.bool (M.read z).isSome]∧L=ent zQ m M::R:=by
 refine zS (un m M) fun r hM=> ?_
 dsimp only [JR,List.cons_append,List.nil_append]
 have hM1:=hM.1
 have hM2:=hM.2.1
 refine SW.intro rfl Tryz.func116 rfl ?_
 refine O0 9 J (Z2 (lG _ _ _ M hM2 _ (by omega)) J Y Y ?_)
 by_cases hz8:0≤z∧z/8<M.n
 ·rw [show M.at r z=some (r,(z/8).toNat*10+(z%8).toNat)from if_pos hz8]
  refine Z 6 J (zf rfl (fun _=>zC rfl rfl rfl rfl) ?_)
  refine Z 7 J (yo rfl (fun _ h=>VE rfl rfl (by omega) (M.cell_word _ _ (by omega)) h) ?_)
  refine Z 4 J (qO J J J J (⟨_,⟨?_,rfl⟩,Sub.mk2 (yr hM rfl fun _ _=>rfl) Y⟩))
  unfold zA.rd zA.read;rw [if_pos hz8];rfl
 rw [show M.at r z=none from if_neg hz8]
 refine Z 6 J (zf rfl (fun _=>zC rfl rfl rfl rfl) ?_)
 refine Z 8 J (qO J J J J (⟨_,⟨?_,rfl⟩,Sub.mk2 (yr hM rfl fun _ _=>rfl) Y⟩))
 unfold zA.rd zA.read;rw [if_neg hz8];rfl
theorem jT (R:List SP) (m:Nat) (M:zA) (z:Int) (hz:z≤9223372036854775807) (x:Nat) (hx:x≤18446744073709551615):zy 67 [vp m 0,vi z,vu x] (ent zQ m M::R) fun v L=>v= .bool (decide (0≤z∧z/8<M.n))∧L=ent zQ m (M.write z x)::R:=by
 refine zS (un m M) fun r hM=> ?_
 dsimp only [JR,List.cons_append,List.nil_append]
 have hM1:=hM.1
 have hM2:=hM.2.1
 refine SW.intro rfl Tryz.func67 rfl ?_
 refine O0 8 J (Z2 (lG _ _ _ M hM2 _ (by omega)) J Y Y ?_)
 by_cases hz8:0≤z∧z/8<M.n
 ·rw [show M.at r z=some (r,(z/8).toNat*10+(z%8).toNat)from if_pos hz8]
  refine Z 6 J (zf rfl (fun _=>zC rfl rfl rfl rfl) ?_)
  refine Z 8 J (sF J Y J J (Z 6 J (zE J J J (⟨_,⟨yC ?_,rfl⟩,?_⟩))))
  ·simp;omega
  unfold zA.write;rw [if_pos hz8];exact Sub.mk2 (yr (M:=M.setWord (z/8).toNat (z%8).toNat x) (hM.setWord _ _ _ hx) rfl fun j _=>Jd M _ _ x (by omega) _ rfl j) Y
 rw [show M.at r z=none from if_neg hz8]
 refine Z 6 J (zf rfl (fun _=>zC rfl rfl rfl rfl) ?_)
 refine Z 7 J (zE J J J (⟨_,⟨yC ?_,rfl⟩,?_⟩))
 ·simp;omega
 unfold zA.write;rw [if_neg hz8];exact Sub.mk2 (yr hM rfl fun _ _=>rfl) Y
theorem QA (R:List SP) (m:Nat) (M:zA) (z c w:Int):zy 150 [vp m 0,vi z,vi c,vi w] (ent zQ m M::R) fun v L=>v= .bool (decide ((0≤z∧z<M.n)∧0≤c∧c≤5))∧L=ent zQ m (M.mark z c w)::R:=by
 refine zS (un m M) fun r hM=> ?_
 dsimp only [JR,List.cons_append,List.nil_append]
 have hM1:=hM.1
 have hM2:=hM.2.1
 refine SW.intro rfl Tryz.func150 rfl ?_
 refine O0 9 J (Z2 (JB _ _ _ M _) J Y Y (z0 (fun h11=> ?_) (fun h11=> ?_)))
 ·refine Z 4 J (z0 (fun h15=> ?_) (fun h15=> ?_))
  ·refine Z 12 J (zE J J J (⟨_,⟨yC ?_,rfl⟩,?_⟩))
   ·simp;omega
   unfold zA.mark;rw [if_neg (by omega)];exact Sub.mk2 (yr hM rfl fun _ _=>rfl) Y
  refine Z 4 J (z0 (fun h19=> ?_) (fun h19=> ?_))
  ·refine Z 8 J (zE J J J (⟨_,⟨yC ?_,rfl⟩,?_⟩))
   ·simp;omega
   unfold zA.mark;rw [if_neg (by omega)];exact Sub.mk2 (yr hM rfl fun _ _=>rfl) Y
  refine Z 5 J (zO [0,1,3,7,0,0,32,96,224,0,0,0,1535,5631,13823,32767,65535,131071] [([0,1,2,3,4,5,6,7,8,9,10,11,12,13],[3,8],some 14),([15,16],[],some 17),([],[],none)] (by kernel_rfl) ?_)
  refine z4 (ZK 2 J (zj J Y (ye J Y J (ZK 3 J (zj J Y (ye J Y J (ZK 3 J (vN rfl (fun _=>vQ rfl rfl rfl (by omega) (by omega)) ?_))))))))
  refine zj J Y (z5 ⟨(y6 J Y J J J (y6 J Y J J J z6)),?_⟩)
  refine sF J Y J J (zF (z4 (vN rfl (fun _=>vQ rfl rfl rfl (by omega) (by omega)) ?_)))
  refine zj J Y (z5 ⟨z6,?_⟩)
  refine sF J Y J J (zF (z4 (z5 ⟨z6,?_⟩)))
  refine OX 5 J (zE J J J (⟨_,⟨yC ?_,rfl⟩,?_⟩))
  ·simp;omega
  unfold zA.mark;rw [if_pos ⟨h11,by omega⟩];exact Sub.mk2 (yr (M:=M.setMark z.toNat c w) (hM.setMark _ _ _) rfl fun j _=>Jg M _ c w _ _ (by omega) (by omega) j) Y
 refine Z 16 J (zE J J J (⟨_,⟨yC ?_,rfl⟩,?_⟩))
 ·simp;omega
 unfold zA.mark;rw [if_neg (by omega)];exact Sub.mk2 (yr hM rfl fun _ _=>rfl) Y
theorem As (R:List SP) (m:Nat) (M:zA) (z:Int):zy 247 [vp m 0,vi z] (ent zQ m M::R) fun v L=>v= .bool (decide (0≤z∧z<M.n))∧L=ent zQ m (M.zero z)::R:=by
 refine zS (un m M) fun r hM=> ?_
 dsimp only [JR,List.cons_append,List.nil_append]
 have hM1:=hM.1
 have hM2:=hM.2.1
 refine SW.intro rfl Tryz.func247 rfl ?_
 refine O0 9 J (Z2 (JB _ _ _ M _) J Y Y (z0 (fun h7=> ?_) (fun h7=> ?_)))
 ·refine Z 8 J (fa J Y (ld J Y J (Z 1 J (zf rfl (fun _=>GB (cs:= [_,_,_,_,_,_,_,_]) rfl rfl rfl) ?_))))
  refine zf rfl (fun _=>vQ rfl rfl rfl (by omega) (by omega)) ?_
  refine fa J Y (QD rfl rfl rfl rfl (by rfl) rfl (by omega) ?_)
  refine Z 6 J (zE J J J (⟨_,⟨yC ?_,rfl⟩,?_⟩))
  ·simp;omega
  exact Sub.mk2 (yr (hM.zero z) (M.zero_n z).symm fun j _=>tt M z h7 _ (by omega) j) Y
 refine Z 8 J (zE J J J (⟨_,⟨yC ?_,rfl⟩,?_⟩))
 ·simp;omega
 unfold zA.zero;rw [if_neg h7];exact Sub.mk2 (yr hM rfl fun _ _=>rfl) Y
theorem BB (R:List SP) (m:Nat) (M:zA) (f t:Int):zy 262 [vp m 0,vi f,vi t] (ent zQ m M::R) fun v L=>v= .bool (decide ((0≤f∧f<M.n)∧0≤t∧t<M.n))∧L=ent zQ m (M.copy f t)::R:=by
 refine zS (un m M) fun r hM=> ?_
 dsimp only [JR,List.cons_append,List.nil_append]
 have hM1:=hM.1
 have hM2:=hM.2.1
 refine SW.intro rfl Tryz.func262 rfl ?_
 refine O0 9 J (Z2 (JB _ _ _ M _) J Y Y (z0 (fun h9=> ?_) (fun h9=> ?_)))
 ·refine Z 4 J (Z2 (JB _ _ _ M _) J Y Y (z0 (fun h14=> ?_) (fun h14=> ?_)))
  ·refine Z 6 J (zO [0,1,3,7,0,0,32,96,224,0,992,2016,4064,8191,16383,32767] [([0,1,2,3,4,5,6,7,8,9,10,11,12,13,14],[3,8,12],some 15),([],[],none)] (by kernel_rfl) ?_)
   refine z4 (ZK 2 J (zj J Y (ye J Y J (ZK 3 J (zj J Y (ye J Y J (ZK 1 J (vN rfl (fun _=>vQ rfl rfl rfl (by omega) (by omega)) ?_))))))))
   refine zj J Y (uW rfl (fun _ h=>wF rfl rfl (by omega) (rfl) h) ?_)
   refine vN rfl (fun _=>vQ rfl rfl rfl (by omega) (by omega)) ?_
   refine zj J Y (z5 ⟨(y6 J Y J J J (y6 J Y J J J (wV rfl (fun _ h=>wF rfl rfl (by omega) (rfl) h) rfl rfl (z3 _ (nU M.okA _ _)) z6))),?_⟩)
   refine QD rfl rfl rfl rfl (zo _ _ _) (xv M _ _) (by omega) ?_
   refine zF (z4 (z5 ⟨z6,?_⟩))
   refine OX 5 J (zE J J J (⟨_,⟨yC ?_,rfl⟩,?_⟩))
   ·simp;omega
   exact Sub.mk2 (yr (hM.copy f t) (M.copy_n f t).symm fun j _=>f9 M f t h9 h14 _ _ (by omega) (by omega) j) Y
  refine Z 9 J (zE J J J (⟨_,⟨yC ?_,rfl⟩,?_⟩))
  ·simp;omega
  unfold zA.copy;rw [if_neg (by omega)];exact Sub.mk2 (yr hM rfl fun _ _=>rfl) Y
 refine Z 14 J (zE J J J (⟨_,⟨yC ?_,rfl⟩,?_⟩))
 ·simp;omega
 unfold zA.copy;rw [if_neg (by omega)];exact Sub.mk2 (yr hM rfl fun _ _=>rfl) Y
theorem qD (m:Nat) (M:zA): ∀h,zQ m M h→M.Ok:=fun _ h=>h.choose_spec.1
def zA.new (n:Nat):zA:=⟨n,fun _ _=>0,fun _=>0,fun _=> -1⟩
def BI (_:Unit):List AVal:= [vu 0,vu 0,vu 0,vu 0,vu 0,vu 0,vu 0,vu 0,vi 0,vi (-1)]
theorem cl: ∀(n j:Nat),j<n*10→((List.replicate n ()).flatMap BI)[j]? =some ((zA.new n).cell j):=by
 intro n j hj
 have h1:(List.replicate n ())[j/10]? =some ():=by rw [List.getElem?_replicate,if_pos (by omega)]
 have h2:=j0 (en:=BI) (es:=10) (fun _=>rfl) (List.replicate n ()) (j/10) (j%10) () h1 (by omega)
 rw [show j/10*10+j%10=j by omega]at h2
 rw [h2,zA.cell_at]
 rcases(by omega:j%10=0∨j%10=1∨j%10=2∨j%10=3∨j%10=4∨j%10=5∨j%10=6∨j%10=7∨j%10=8∨j%10=9)with h|h|h|h|h|h|h|h|h|h<;>rw [h]<;>rfl
theorem ax {m i n:Nat} (h0:0<n) (h1:n≤64): ∀h,yd [ent z8 m [.slice (some (i,0)) n none 10],ent (zP BI 10) (.slice (some (i,0)) n none 10) (List.replicate n ())] h→zQ m (zA.new n) h:=by
 intro h s
 refine⟨i,⟨h0,h1,fun _ _=>Nat.zero_le _⟩,dd s fun f hf=> ?_⟩
 have hl:(List.replicate n ()).length=n:=by simp
 have:=xp (en:=BI) (es:=10) (xs:=List.replicate n ()) (i:=i) f (by rw [hl];exact hf)
 rw [hl]at this
 refine wK (fun j hj=> ?_) f this
 unfold ul;rw [cl n j hj];rfl
theorem Ai (R:List SP) (z:Int):zy 97 [vi z] (R) fun v L=> ∃m,v=vp m 0∧L=(if 0<z then ent zQ m (zA.new (min z 64).toNat)::R else R):=by
 refine SW.intro rfl Tryz.func97 rfl ?_
 refine O0 6 J (bu [_] J Y Y J (yW rfl rfl rfl rfl fun i5=> ?_))
 refine Z 6 J (zf rfl (fun _=>Js rfl rfl rfl rfl rfl) ?_)
 refine zf rfl (fun _=>Jv rfl rfl rfl rfl rfl) ?_
 refine Z 3 J (AU (J:=fun L=>L=ent (zP BI 10) (.slice none 0 (some 0) 0) ([]:List Unit)::ent z8 i5 [.slice none 0 (some 0) 0]::R) (fun h s=>⟨_,rfl,xn (fun _=>rfl) (by decide) 0 s⟩) ?_)
 rintro _ rfl
 refine zl (fun j T L=> ∃(k:Nat) (v:AVal),(mb v k 10)∧(k≤(min (max 0 z) 64).toNat)∧j=(min (max 0 z) 64).toNat-k∧T.len=2∧Tm.get 3 T=some (vp i5 0)∧Tm.get 8 T=some (vi (min (max 0 z) 64))∧Tm.get 9 T=some (vi (k:Nat))∧Sub L (ent (zP BI 10) v (List.replicate k ())::ent z8 i5 [v]::R)) ((min (max 0 z) 64).toNat) ⟨0,.slice none 0 (some 0) 0,.inl ⟨rfl,rfl⟩,by omega,by omega,rfl,rfl,rfl,rfl,Sub.refl _⟩ ?_
 rintro j T L0 ⟨k,v,hv,hk,rfl,hl,g3,g8,g9,hsb⟩
 obtain⟨tg,rfl⟩:=sA hl g3 g8 g9
 clear hl g3 g8 g9
 refine zu hsb ?_
 clear hsb L0
 refine O0 3 J (z0 (fun h10=> ?_) (fun h10=> ?_))
 ·refine Z 10 J (fa J Y (ld J Y J (bu [_,_,_,_,_,_,_,_,_,_] J Y Y J (zT (cs:= [_,_,_,_,_,_,_,_,_,_]) rfl rfl rfl (by decide) rfl fun i17=> ?_))))
  refine kU rfl rfl rfl rfl rfl rfl rfl ([()]) rfl rfl (by simp) (hv.nc) (by simp;omega) rfl fun i18=> ?_
  refine Z 1 J (fa J Y (sO J Y J J J (Z 2 J (ad J (Z 2 J ?_)))))
  exact Or.inl ⟨rfl,_,by omega,k+1,.slice (some (i18,0)) ((List.replicate k ()).length+1) none 10,.inr ⟨i18,by simp⟩,by omega,rfl,rfl,rfl,rfl,rfl,(by rw [List.replicate_succ'];exact Y)⟩
 refine Z 4 J (Or.inr ⟨nofun,?_⟩)
 refine OX 6 J (zE J J J ?_)
 have hk2:k=(min (max 0 z) 64).toNat:=by omega
 refine⟨_,⟨i5,rfl,rfl⟩,?_⟩
 split
 ·rcases hv with⟨rfl,h0⟩|⟨i,rfl⟩
  ·omega
  have e:(min z 64).toNat=k:=by omega
  rw [e]
  exact Sub.mk2 (ax (by omega) (by omega)) Y
 exact Y
end Go.Proofs.YtlhcpplnlgehbaaGreat
