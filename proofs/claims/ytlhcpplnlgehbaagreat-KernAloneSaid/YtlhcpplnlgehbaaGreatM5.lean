/- Part of the proof: KEntry, KPool, KArea, KSwap, KSched, KPcid, KSlices, KWalk. Names and blanks are cut short to keep within the size of a claim. -/
import Derived.Test.YtlhcpplnlgehbaaGreatM4
set_option linter.unusedVariables false
set_option linter.unusedSimpArgs false
set_option maxRecDepth 100000
namespace Go.Proofs.YtlhcpplnlgehbaaGreat
open Go Go.RowKit Go.Px
def nS (b:Bool) (x:Nat):Nat:=if b then x else 0
def bV (x:Nat):Nat:=Nat.land (x/4096) 1099511627775
theorem tc (x:Nat):bV x<1099511627776:=by
 have:bV x≤1099511627775:=Nat.and_le_right
 omega
abbrev Xw (p w u g:Bool) (f:Int):List z0:= [.bool p,.bool w,.bool u,.bool g,vi f]
abbrev H7 (p w u g:Bool) (f:Int):z0:= .agg (Xw p w u g f)
def eN (x:Nat):Int:=if Nat.land x 1=0 then 3 else if Nat.xor x (Nat.land x 4503599627366663)≠0 then 2 else 0
def wB (x:Nat):Bool:=if eN x=0 then decide (Nat.land x 2≠0)else false
def uB (x:Nat):Bool:=if eN x=0 then decide (Nat.land x 4≠0)else false
def gB (x:Nat):Bool:=if eN x=0 then decide (Nat.land x 256≠0)else false
def fN (x:Nat):Nat:=if eN x=0 then bV x else 0
theorem CF (x:Nat):fN x<1099511627776:=by
 unfold fN;split
 ·exact tc x
 omega
def wZ (w u g:Bool) (f:Nat):Nat:=Nat.lor (Nat.lor (Nat.lor (Nat.lor 1 (nS w 2)) (nS u 4)) (nS g 256)) (f*2^12)
theorem DK (w u g:Bool):Nat.lor (Nat.lor (Nat.lor 1 (nS w 2)) (nS u 4)) (nS g 256)<4096:=by cases w<;>cases u<;>cases g<;>decide
theorem rP (w u gl:Bool) (f:Nat) (hf:f<1099511627776):wZ w u gl f≤18446744073709551615:=by
 have h1:wZ w u gl f<2^52:=by
  refine Nat.or_lt_two_pow (Nat.lt_of_lt_of_le (DK w u gl) (by decide)) ?_
  omega
 omega
def m8 (x:Nat) (b:Bool):Nat:=if b then Nat.xor x 4503599627366400 else x
def V9 (f:Nat) (b:Bool):Nat:=m8 (Nat.land f 1099511627775*2^12) b
theorem FI {a b:Nat} (ha:a≤18446744073709551615) (hb:b≤18446744073709551615):Nat.xor a b≤18446744073709551615:=by
 have:Nat.xor a b<2^64:=Nat.xor_lt_two_pow (by omega) (by omega)
 omega
theorem Ef {x:Nat} (hx:x≤18446744073709551615) (b:Bool):m8 x b≤18446744073709551615:=by
 unfold m8;split
 ·exact FI hx (by decide)
 exact hx
theorem xL (f:Nat) (b:Bool):V9 f b≤18446744073709551615:=by
 refine Ef ?_ b
 have:Nat.land f 1099511627775≤1099511627775:=Nat.and_le_right
 omega
theorem mb (R:List SP) (b:Bool) (x:Nat):yH 263 [.bool b,vu x] (R) fun v L=>v=vu (nS b x)∧L=R:=by
 refine SW.intro rfl Tryz.func263 rfl ?_
 refine O0 8 J (zV (fun h5=> ?_) (fun h5=> ?_))
 ·refine Z 8 J (zI J J J (⟨_,⟨?_,rfl⟩,Y⟩))
  simp [nS,h5]
 refine Z 8 J (zI J J J (⟨_,⟨?_,rfl⟩,Y⟩))
 simp [nS,h5]
theorem Lr (R:List SP) (x:Nat) (hx:x≤18446744073709551615):yH 243 [vu x] (R) fun v L=>v=vi (bV x:Nat)∧L=R:=by
 have hr:=tc x
 refine SW.intro rfl Tryz.func243 rfl ?_
 refine O0 7 J (zo rfl (fun _=>zG rfl rfl rfl (nw (b:=12) (by decide) (by decide))) ?_)
 refine zo rfl (fun _=>zG rfl rfl rfl (gC (op:= .and) (b:=1099511627775) rfl (Nat.le_trans (Nat.div_le_self _ _) hx) (by decide))) ?_
 refine zo rfl (fun _=>qy rfl rfl (vz ⟨Int.le_trans (by decide) (Int.natCast_nonneg (bV x)),by show((bV x:Nat):Int)≤_;omega⟩)) ?_
 exact Z 3 J (zI J J J fq)
theorem bq (R:List SP) (x:Nat) (hx:x≤18446744073709551615):yH 242 [vu x] (R) fun v L=>v= .tuple [H7 (decide (eN x=0)) (wB x) (uB x) (gB x) (fN x:Nat),vi (eN x)]∧L=R:=by
 refine SW.intro rfl Tryz.func242 rfl ?_
 refine O0 2 J (zn rfl rfl rfl fun i2=> ?_)
 refine Z 6 J (zo rfl (fun _=>zG rfl rfl rfl (gC (op:= .and) (b:=1) rfl hx (by decide))) ?_)
 refine Z 1 J (z5 (fun h6=> ?_) (fun h6=> ?_))
 ·refine Z 4 J (bu [_,_,_,_,_] J Y Y J (sN J Y Y J J J (Z 3 J (⟨.inr rfl,_,fun _ h=>(zu (yQ rfl (yo rfl (Nat.le_of_ble_eq_true rfl) h)) (zu (zm rfl) qY)),?_⟩))))
  refine⟨_,⟨?_,rfl⟩,Y⟩
  have e:eN x=3:=if_pos (by omega)
  unfold wB uB gB fN;rw [e];rfl
 refine Z 7 J (zo rfl (fun _=>zG rfl rfl rfl (gC (op:= .andNot) (b:=4503599627366663) rfl hx (by decide))) ?_)
 refine Z 1 J (z5 (fun GV=> ?_) (fun GV=> ?_))
 ·refine Z 4 J (bu [_,_,_,_,_] J Y Y J (sN J Y Y J J J (Z 3 J (⟨.inr rfl,_,fun _ h=>(zu (yQ rfl (yo rfl (Nat.le_of_ble_eq_true rfl) h)) (zu (zm rfl) qY)),?_⟩))))
  refine⟨_,⟨?_,rfl⟩,Y⟩
  have e:eN x=2:=by { unfold eN;rw [if_neg (by omega),if_pos (by omega)] }
  unfold wB uB gB fN;rw [e];rfl
 refine Z 6 J (zo rfl (fun _=>zG rfl rfl rfl (gC (op:= .and) (b:=2) rfl hx (by decide))) ?_)
 refine Z 2 J (zo rfl (fun _=>zG rfl rfl rfl (gC (op:= .and) (b:=4) rfl hx (by decide))) ?_)
 refine Z 2 J (zo rfl (fun _=>zG rfl rfl rfl (gC (op:= .and) (b:=256) rfl hx (by decide))) ?_)
 refine Z 2 J (Z0 (Lr _ _ (by omega)) J (bu [_,_,_,_,_] J Y Y J (sN J Y Y J J J (Z 3 J (⟨.inr rfl,_,fun _ h=>(zu (yQ rfl (yo rfl (Nat.le_of_ble_eq_true rfl) h)) (zu (zm rfl) qY)),?_⟩)))))
 refine⟨_,⟨?_,rfl⟩,Y⟩
 have e:eN x=0:=by { unfold eN;rw [if_neg (by omega),if_neg (by omega)] }
 have hd: ∀n:Nat,decide ((n:Int)≠0)=decide (n≠0):=fun n=>by { rw [decide_eq_decide];omega }
 unfold wB uB gB fN;rw [e,←hd,←hd,←hd];rfl
theorem sY (R:List SP) (w u g:Bool) (f:Nat) (hf:f<1099511627776):yH 244 [H7 true w u g (f:Int)] (R) fun v L=>v= .tuple [vu (wZ w u g f),vi 0]∧L=R:=by
 have pX:nS w 2≤18446744073709551615:=by cases w<;>decide
 have kg:Nat.lor 1 (nS w 2)≤18446744073709551615:=by cases w<;>decide
 have HQ:nS u 4≤18446744073709551615:=by cases u<;>decide
 have P7:Nat.lor (Nat.lor 1 (nS w 2)) (nS u 4)≤18446744073709551615:=by cases w<;>cases u<;>decide
 have hb5:nS g 256≤18446744073709551615:=by cases g<;>decide
 have hb6:Nat.lor (Nat.lor (Nat.lor 1 (nS w 2)) (nS u 4)) (nS g 256)≤18446744073709551615:=by have:=DK w u g;omega
 have hb7:f*2^12≤18446744073709551615:=by omega
 refine SW.intro rfl Tryz.func244 rfl ?_
 refine O0 2 J (yu rfl rfl rfl rfl fun i1=> ?_)
 refine Z 6 J (fa J Y (ld J Y J (Z 2 J (fa J Y (ld J Y J (zo rfl (fun _=>zG rfl rfl rfl (Ui rfl)) (qm (by omega) ?_)))))))
 refine Z 2 J (fa J Y (ld J Y J (zo rfl (fun _=>zG rfl rfl rfl (pF rfl)) (qm (by omega) ?_))))
 refine Z 5 J (zW [0,1,3,7,0,16,55,127,0,256,887,2047,0,4096,12288,28672,65535,131071,262143] [([0,1,4,5,8,9,12,13,14,15],[1,5,9,13,14,15],some 2),([3],[5,9,13,14,15,3],some 6),([7],[9,13,14,15,3,7],some 10),([11,16,17,18],[13,14,15,3,7,11,16],none)] (by kernel_rfl) ?_)
 refine z7 (zx J Y (q9 J Y J (zx J Y (q9 J Y J (zx J Y (q9 J Y J (zx J Y (q9 J Y J (uc rfl (fun _=>qy rfl rfl (qR (by omega))) ?_)))))))))
 refine uc rfl (fun _=>zG rfl rfl rfl (pH (b:=12) (by decide) (by omega))) ?_
 refine z8 ⟨(yN J Y J J J (yN J Y J J J (yN J Y J J J (yN J Y J J J (uR rfl (fun _=>qy rfl rfl (qR (by omega))) rfl rfl (z6 _ rfl) (uR rfl (fun _=>zG rfl rfl rfl (pH (b:=12) (by decide) (by omega))) rfl rfl (z6 _ rfl) z9)))))),?_⟩
 refine Z0 (mb _ w 2) J (zJ (z7 (uc rfl (fun _=>zG rfl rfl rfl (gC (op:= .or) (a:=1) rfl (by decide) pX)) ?_)))
 refine z8 ⟨(yN J Y J J J (yN J Y J J J (yN J Y J J J (uR rfl (fun _=>qy rfl rfl (qR (by omega))) rfl rfl (z6 _ rfl) (uR rfl (fun _=>zG rfl rfl rfl (pH (b:=12) (by decide) (by omega))) rfl rfl (z6 _ rfl) (uR rfl (fun _=>zG rfl rfl rfl (gC (op:= .or) (a:=1) rfl (by decide) pX)) rfl rfl (z6 _ rfl) z9)))))),?_⟩
 refine Z0 (mb _ u 4) J (zJ (z7 (uc rfl (fun _=>zG rfl rfl rfl (gC (op:= .or) rfl kg HQ)) ?_)))
 refine z8 ⟨(yN J Y J J J (yN J Y J J J (uR rfl (fun _=>qy rfl rfl (qR (by omega))) rfl rfl (z6 _ rfl) (uR rfl (fun _=>zG rfl rfl rfl (pH (b:=12) (by decide) (by omega))) rfl rfl (z6 _ rfl) (uR rfl (fun _=>zG rfl rfl rfl (gC (op:= .or) (a:=1) rfl (by decide) pX)) rfl rfl (z6 _ rfl) (uR rfl (fun _=>zG rfl rfl rfl (gC (op:= .or) rfl kg HQ)) rfl rfl (z6 _ rfl) z9)))))),?_⟩
 refine Z0 (mb _ g 256) J (zJ (z7 (uc rfl (fun _=>zG rfl rfl rfl (gC (op:= .or) rfl P7 hb5)) ?_)))
 refine uc rfl (fun _=>zG rfl rfl rfl (gC (op:= .or) rfl hb6 hb7)) ?_
 refine ZK 2 J (z8 ⟨(yN J Y J J J (uR rfl (fun _=>qy rfl rfl (qR (by omega))) rfl rfl (z6 _ rfl) (uR rfl (fun _=>zG rfl rfl rfl (pH (b:=12) (by decide) (by omega))) rfl rfl (z6 _ rfl) (uR rfl (fun _=>zG rfl rfl rfl (gC (op:= .or) (a:=1) rfl (by decide) pX)) rfl rfl (z6 _ rfl) (uR rfl (fun _=>zG rfl rfl rfl (gC (op:= .or) rfl kg HQ)) rfl rfl (z6 _ rfl) (uR rfl (fun _=>zG rfl rfl rfl (gC (op:= .or) rfl P7 hb5)) rfl rfl (z6 _ rfl) (uR rfl (fun _=>zG rfl rfl rfl (gC (op:= .or) rfl hb6 hb7)) rfl rfl (z6 _ rfl) z9))))))),?_⟩)
 exact OX 1 J (qt J J J J fq)
theorem OS (R:List SP) (x:Nat) (b:Bool) (hx:x≤18446744073709551615):yH 267 [vu x,.bool b] (R) fun v L=>v=vu (m8 x b)∧L=R:=by
 refine SW.intro rfl Tryz.func267 rfl ?_
 refine O0 8 J (zV (fun h5=> ?_) (fun h5=> ?_))
 ·refine Z 5 J (zo rfl (fun _=>zG rfl rfl rfl (gC (op:= .xor) (b:=4503599627366400) rfl hx (by decide))) ?_)
  refine Z 3 J (zI J J J (⟨_,⟨?_,rfl⟩,Y⟩))
  simp [m8,h5]
 refine Z 9 J (zI J J J (⟨_,⟨?_,rfl⟩,Y⟩))
 simp [m8,h5]
theorem ni (R:List SP) (f:Nat) (b:Bool) (hf:f≤9223372036854775807):yH 265 [vi (f:Nat),.bool b] (R) fun v L=>v=vu (V9 f b)∧L=R:=by
 have hl:Nat.land f 1099511627775≤1099511627775:=Nat.and_le_right
 refine SW.intro rfl Tryz.func265 rfl ?_
 refine O0 7 J (zo rfl (fun _=>qy rfl rfl (qR (by omega))) ?_)
 refine zo rfl (fun _=>zG rfl rfl rfl (gC (op:= .and) (b:=1099511627775) rfl (by omega) (by decide))) ?_
 refine zo rfl (fun _=>zG rfl rfl rfl (pH (b:=12) (by decide) (by omega))) ?_
 exact Z 1 J (Z0 (OS _ _ _ (by omega)) J (Z 3 J (zI J J J fq)))
abbrev cnt (l:List (Int×Int)) (z:Int):Int:=(qH l z).getD 0
theorem Wb (l:List (Int×Int)) (z v y:Int):cnt (wG l z v) y=if y=z then v else cnt l y:=by
 unfold cnt;rw [rE];split<;>rfl
structure pC where
 m:Nat
 refs:List (Int×Int)
def pC.Ok (p:pC):Prop:= ∀z,0≤cnt p.refs z∧cnt p.refs z<4294967296
abbrev bR (a:Nat) (p:pC) (i:Nat):List SP:= [z3 zC a [vp p.m 0,.map (some i)],z3 ZM i p.refs]
def zi (a:Nat) (p:pC):SP:=fun h=> ∃i,p.Ok∧Sat (bR a p i) h
theorem YA (a:Nat) (p:pC): ∀h,zi a p h→ ∃i,p.Ok∧Sat (bR a p i) h:=fun _ h=>h
theorem qv {a i:Nat} {p:pC} (hp:p.Ok): ∀h,Sat [z3 zC a [vp p.m 0,.map (some i)],z3 ZM i p.refs] h→zi a p h:=fun _ s=>⟨i,hp,s⟩
def zF.least (M:zF):Nat→Nat→Option Nat
 |_,0=>none
 |f,k+1=>if M.cls f=0 then some f else M.least (f+1) k
def zF.first (M:zF):Option Nat:=M.least 15 (M.n-15)
def zF.free (M:zF):Nat→Nat→Nat
 |_,0=>0
 |f,k+1=>(if M.cls f=0 then 1 else 0)+M.free (f+1) k
def zF.left (M:zF):Nat:=M.free 15 (M.n-15)
theorem zF.HD (M:zF): ∀k f,M.free f k≤k:=by
 intro k
 induction k with
 |zero=>intro f;exact Nat.le_refl _
 |succ k ih=>
  intro f
  have:=ih (f+1)
  show(if M.cls f=0 then 1 else 0)+_≤_
  split<;>omega
theorem zF.DH (M:zF): ∀k f g,M.least f k=some g→f≤g∧g<f+k∧M.cls g=0:=by
 intro k
 induction k with
 |zero=>intro f g h;cases h
 |succ k ih=>
  intro f g h
  have h:(if M.cls f=0 then some f else M.least (f+1) k)=some g:=h
  by_cases e:M.cls f=0
  ·rw [if_pos e]at h;cases h;exact⟨Nat.le_refl _,by omega,e⟩
  rw [if_neg e]at h;have:=ih _ _ h;exact⟨by omega,by omega,this.2.2⟩
structure PM where
 M:zF
 R:List (Int×Int)
def PM.got (s:PM):Nat:=s.M.first.getD 0
def PM.take (s:PM) (c w:Int):PM:=match s.M.first with
 |some f=>⟨s.M.mark (f:Nat) c w,wG s.R (f:Nat) 1⟩
 |none=>s
def PM.jO (s:PM) (z:Int):PM:=if cnt s.R z=0 then s else⟨if cnt s.R z=1 then(s.M.zero z).mark z 0 (-1)else s.M,wG s.R z (cnt s.R z-1)⟩
def PM.share (s:PM) (z:Int):PM:=if cnt s.R z=0 then s else⟨s.M,wG s.R z (cnt s.R z+1)⟩
def L4 (R:List (Int×Int)):Prop:= ∀z,0≤cnt R z∧cnt R z<4294967296
theorem L4.wG {R:List (Int×Int)} (h:L4 R) {v:Int} (h0:0≤v) (h1:v<4294967296) (z:Int):L4 (wG R z v):=fun y=>by
 rw [Wb];split
 ·exact⟨h0,h1⟩
 exact h y
theorem zF.Zf {M:zF} {f:Nat} (h:f<M.n):M.class (f:Nat)=M.cls f:=by
 unfold zF.class;rw [if_pos (by omega)];rfl
theorem PM.Wn (s:PM):s.got≤s.M.n:=by
 unfold PM.got zF.first
 cases h:s.M.least 15 (s.M.n-15)with
 |none=>exact Nat.zero_le _
 |some f=>have:=s.M.DH _ _ _ h;show f≤_;omega
theorem PM.V6 (s:PM) (c w:Int):(s.take c w).M.n=s.M.n:=by unfold PM.take;split<;>first|rfl|exact zF.DM _ _ _ _
theorem PM.CQ (s:PM) (z:Int):(s.jO z).M.n=s.M.n:=by
 unfold PM.jO;split
 ·rfl
 show(if cnt s.R z=1 then(s.M.zero z).mark z 0 (-1)else s.M).n=_
 split
 ·rw [zF.DM,zF.FJ]
 rfl
theorem td (R:List SP) (p m:Nat) (Rf:List (Int×Int)) (z:Int):yH 224 [vp p 0,vi z] (z3 zi p ⟨m,Rf⟩::R) fun v L=>v=vi (cnt Rf z)∧L=z3 zi p ⟨m,Rf⟩::R:=by
 refine ze (YA p ⟨m,Rf⟩) fun i hp=> ?_
 dsimp only [bR,List.cons_append,List.nil_append]
 refine SW.intro rfl Tryz.func224 rfl ?_
 refine O0 8 J (fa J Y (ld J Y J (Z 1 J (qJ rfl (fun _ h=>jQ rfl rfl rfl h) ?_))))
 exact Z 3 J (zI J J J ⟨_,⟨rfl,rfl⟩,Sub.qi (qv (p:=⟨m,Rf⟩) hp) Y⟩)
theorem bG (R:List SP) (p m:Nat) (Rf:List (Int×Int)) (M:zF):yH 51 [vp p 0] (z3 zi p ⟨m,Rf⟩::z3 zY m M::R) fun v L=>v=vi (M.left:Nat)∧L=z3 zi p ⟨m,Rf⟩::z3 zY m M::R:=by
 refine ze (YA p ⟨m,Rf⟩) fun i hp=> ?_
 dsimp only [bR,List.cons_append,List.nil_append]
 refine yl (p:=M.Ok) (qf m M) fun hM=> ?_
 have VJ:=hM.1
 have Vk:=hM.2.1
 have XO:=M.HD (M.n-15) 15
 refine SW.intro rfl Tryz.func51 rfl ?_
 refine O0 14 J (zy (fun j T L=> ∃(f c:Nat),(15≤f∧f≤max M.n 15)∧(c+M.free f (M.n-f)=M.left)∧(c≤f)∧j=M.n-f∧T.len=2∧Tm.get 0 T=some (vp p 0)∧Tm.get 3 T=some (vi (c:Nat))∧Tm.get 4 T=some (vi (f:Nat))∧Sub L (z3 zC p [vp m 0,.map (some i)]::z3 ZM i Rf::z3 zY m M::R)) (M.n-15) ⟨15,0,by omega,by simp [zF.left],by omega,by omega,rfl,rfl,rfl,rfl,Y⟩ ?_)
 rintro j T L0 ⟨f,c,hf,hc,hcf,rfl,hl,g0,g3,g4,yU⟩
 obtain⟨tg,rfl⟩:=FV hl g0 g3 g4
 clear hl g0 g3 g4
 refine yE yU ?_
 clear yU L0
 refine O0 6 J (fa J Y (ld J Y J (Z1 (gL _ _ _) J Y (Z 1 J (z5 (fun Gq=> ?_) (fun Gq=> ?_))))))
 ·refine Z 9 J (fa J Y (ld J Y J (Z 1 J (Z1 (mX _ _ _ _) J Y (Z 1 J (z5 (fun Ua=> ?_) (fun Ua=> ?_)))))))
  ·refine Z 4 J (ad J (Z 4 J (ad J (Z 2 J ?_))))
   have hs:M.n-f=(M.n-(f+1))+1:=by omega
   rw [hs]at hc
   have hc:c+((if M.cls f=0 then 1 else 0)+M.free (f+1) (M.n-(f+1)))=M.left:=hc
   rw [if_pos (by rw [zF.Zf (by omega)]at Ua;exact Ua)]at hc
   exact Or.inl ⟨rfl,_,by omega,f+1,c+1,by omega,by omega,by omega,rfl,rfl,rfl,rfl,rfl,Y⟩
  refine Z 5 J (ad J (Z 2 J ?_))
  have hs:M.n-f=(M.n-(f+1))+1:=by omega
  rw [hs]at hc
  have hc:c+((if M.cls f=0 then 1 else 0)+M.free (f+1) (M.n-(f+1)))=M.left:=hc
  rw [if_neg (by rw [zF.Zf (by omega)]at Ua;exact Ua)]at hc
  exact Or.inl ⟨rfl,_,by omega,f+1,c,by omega,by omega,by omega,rfl,rfl,rfl,rfl,rfl,Y⟩
 refine Z 3 J (Or.inr ⟨nofun,?_⟩)
 refine OX 6 J (zI J J J ?_)
 have e:M.n-f=0:=by omega
 rw [e]at hc
 have hc:c+0=M.left:=hc
 refine⟨_,⟨?_,rfl⟩,Sub.qi (qv (p:=⟨m,Rf⟩) hp) Y⟩
 rw [←hc];rfl
theorem nD (R:List SP) (p m:Nat) (Rf:List (Int×Int)) (M:zF) (c w:Int) (hc:c=1∨c=2):yH 201 [vp p 0,vi c,vi w] (z3 zi p ⟨m,Rf⟩::z3 zY m M::R) fun v L=>v= .tuple [vi ((PM.got ⟨M,Rf⟩:Nat):Int),.bool M.first.isSome]∧L=z3 zi p ⟨m,(PM.take ⟨M,Rf⟩ c w).R⟩::z3 zY m (PM.take ⟨M,Rf⟩ c w).M::R:=by
 refine ze (YA p ⟨m,Rf⟩) fun i hp=> ?_
 dsimp only [bR,List.cons_append,List.nil_append]
 refine yl (p:=M.Ok) (qf m M) fun hM=> ?_
 have VJ:=hM.1
 have Vk:=hM.2.1
 refine SW.intro rfl Tryz.func201 rfl ?_
 refine O0 10 J (z5 (fun GV=> ?_) (fun GV=> ?_))
 ·refine Z 3 J (z5 (fun ai=> ?_) (fun ai=> ?_))
  ·exact Z 9 J (qt J J J J (absurd hc (by omega)))
  refine Z 10 J (zy (fun j T L=> ∃(f:Nat),(15≤f∧f≤max M.n 15)∧(M.least f (M.n-f)=M.first)∧j=M.n-f∧T.len=3∧Tm.get 0 T=some (vp p 0)∧Tm.get 1 T=some (vi c)∧Tm.get 2 T=some (vi w)∧Tm.get 8 T=some (vi (f:Nat))∧Sub L (z3 zC p [vp m 0,.map (some i)]::z3 ZM i Rf::z3 zY m M::R)) (M.n-15) ⟨15,by omega,rfl,by omega,rfl,rfl,rfl,rfl,rfl,Y⟩ ?_)
  rintro j T L0 ⟨f,hf,G1,rfl,hl,g0,g1,g2,g8,yU⟩
  obtain⟨tg,rfl⟩:=GY hl g0 g1 g2 g8
  clear hl g0 g1 g2 g8
  refine yE yU ?_
  clear yU L0
  refine O0 6 J (fa J Y (ld J Y J (Z1 (gL _ _ _) J Y (Z 1 J (z5 (fun Vy=> ?_) (fun Vy=> ?_))))))
  ·refine Z 9 J (fa J Y (ld J Y J (Z 1 J (Z1 (mX _ _ _ _) J Y (Z 1 J (z5 (fun dj=> ?_) (fun dj=> ?_)))))))
   ·refine Z 6 J (fa J Y (ld J Y J (Z 3 J (Z1 (UO _ _ _ _ _ _) J Y (Z 5 J (fa J Y (ld J Y J (Z 1 J (Zb rfl rfl rfl rfl rfl ?_)))))))))
    refine Z 8 J (Or.inr ⟨nofun,?_⟩)
    refine qt J J J J ?_
    have hs:M.n-f=(M.n-(f+1))+1:=by omega
    rw [hs]at G1
    have G1:(if M.cls f=0 then some f else M.least (f+1) (M.n-(f+1)))=M.first:=G1
    rw [if_pos (by rw [zF.Zf (by omega)]at dj;exact dj)]at G1
    unfold PM.got PM.take;rw [←G1]
    exact⟨_,⟨rfl,rfl⟩,Sub.qi (qv (p:=⟨m,wG Rf (f:Nat) 1⟩) (L4.wG hp (by decide) (by decide) _)) Y⟩
   refine Z 5 J (ad J (Z 2 J ?_))
   have hs:M.n-f=(M.n-(f+1))+1:=by omega
   rw [hs]at G1
   have G1:(if M.cls f=0 then some f else M.least (f+1) (M.n-(f+1)))=M.first:=G1
   rw [if_neg (by rw [zF.Zf (by omega)]at dj;exact dj)]at G1
   exact Or.inl ⟨rfl,_,by omega,f+1,by omega,G1,rfl,rfl,rfl,rfl,rfl,rfl,Y⟩
  refine Z 3 J (Or.inr ⟨nofun,?_⟩)
  refine OX 6 J (qt J J J J ?_)
  have hs:M.n-f=0:=by omega
  rw [hs]at G1
  have G1:none=M.first:=G1
  unfold PM.got PM.take;rw [←G1]
  exact⟨_,⟨rfl,rfl⟩,Sub.qi (qv (p:=⟨m,Rf⟩) hp) Y⟩
 refine Z 13 J (zy (fun j T L=> ∃(f:Nat),(15≤f∧f≤max M.n 15)∧(M.least f (M.n-f)=M.first)∧j=M.n-f∧T.len=3∧Tm.get 0 T=some (vp p 0)∧Tm.get 1 T=some (vi c)∧Tm.get 2 T=some (vi w)∧Tm.get 8 T=some (vi (f:Nat))∧Sub L (z3 zC p [vp m 0,.map (some i)]::z3 ZM i Rf::z3 zY m M::R)) (M.n-15) ⟨15,by omega,rfl,by omega,rfl,rfl,rfl,rfl,rfl,Y⟩ ?_)
 rintro j T L0 ⟨f,hf,G1,rfl,hl,g0,g1,g2,g8,yU⟩
 obtain⟨tg,rfl⟩:=GY hl g0 g1 g2 g8
 clear hl g0 g1 g2 g8
 refine yE yU ?_
 clear yU L0
 refine O0 6 J (fa J Y (ld J Y J (Z1 (gL _ _ _) J Y (Z 1 J (z5 (fun Vy=> ?_) (fun Vy=> ?_))))))
 ·refine Z 9 J (fa J Y (ld J Y J (Z 1 J (Z1 (mX _ _ _ _) J Y (Z 1 J (z5 (fun dj=> ?_) (fun dj=> ?_)))))))
  ·refine Z 6 J (fa J Y (ld J Y J (Z 3 J (Z1 (UO _ _ _ _ _ _) J Y (Z 5 J (fa J Y (ld J Y J (Z 1 J (Zb rfl rfl rfl rfl rfl ?_)))))))))
   refine Z 8 J (Or.inr ⟨nofun,?_⟩)
   refine qt J J J J ?_
   have hs:M.n-f=(M.n-(f+1))+1:=by omega
   rw [hs]at G1
   have G1:(if M.cls f=0 then some f else M.least (f+1) (M.n-(f+1)))=M.first:=G1
   rw [if_pos (by rw [zF.Zf (by omega)]at dj;exact dj)]at G1
   unfold PM.got PM.take;rw [←G1]
   exact⟨_,⟨rfl,rfl⟩,Sub.qi (qv (p:=⟨m,wG Rf (f:Nat) 1⟩) (L4.wG hp (by decide) (by decide) _)) Y⟩
  refine Z 5 J (ad J (Z 2 J ?_))
  have hs:M.n-f=(M.n-(f+1))+1:=by omega
  rw [hs]at G1
  have G1:(if M.cls f=0 then some f else M.least (f+1) (M.n-(f+1)))=M.first:=G1
  rw [if_neg (by rw [zF.Zf (by omega)]at dj;exact dj)]at G1
  exact Or.inl ⟨rfl,_,by omega,f+1,by omega,G1,rfl,rfl,rfl,rfl,rfl,rfl,Y⟩
 refine Z 3 J (Or.inr ⟨nofun,?_⟩)
 refine OX 6 J (qt J J J J ?_)
 have hs:M.n-f=0:=by omega
 rw [hs]at G1
 have G1:none=M.first:=G1
 unfold PM.got PM.take;rw [←G1]
 exact⟨_,⟨rfl,rfl⟩,Sub.qi (qv (p:=⟨m,Rf⟩) hp) Y⟩
theorem cT (R:List SP) (p m:Nat) (Rf:List (Int×Int)) (M:zF) (z:Int):yH 214 [vp p 0,vi z] (z3 zi p ⟨m,Rf⟩::z3 zY m M::R) fun v L=>v= .bool (decide (cnt Rf z≠0))∧L=z3 zi p ⟨m,(PM.jO ⟨M,Rf⟩ z).R⟩::z3 zY m (PM.jO ⟨M,Rf⟩ z).M::R:=by
 refine ze (YA p ⟨m,Rf⟩) fun i hp=> ?_
 dsimp only [bR,List.cons_append,List.nil_append]
 have hz:=hp z
 have hz:0≤cnt Rf z∧cnt Rf z<4294967296:=hz
 have hc:(qH Rf z).getD 0=cnt Rf z:=rfl
 have lS: ∀v,(qH (wG Rf z v) z).getD 0=v:=fun v=>by rw [rE,if_pos rfl];rfl
 refine SW.intro rfl Tryz.func214 rfl ?_
 refine O0 9 J (fa J Y (ld J Y J (Z 1 J (qJ rfl (fun _ h=>jQ rfl rfl rfl h) ?_))))
 refine Z 1 J (z5 (fun Gq=> ?_) (fun Gq=> ?_))
 ·refine Z 7 J (zI J J J ?_)
  have e:PM.jO ⟨M,Rf⟩ z=⟨M,Rf⟩:=if_pos (show cnt Rf z=0 by omega)
  rw [e]
  refine⟨_,⟨yT ?_,rfl⟩,Sub.qi (qv (p:=⟨m,Rf⟩) hp) Y⟩
  simp;omega
 refine Z 7 J (fa J Y (ld J Y J (Z 1 J (qJ rfl (fun _ h=>jQ rfl rfl rfl h) ?_))))
 refine sb J (Zb rfl rfl rfl rfl rfl ?_)
 refine Z 6 J (fa J Y (ld J Y J (Z 1 J (qJ rfl (fun _ h=>jQ rfl rfl rfl h) ?_))))
 refine Z 1 J (z5 (fun QN=> ?_) (fun QN=> ?_))
 ·refine Z 6 J (fa J Y (ld J Y J (Z 1 J (Z1 (Oy _ _ _ _) J Y (Z 4 J (fa J Y (ld J Y J (Z 1 J (Z1 (UO _ _ _ _ _ _) J Y (Z 6 J (zI J J J ?_)))))))))))
  have e:PM.jO ⟨M,Rf⟩ z=⟨(M.zero z).mark z 0 (-1),wG Rf z (cnt Rf z-1)⟩:=by { unfold PM.jO;rw [if_neg (show¬cnt Rf z=0 by omega),if_pos (show cnt Rf z=1 by rw [lS]at QN;omega)] }
  rw [e]
  refine⟨_,⟨yT ?_,rfl⟩,Sub.qi (qv (p:=⟨m,wG Rf z (cnt Rf z-1)⟩) (L4.wG hp (by omega) (by omega) _)) Y⟩
  simp;omega
 refine Z 8 J (zI J J J ?_)
 have e:PM.jO ⟨M,Rf⟩ z=⟨M,wG Rf z (cnt Rf z-1)⟩:=by { unfold PM.jO;rw [if_neg (show¬cnt Rf z=0 by omega),if_neg (show¬cnt Rf z=1 by rw [lS]at QN;omega)] }
 rw [e]
 refine⟨_,⟨yT ?_,rfl⟩,Sub.qi (qv (p:=⟨m,wG Rf z (cnt Rf z-1)⟩) (L4.wG hp (by omega) (by omega) _)) Y⟩
 simp;omega
theorem KF (R:List SP) (p m:Nat) (Rf:List (Int×Int)) (z:Int) (hb:cnt Rf z<4294967295):yH 258 [vp p 0,vi z] (z3 zi p ⟨m,Rf⟩::R) fun v L=>v= .bool (decide (cnt Rf z≠0))∧L=z3 zi p ⟨m,(if cnt Rf z=0 then Rf else wG Rf z (cnt Rf z+1))⟩::R:=by
 refine ze (YA p ⟨m,Rf⟩) fun i hp=> ?_
 dsimp only [bR,List.cons_append,List.nil_append]
 have hz:=hp z
 have hz:0≤cnt Rf z∧cnt Rf z<4294967296:=hz
 have hc:(qH Rf z).getD 0=cnt Rf z:=rfl
 refine SW.intro rfl Tryz.func258 rfl ?_
 refine O0 9 J (fa J Y (ld J Y J (Z 1 J (qJ rfl (fun _ h=>jQ rfl rfl rfl h) ?_))))
 refine Z 1 J (z5 (fun Gq=> ?_) (fun Gq=> ?_))
 ·refine Z 7 J (zI J J J ?_)
  rw [if_pos (show cnt Rf z=0 by omega)]
  refine⟨_,⟨yT ?_,rfl⟩,Sub.qi (qv (p:=⟨m,Rf⟩) hp) Y⟩
  simp;omega
 refine Z 7 J (fa J Y (ld J Y J (Z 1 J (qJ rfl (fun _ h=>jQ rfl rfl rfl h) ?_))))
 refine ad J (Zb rfl rfl rfl rfl rfl ?_)
 refine Z 6 J (zI J J J ?_)
 rw [if_neg (show¬cnt Rf z=0 by omega)]
 refine⟨_,⟨yT ?_,rfl⟩,Sub.qi (qv (p:=⟨m,wG Rf z (cnt Rf z+1)⟩) (L4.wG hp (by omega) (by omega) _)) Y⟩
 simp;omega
theorem O6 (R:List SP) (m:Nat):yH 99 [vp m 0] (R) fun v L=> ∃p,v=vp p 0∧L=z3 zi p ⟨m,[]⟩::R:=by
 refine SW.intro rfl Tryz.func99 rfl ?_
 refine O0 7 J (sS rfl rfl fun i4=> ?_)
 refine bu [_,_] J Y Y J (yu rfl rfl rfl rfl fun i6=> ?_)
 exact Z 3 J (zI J J J ⟨_,⟨i6,rfl,rfl⟩,Sub.qi (qv (p:=⟨m,[]⟩) (fun z=>by show 0≤(0:Int)∧(0:Int)<_;omega)) Y⟩)
def lX (A:Nat→Int):Prop:= ∀j,A j= -1∨A j=0∨A j=1∨A j=3
def BM (A:Nat→Int):Nat→z0:=fun j=>vi (A j)
def wD (a:Nat) (A:Nat→Int):SP:=fun h=> ∃_:Unit,lX A∧Sat [z3 zO a (256,BM A)] h
theorem Zv (a:Nat) (A:Nat→Int): ∀h,wD a A h→ ∃_:Unit,lX A∧Sat [z3 zO a (256,BM A)] h:=fun _ h=>h
theorem ns (a:Nat) (A:Nat→Int): ∀h,wD a A h→lX A:=fun _ ⟨_,h,_⟩=>h
theorem wO {a:Nat} {A:Nat→Int} (hA:lX A) {f:Nat→z0} (e: ∀j,j<256→f j=vi (A j)): ∀h,Sat [z3 zO a (256,f)] h→wD a A h:=fun _ s=>⟨(),hA,AL s (vK e)⟩
def qb (f n:Int):Prop:=0≤f∧1≤n∧f<256∧n≤256-f
instance (f n:Int):Decidable (qb f n):=by unfold qb;infer_instance
def Vt (r:Int):Prop:=r=0∨r=1∨r=3
instance (r:Int):Decidable (Vt r):=by unfold Vt;infer_instance
def QS (A:Nat→Int) (f n:Nat) (t:Bool):Bool:=(List.range n).all fun k=>decide (A (f+k)= -1) !=t
def Vu (A:Nat→Int) (f n r:Int):Nat→Int:=fun j=>if f≤j∧j<f+n then r else A j
theorem JP (A:Nat→Int) (f n:Nat) (t:Bool):QS A f n t=true↔ ∀k,k<n→decide (A (f+k)= -1)≠t:=by simp [QS]
theorem lX.set {A:Nat→Int} (h:lX A) {r:Int} (hr:r= -1∨Vt r) (f n:Int):lX (Vu A f n r):=fun j=>by
 unfold Vu;split
 ·exact hr
 exact h j
def yz (A:Nat→Int) (f n r:Int):Int×(Nat→Int):=if¬qb f n∨ ¬Vt r then(1,A)else if QS A f.toNat n.toNat false then(0,Vu A f n r)else(4,A)
def qT (A:Nat→Int) (f n:Int):Int×(Nat→Int):=if¬qb f n then(1,A)else if QS A f.toNat n.toNat true then(0,Vu A f n (-1))else(3,A)
def yL (A:Nat→Int) (f n r:Int):Int×(Nat→Int):=if¬qb f n∨ ¬Vt r then(1,A)else if QS A f.toNat n.toNat true then(0,Vu A f n r)else(3,A)
theorem lX.add {A:Nat→Int} (h:lX A) (f n r:Int):lX (yz A f n r).2:=by
 unfold yz;split
 ·exact h
 rename_i hn
 split
 ·exact h.set (.inr (Decidable.byContradiction fun e=>hn (.inr e))) _ _
 exact h
theorem lX.cut {A:Nat→Int} (h:lX A) (f n:Int):lX (qT A f n).2:=by
 unfold qT;split
 ·exact h
 split
 ·exact h.set (.inl rfl) _ _
 exact h
def yO (A:Nat→Int) (z:Int):Int:=if 0≤z∧z<256 then(if A z.toNat= -1 then 0 else A z.toNat)else 0
def Ge (A:Nat→Int) (z:Int):Prop:=0≤z∧z<256∧A z.toNat≠ -1
instance (A:Nat→Int) (z:Int):Decidable (Ge A z):=by unfold Ge;infer_instance
theorem WV {A:Nat→Int} {z:Int} (h: ¬Ge A z):yO A z=0:=by
 unfold yO
 split
 ·split
  ·rfl
  rename_i h1 h2;exact absurd ⟨h1.1,h1.2,h2⟩ h
 rfl
def zH (A:Nat→Int) (n:Nat):List Int:=((List.range n).filter fun j=>decide (A j≠ -1)).map fun j:Nat=>(j:Int)
theorem Ug (A:Nat→Int) (n:Nat):zH A (n+1)=if A n= -1 then zH A n else zH A n++ [(n:Int)]:=by
 unfold zH
 rw [List.range_succ,List.filter_append,List.map_append]
 by_cases h:A n= -1
 ·rw [if_pos h];simp [h]
 rw [if_neg h];simp [h]
theorem jt (A:Nat→Int) (n:Nat):(zH A n).length≤n:=by
 unfold zH
 rw [List.length_map]
 exact Nat.le_trans (List.length_filter_le _ _) (by simp)
def qx:Nat→Int:=fun _=> -1
theorem oV:lX qx:=fun _=> .inl rfl
theorem nn (A:Nat→Int): ∀n k,yf (zj (BM A) k n)=true:=by
 intro n
 induction n with
 |zero=>intro k;rfl
 |succ n ih=>
  intro k
  show((BM A k).yK && yf (zj (BM A) (k+1) n))=true
  rw [ih,Bool.and_true];rfl
theorem dE (R:List SP) (f n:Int) (hn: -9223372036854775808≤n∧n≤9223372036854775807):yH 248 [vi f,vi n] (R) fun v L=>v= .bool (decide (qb f n))∧L=R:=by
 refine SW.intro rfl Tryz.func248 rfl ?_
 refine O0 8 J (z5 (fun h6=> ?_) (fun h6=> ?_))
 ·refine Z 3 J (z5 (fun h9=> ?_) (fun h9=> ?_))
  ·refine Z 4 J (z5 (fun ai=> ?_) (fun ai=> ?_))
   ·refine Z 4 J (sb J (Z 5 J (zI J J J (⟨_,⟨yT ?_,rfl⟩,Y⟩))))
    unfold qb;first|(simp;omega)|omega
   refine Z 10 J (zI J J J (⟨_,⟨yT ?_,rfl⟩,Y⟩))
   unfold qb;first|(simp;omega)|omega
  refine Z 14 J (zI J J J (⟨_,⟨yT ?_,rfl⟩,Y⟩))
  unfold qb;first|(simp;omega)|omega
 refine Z 17 J (zI J J J (⟨_,⟨yT ?_,rfl⟩,Y⟩))
 unfold qb;first|(simp;omega)|omega
theorem Lo (R:List SP) (r:Int):yH 249 [vi r] (R) fun v L=>v= .bool (decide (Vt r))∧L=R:=by
 refine SW.intro rfl Tryz.func249 rfl ?_
 refine O0 8 J (z5 (fun h4=> ?_) (fun h4=> ?_))
 ·refine Z 11 J (zI J J J (⟨_,⟨yT ?_,rfl⟩,Y⟩))
  unfold Vt;simp;omega
 refine Z 3 J (z5 (fun h7=> ?_) (fun h7=> ?_))
 ·refine Z 8 J (zI J J J (⟨_,⟨yT ?_,rfl⟩,Y⟩))
  unfold Vt;simp;omega
 refine Z 8 J (zI J J J (⟨_,⟨yT ?_,rfl⟩,Y⟩))
 unfold Vt;simp;omega
theorem mn (R:List SP) (a:Nat) (A:Nat→Int) (f n:Int) (hw:qb f n) (t:Bool):yH 250 [vp a 0,vi f,vi n,.bool t] (z3 wD a A::R) fun v L=>v= .bool (QS A f.toNat n.toNat t)∧L=z3 wD a A::R:=by
 refine ze (Zv a A) fun _ hA=> ?_
 dsimp only [List.cons_append,List.nil_append]
 obtain⟨hf0,lU,hf1,Vn⟩:=hw
 refine SW.intro rfl Tryz.func250 rfl ?_
 refine O0 9 J (fa J Y (Z 3 J (ad J (qJ rfl (fun _ h=>tB rfl rfl rfl rfl (by omega) (by omega) (by omega) (by omega) (by omega) h) ?_))))
 refine zo rfl (fun _=>vD rfl rfl rfl rfl rfl) ?_
 refine Z 3 J (zy (fun j T L=> ∃(c:Nat),(c≤n.toNat)∧(∀k,k<c→decide (A (f.toNat+k)= -1)≠t)∧j=n.toNat-c∧T.len=2∧Tm.get 3 T=some (.bool t)∧Tm.get 18 T=some (.slice (some (a,0+f.toNat*1)) ((f+n).toNat-f.toNat) (some (256-f.toNat)) 1)∧Tm.get 19 T=some (vi (((f+n).toNat-f.toNat:Nat):Int))∧Tm.get 20 T=some (vi (c:Nat))∧Sub L (z3 zO a (256,BM A)::R)) (n.toNat) ⟨0,by omega,fun k hk=>absurd hk (Nat.not_lt_zero k),by omega,rfl,rfl,rfl,rfl,rfl,Y⟩ ?_)
 rintro j T L0 ⟨c,hc,Vl,rfl,hl,g3,RK,RL,g20,yU⟩
 obtain⟨tg,rfl⟩:=GY hl g3 RK RL g20
 clear hl g3 RK RL g20
 refine yE yU ?_
 clear yU L0
 refine O0 3 J (z5 (fun Vy=> ?_) (fun Vy=> ?_))
 ·refine Z 8 J (zo rfl (fun _=>uo rfl rfl rfl (by omega) (by omega)) ?_)
  refine qJ rfl (fun _ h=>Jd rfl rfl (by omega) (rfl) h) ?_
  refine Z 7 J (zo rfl (fun _=>zG rfl rfl rfl rfl) ?_)
  refine zV (fun aj=> ?_) (fun aj=> ?_)
  ·refine Z 7 J (Or.inr ⟨nofun,?_⟩)
   refine zI J J J ?_
   have ei:(c:Int).toNat*1+(0+f.toNat*1)=f.toNat+c:=by omega
   rw [ei]at aj
   refine⟨_,⟨congrArg z0.bool ?_,rfl⟩,Sub.DS (wO hA fun _ _=>rfl) Y⟩
   cases he:QS A f.toNat n.toNat t with
   |false=>rfl
   |true=>exact absurd (eq_of_beq aj) ((JP _ _ _ _).1 he c (by omega))
  refine Z 4 J (ad J (Z 2 J ?_))
  have ei:(c:Int).toNat*1+(0+f.toNat*1)=f.toNat+c:=by omega
  rw [ei]at aj
  have hx:decide (A (f.toNat+c)= -1)≠t:=fun e=>by { rw [e]at aj;cases t<;>cases aj }
  exact Or.inl ⟨rfl,_,by omega,c+1,by omega,fun k hk=>by { rcases Nat.lt_succ_iff_lt_or_eq.1 hk with h|h;exact Vl k h;subst h;exact hx },rfl,rfl,rfl,rfl,rfl,rfl,Y⟩
 refine Z 4 J (Or.inr ⟨nofun,?_⟩)
 refine OX 5 J (zI J J J (⟨_,⟨congrArg z0.bool ?_,rfl⟩,Sub.DS (wO hA fun _ _=>rfl) Y⟩))
 exact((JP _ _ _ _).2 fun k hk=>Vl k (by omega)).symm
theorem mL (R:List SP) (a:Nat) (A:Nat→Int) (f n r:Int) (hw:qb f n) (hr:r= -1∨Vt r):yH 251 [vp a 0,vi f,vi n,vi r] (z3 wD a A::R) fun v L=>v= .tuple []∧L=z3 wD a (Vu A f n r)::R:=by
 refine ze (Zv a A) fun _ hA=> ?_
 dsimp only [List.cons_append,List.nil_append]
 obtain⟨hf0,lU,hf1,Vn⟩:=hw
 refine SW.intro rfl Tryz.func251 rfl ?_
 refine O0 6 J (zy (fun j T L=> ∃(c:Nat) (g:Nat→z0),(c≤n.toNat)∧(∀j,j<256→g j=vi (if f≤(j:Int)∧(j:Int)<f+c then r else A j))∧j=n.toNat-c∧T.len=2∧Tm.get 0 T=some (vp a 0)∧Tm.get 1 T=some (vi f)∧Tm.get 3 T=some (vi r)∧Tm.get 9 T=some (vi n)∧Tm.get 10 T=some (vi (c:Nat))∧Sub L (z3 zO a (256,g)::R)) (n.toNat) ⟨0,BM A,by omega,fun j _=>by rw [if_neg (by omega)];rfl,by omega,rfl,rfl,rfl,rfl,rfl,rfl,Y⟩ ?_)
 rintro j T L0 ⟨c,g,hc,hg,rfl,hl,g0,g1,g3,g9,YL,yU⟩
 obtain⟨tg,rfl⟩:=I3 hl g0 g1 g3 g9 YL
 clear hl g0 g1 g3 g9 YL
 refine yE yU ?_
 clear yU L0
 refine O0 3 J (z5 (fun Gq=> ?_) (fun Gq=> ?_))
 ·refine Z 15 J (ad J (Z 2 J (fa J Y (zo rfl (fun _=>zw rfl rfl rfl (by omega) (by omega)) ?_))))
  refine sF J Y J J (Z 2 J (ad J (Z 2 J ?_)))
  have dr: ∀j,j<256→upd g ((f+c).toNat+0) (vi r) j=vi (if f≤(j:Int)∧(j:Int)<f+(c+1:Nat)then r else A j):=by
   intro j hj
   unfold upd
   by_cases e:j=(f+c).toNat+0
   ·rw [if_pos e,if_pos (by omega)]
   rw [if_neg e,hg j hj];congr 1;by_cases h:f≤(j:Int)∧(j:Int)<f+c
   ·rw [if_pos h,if_pos (by omega)]
   rw [if_neg h,if_neg (by omega)]
  exact Or.inl ⟨rfl,_,by omega,c+1,_,by omega,dr,rfl,rfl,rfl,rfl,rfl,rfl,rfl,Y⟩
 refine Z 4 J (Or.inr ⟨nofun,?_⟩)
 refine wq J J (⟨_,⟨rfl,rfl⟩,Sub.DS (wO (hA.set hr f n) fun j hj=> ?_) Y⟩)
 rw [hg j hj];unfold Vu
 congr 1;by_cases h:f≤(j:Int)∧(j:Int)<f+n
 ·rw [if_pos (by omega),if_pos h]
 rw [if_neg (by omega),if_neg h]
theorem L5 (R:List SP) (a:Nat) (A:Nat→Int) (f n r:Int) (hn: -9223372036854775808≤n∧n≤9223372036854775807):yH 218 [vp a 0,vi f,vi n,vi r] (z3 wD a A::R) fun v L=>v=vi (yz A f n r).1∧L=z3 wD a (yz A f n r).2::R:=by
 refine SW.intro rfl Tryz.func218 rfl ?_
 refine O0 10 J (Z0 (dE _ _ _ (by omega)) J (z5 (fun ke=> ?_) (fun ke=> ?_)))
 ·refine Z 3 J (Z0 (Lo _ _) J (z5 (fun j4=> ?_) (fun j4=> ?_)))
  ·refine Z 10 J (Z1 (mn _ _ _ _ _ (by first|assumption|omega) _) J Y (zV (fun Ja=> ?_) (fun Ja=> ?_)))
   ·refine Z 11 J (Z1 (mL _ _ _ _ _ _ (by assumption) (by first|exact .inl rfl|exact .inr (by assumption))) J Y (Z 6 J (zI J J J ?_)))
    have e:yz A f n r=(0,Vu A f n r):=by { unfold yz;rw [if_neg (by rintro (h|h)<;>contradiction),if_pos Ja] }
    rw [e]
    exact fq
   refine Z 9 J (zI J J J ?_)
   have e:yz A f n r=(4,A):=by { unfold yz;rw [if_neg (by rintro (h|h)<;>contradiction),if_neg (by rw [Ja];nofun)] }
   rw [e]
   exact fq
  refine Z 10 J (zI J J J ?_)
  have e:yz A f n r=(1,A):=if_pos (.inr (by assumption))
  rw [e]
  exact fq
 refine Z 14 J (zI J J J ?_)
 have e:yz A f n r=(1,A):=if_pos (.inl (by assumption))
 rw [e]
 exact fq
theorem Bo (R:List SP) (a:Nat) (A:Nat→Int) (f n r:Int) (hn: -9223372036854775808≤n∧n≤9223372036854775807):yH 223 [vp a 0,vi f,vi n,vi r] (z3 wD a A::R) fun v L=>v=vi (yL A f n r).1∧L=z3 wD a (yL A f n r).2::R:=by
 refine SW.intro rfl Tryz.func223 rfl ?_
 refine O0 10 J (Z0 (dE _ _ _ (by omega)) J (z5 (fun ke=> ?_) (fun ke=> ?_)))
 ·refine Z 3 J (Z0 (Lo _ _) J (z5 (fun j4=> ?_) (fun j4=> ?_)))
  ·refine Z 10 J (Z1 (mn _ _ _ _ _ (by first|assumption|omega) _) J Y (zV (fun Ja=> ?_) (fun Ja=> ?_)))
   ·refine Z 11 J (Z1 (mL _ _ _ _ _ _ (by assumption) (by first|exact .inl rfl|exact .inr (by assumption))) J Y (Z 6 J (zI J J J ?_)))
    have e:yL A f n r=(0,Vu A f n r):=by { unfold yL;rw [if_neg (by rintro (h|h)<;>contradiction),if_pos Ja] }
    rw [e]
    exact fq
   refine Z 9 J (zI J J J ?_)
   have e:yL A f n r=(3,A):=by { unfold yL;rw [if_neg (by rintro (h|h)<;>contradiction),if_neg (by rw [Ja];nofun)] }
   rw [e]
   exact fq
  refine Z 10 J (zI J J J ?_)
  have e:yL A f n r=(1,A):=if_pos (.inr (by assumption))
  rw [e]
  exact fq
 refine Z 14 J (zI J J J ?_)
 have e:yL A f n r=(1,A):=if_pos (.inl (by assumption))
 rw [e]
 exact fq
theorem Pu (R:List SP) (a:Nat) (A:Nat→Int) (f n:Int) (hn: -9223372036854775808≤n∧n≤9223372036854775807):yH 222 [vp a 0,vi f,vi n] (z3 wD a A::R) fun v L=>v=vi (qT A f n).1∧L=z3 wD a (qT A f n).2::R:=by
 refine SW.intro rfl Tryz.func222 rfl ?_
 refine O0 10 J (Z0 (dE _ _ _ (by omega)) J (z5 (fun GV=> ?_) (fun GV=> ?_)))
 ·refine Z 9 J (Z1 (mn _ _ _ _ _ (by first|assumption|omega) _) J Y (zV (fun j4=> ?_) (fun j4=> ?_)))
  ·refine Z 10 J (Z1 (mL _ _ _ _ _ _ (by assumption) (by first|exact .inl rfl|exact .inr (by assumption))) J Y (Z 6 J (zI J J J ?_)))
   have e:qT A f n=(0,Vu A f n (-1)):=by { unfold qT;rw [if_neg (by intro h;contradiction),if_pos j4] }
   rw [e]
   exact fq
  refine Z 9 J (zI J J J ?_)
  have e:qT A f n=(3,A):=by { unfold qT;rw [if_neg (by intro h;contradiction),if_neg (by rw [j4];nofun)] }
  rw [e]
  exact fq
 refine Z 9 J (zI J J J ?_)
 have e:qT A f n=(1,A):=if_pos (by assumption)
 rw [e]
 exact fq
theorem rZ (R:List SP) (a:Nat) (A:Nat→Int) (z:Int):yH 232 [vp a 0,vi z] (z3 wD a A::R) fun v L=>v= .tuple [vi (yO A z),.bool (decide (Ge A z))]∧L=z3 wD a A::R:=by
 refine ze (Zv a A) fun _ hA=> ?_
 dsimp only [List.cons_append,List.nil_append]
 refine SW.intro rfl Tryz.func232 rfl ?_
 refine O0 10 J (z5 (fun h7=> ?_) (fun h7=> ?_))
 ·refine Z 21 J (qt J J J J ?_)
  have e2: ¬Ge A z:=fun h=>by { have:=h.2.2;have:=h.1;have:=h.2.1;first|omega|contradiction }
  rw [WV e2,decide_eq_false e2]
  exact⟨_,⟨rfl,rfl⟩,Sub.DS (wO hA fun _ _=>rfl) Y⟩
 refine Z 3 J (z5 (fun GV=> ?_) (fun GV=> ?_))
 ·refine Z 18 J (qt J J J J ?_)
  have e2: ¬Ge A z:=fun h=>by { have:=h.2.2;have:=h.1;have:=h.2.1;first|omega|contradiction }
  rw [WV e2,decide_eq_false e2]
  exact⟨_,⟨rfl,rfl⟩,Sub.DS (wO hA fun _ _=>rfl) Y⟩
 refine Z 5 J (fa J Y (zo rfl (fun _=>zw rfl rfl rfl (by omega) (by omega)) ?_))
 refine qJ rfl (fun _ h=>Jd rfl rfl (by omega) (rfl) h) ?_
 refine Z 1 J (z5 (fun VI=> ?_) (fun VI=> ?_))
 ·refine Z 9 J (qt J J J J ?_)
  have e2: ¬Ge A z:=fun h=>by { have:=h.2.2;have:=h.1;have:=h.2.1;first|omega|contradiction }
  rw [WV e2,decide_eq_false e2]
  exact⟨_,⟨rfl,rfl⟩,Sub.DS (wO hA fun _ _=>rfl) Y⟩
 refine Z 9 J (fa J Y (zo rfl (fun _=>zw rfl rfl rfl (by omega) (by omega)) ?_))
 refine qJ rfl (fun _ h=>Jd rfl rfl (by omega) (rfl) h) ?_
 refine Z 4 J (qt J J J J ?_)
 have e1:yO A z=A z.toNat:=by { unfold yO;rw [if_pos (by omega),if_neg (show¬A z.toNat= -1 by assumption)] }
 have e2:Ge A z:=⟨by omega,by omega,by assumption⟩
 rw [e1,decide_eq_true e2]
 exact⟨_,⟨rfl,rfl⟩,Sub.DS (wO hA fun _ _=>rfl) Y⟩
theorem nr (R:List SP) (a:Nat) (A:Nat→Int):yH 175 [vp a 0] (z3 wD a A::R) fun v L=> ∃w,v=w∧Own w (zH A 256).length 1∧L=z3 (zX ye 1) w (zH A 256)::z3 wD a A::R:=by
 refine ze (Zv a A) fun _ hA=> ?_
 dsimp only [List.cons_append,List.nil_append]
 refine SW.intro rfl Tryz.func175 rfl ?_
 refine O0 13 J (fa J Y (qJ rfl (fun _ h=>vB rfl rfl (by omega) (rfl) h) ?_))
 refine Z 3 J (yE (Sub.jF (en:=ye) (es:=1) QZ (by decide) 0 _) ?_)
 refine zy (fun j T L=> ∃(c:Nat) (w:z0),(c≤256)∧(Own w (zH A c).length 1)∧j=256-c∧T.len=2∧Tm.get 3 T=some (w)∧Tm.get 9 T=some (.agg (zj (BM A) (0+0) 256))∧Tm.get 10 T=some (vi (c:Nat))∧Sub L (z3 (zX ye 1) w (zH A c)::z3 zO a (256,BM A)::R)) (256) ⟨0,.slice none 0 (some 0) 0,by omega,Own.nil 1,by omega,rfl,rfl,rfl,rfl,Sub.refl _⟩ ?_
 rintro j T L0 ⟨c,w,hc,hv,rfl,hl,g3,g9,YL,yU⟩
 obtain⟨tg,rfl⟩:=FV hl g3 g9 YL
 clear hl g3 g9 YL
 refine yE yU ?_
 clear yU L0
 refine O0 3 J (z5 (fun Gq=> ?_) (fun Gq=> ?_))
 ·refine Z 9 J (zo rfl (fun _=>bg rfl rfl rfl (by omega) (by omega) (y7 _ _ _ _ (by omega))) ?_)
  refine Z 7 J (z5 (fun YM=> ?_) (fun YM=> ?_))
  ·refine Z 5 J (zf (cs:= [_]) rfl rfl rfl (by decide) rfl fun i18=> ?_)
   refine tS rfl rfl rfl rfl rfl rfl rfl ([(c:Int)]) rfl rfl (by simp) (hv.nc) (by have:=jt A c;simp;omega) rfl fun i19=> ?_
   refine Z 3 J (ad J (Z 2 J ?_))
   have hs:=Ug A c
   have ei:(0+0+(c:Int).toNat)=c:=by omega
   rw [ei]at YM
   have YM:A c≠ -1:=YM
   rw [if_neg YM]at hs
   exact Or.inl ⟨rfl,_,by omega,c+1,.slice (some (i19,0)) ((zH A c).length+1) none 1,by omega,by rw [hs];exact .inr ⟨i19,by simp⟩,rfl,rfl,rfl,rfl,rfl,(by rw [hs];exact Y)⟩
  refine Z 4 J (ad J (Z 2 J ?_))
  have hs:=Ug A c
  have ei:(0+0+(c:Int).toNat)=c:=by omega
  rw [ei]at YM
  have YM: ¬A c≠ -1:=YM
  rw [if_pos (by omega)]at hs
  exact Or.inl ⟨rfl,_,by omega,c+1,w,by omega,by rw [hs];exact hv,rfl,rfl,rfl,rfl,rfl,(by rw [hs];exact Y)⟩
 refine Z 4 J (Or.inr ⟨nofun,?_⟩)
 refine OX 6 J (zI J J J ?_)
 have e:c=256:=by omega
 subst e
 exact⟨_,⟨w,rfl,hv,rfl⟩,Sub.get rfl (Sub.DS (wO hA fun _ _=>rfl) Y)⟩
theorem BL (R:List SP):yH 108 [] (R) fun v L=> ∃a,v=vp a 0∧L=z3 wD a qx::R:=by
 refine SW.intro rfl Tryz.func108 rfl ?_
 refine O0 6 J (zo rfl (fun _=>bd rfl rfl rfl) ?_)
 refine yu rfl rfl rfl rfl fun i4=> ?_
 refine Z 8 J (yE (M:=z3 zO i4 (256,fun _=>vi 0)::R) (Sub.one (vE (cs:=List.replicate 256 (vi 0)) (f:=fun _=>vi 0) fun j hj=>sh hj)) ?_)
 refine zy (fun j T L=> ∃(c:Nat) (g:Nat→z0),(c≤256)∧(∀j,j<c→g j=vi (-1))∧j=256-c∧T.len=1∧Tm.get 1 T=some (vp i4 0)∧Tm.get 5 T=some (vi (c:Nat))∧Sub L (z3 zO i4 (256,g)::R)) (256) ⟨0,fun _=>vi 0,by omega,fun j h=>absurd h (Nat.not_lt_zero j),by omega,rfl,rfl,rfl,Y⟩ ?_
 rintro j T L0 ⟨c,g,hc,hg,rfl,hl,g1,g5,yU⟩
 obtain⟨tg,rfl⟩:=lp2 hl g1 g5
 clear hl g1 g5
 refine yE yU ?_
 clear yU L0
 refine O0 3 J (z5 (fun h6=> ?_) (fun h6=> ?_))
 ·refine Z 15 J (fa J Y (zo rfl (fun _=>zw rfl rfl rfl (by omega) (by omega)) ?_))
  refine sF J Y J J (Z 2 J (ad J (Z 2 J ?_)))
  have dr: ∀j,j<c+1→upd g ((c:Int).toNat+0) (vi (-1)) j=vi (-1):=by
   intro j hj
   unfold upd
   by_cases e:j=(c:Int).toNat+0
   ·rw [if_pos e]
   rw [if_neg e];exact hg j (by omega)
  exact Or.inl ⟨rfl,_,by omega,c+1,_,by omega,dr,rfl,rfl,rfl,rfl,Y⟩
 refine Z 4 J (Or.inr ⟨nofun,?_⟩)
 exact OX 6 J (zI J J J ⟨_,⟨i4,rfl,rfl⟩,Sub.DS (wO oV fun j hj=>hg j (by omega)) Y⟩)
theorem nj (R:List SP) (a:Nat) (A:Nat→Int):yH 217 [vp a 0] (z3 wD a A::R) fun v L=> ∃b,v=vp b 0∧L=z3 wD b A::z3 wD a A::R:=by
 refine ze (Zv a A) fun _ hA=> ?_
 dsimp only [List.cons_append,List.nil_append]
 refine SW.intro rfl Tryz.func217 rfl ?_
 refine O0 8 J (qJ rfl (fun _ h=>vB rfl rfl (by omega) (rfl) h) ?_)
 refine zn rfl rfl rfl fun i3=> ?_
 refine VU (i:=i3) (n:=256) (fun _=>vi 0) List.length_replicate (fun j hj=>sh hj) ?_
 refine UP rfl rfl rfl rfl (y8 _ _ _) (nn A _ _) (by omega) ?_
 refine Z 6 J (zI J J J (⟨_,⟨i3,rfl,rfl⟩,Sub.DS (wO hA fun j hj=> ?_) (Sub.DS (wO hA fun _ _=>rfl) Y)⟩))
 show ua _ 0 (zj (BM A) 0 256) j=_
 unfold ua
 rw [if_pos (Nat.zero_le _),y7 _ _ _ _ (show j-0<256 by omega)]
 show BM A (0+(j-0))=_
 rw [show 0+(j-0)=j by omega];rfl
def c8 (w:Nat→Nat):List z0:= [vu (w 0),vu (w 1),vu (w 2),vu (w 3),vu (w 4),vu (w 5),vu (w 6),vu (w 7)]
def e8 (w:Nat→Nat):z0:= .agg (c8 w)
theorem L9 (w:Nat→Nat) (j:Nat) (h:j<8):(c8 w)[j]? =some (vu (w j)):=by
 rcases(by omega:j=0∨j=1∨j=2∨j=3∨j=4∨j=5∨j=6∨j=7)with rfl|rfl|rfl|rfl|rfl|rfl|rfl|rfl<;>rfl
theorem fD {g:Nat→z0} {w:Nat→Nat} (h: ∀j,j<8→g j=vu (w j)):zj g 0 8=c8 w:=by
 apply List.ext_getElem?
 intro i
 by_cases hi:i<8
 ·rw [y7 _ _ _ _ hi,Nat.zero_add,L9 _ _ hi,h i hi]
 rw [List.getElem?_eq_none (by rw [y8];omega),List.getElem?_eq_none (by show 8≤i;omega)]
abbrev Q4:=List (Int×(Nat→Nat))
def xJ (W:Q4):Prop:= ∀p,p ∈ W→ ∀o,p.2 o≤18446744073709551615
abbrev m4 (s:Nat) (W:Q4) (i:Nat):List SP:= [z3 zC s [.map (some i)],z3 (DR e8) i W]
def yM (s:Nat) (W:Q4):SP:=fun h=> ∃i,xJ W∧Sat (m4 s W i) h
theorem W2 (s:Nat) (W:Q4): ∀h,yM s W h→ ∃i,xJ W∧Sat (m4 s W i) h:=fun _ h=>h
theorem wo {s i:Nat} {W:Q4} (h:xJ W): ∀f,Sat [z3 zC s [.map (some i)],z3 (DR e8) i W] f→yM s W f:=fun _ x=>⟨i,h,x⟩
theorem xJ.get {W:Q4} (h:xJ W) (z:Int) (o:Nat):(kJ W z).getD (fun _=>0) o≤18446744073709551615:=by
 cases e:kJ W z with
 |none=>exact Nat.zero_le _
 |some w=>exact h _ (Hy e) o
theorem xJ.del {W:Q4} (h:xJ W) (z:Int):xJ (Gh W z):=fun p hp=>h p (DN hp)
theorem xJ.ins {W:Q4} (h:xJ W) (z:Int) {w:Nat→Nat} (hw: ∀o,w o≤18446744073709551615):xJ (du W z w):=fun p hp=>by
 rcases DP hp with rfl|hp
 ·exact hw
 exact h p hp
def Qz (W:Q4):Nat→Nat→Option Nat
 |_,0=>none
 |s,k+1=>if(kJ W (s:Int)).isSome then Qz W (s+1) k else some s
def Vf (W:Q4):Option Nat:=Qz W 1 7
theorem aE (W:Q4): ∀k s g,Qz W s k=some g→s≤g∧g<s+k∧(kJ W (g:Int)).isSome=false:=by
 intro k
 induction k with
 |zero=>intro s g h;cases h
 |succ k ih=>
  intro s g h
  have h:(if(kJ W (s:Int)).isSome then Qz W (s+1) k else some s)=some g:=h
  cases e:(kJ W (s:Int)).isSome with
  |true=>rw [e,if_pos rfl]at h;have:=ih _ _ h;exact⟨by omega,by omega,this.2.2⟩
  |false=>rw [e,if_neg nofun]at h;cases h;exact⟨Nat.le_refl _,by omega,e⟩
def ZW (W:Q4) (M:zF) (f:Int):Option (Nat×Q4):=if 0≤f∧f<M.n then(Vf W).map fun s=>(s,du W (s:Int) (M.word f.toNat))else none
theorem zF.Ik {M:zF} {f:Int} (hf:0≤f∧f<M.n) {o:Nat} (ho:o<8):M.rd (8*f+o)=M.word f.toNat o:=by
 unfold zF.rd zF.read
 rw [if_pos (by omega),show((8*f+o)/8).toNat=f.toNat by omega,show((8*f+o)%8).toNat=o by omega];rfl
def zF.fill (M:zF) (f:Int) (w:Nat→Nat):Nat→zF
 |0=>M
 |k+1=>(M.fill f w k).write (8*f+k) (w k)
theorem zF.Mq (M:zF) (f:Int) (w:Nat→Nat) (k:Nat):(M.fill f w k).n=M.n:=by
 induction k with
 |zero=>rfl
 |succ k ih=>show((M.fill f w k).write _ _).n=_;rw [zF.Vh,ih]
theorem KR (R:List SP):yH 100 [] (R) fun v L=> ∃s,v=vp s 0∧L=z3 yM s []::R:=by
 refine SW.intro rfl Tryz.func100 rfl ?_
 refine O0 6 J (sR (e:=e8) rfl rfl fun i1=> ?_)
 refine bu [_] J Y Y J (yu rfl rfl rfl rfl fun i3=> ?_)
 exact Z 3 J (zI J J J ⟨_,⟨i3,rfl,rfl⟩,Sub.qi (wo (W:= []) (i:=i1) nofun) Y⟩)
theorem EL (R:List SP) (s:Nat) (W:Q4) (z:Int):yH 213 [vp s 0,vi z] (z3 yM s W::R) fun v L=>v= .bool (kJ W z).isSome∧L=z3 yM s (Gh W z)::R:=by
 refine ze (W2 s W) fun i hW=> ?_
 dsimp only [m4,List.cons_append,List.nil_append]
 refine SW.intro rfl Tryz.func213 rfl ?_
 refine O0 8 J (fa J Y (ld J Y J (Z 1 J (qJ rfl (fun _ h=>tA (e:=e8) (fun _=>0) rfl rfl rfl rfl h) ?_))))
 refine Z 3 J (zn rfl rfl rfl fun i5=> ?_)
 refine sN J Y Y J J J (Z 6 J (fa J Y (ld J Y J (Z 1 J (eT (e:=e8) rfl rfl rfl rfl rfl rfl rfl ?_)))))
 exact Z 7 J (zI J J J ⟨_,⟨rfl,rfl⟩,Sub.qi (wo (hW.del z)) Y⟩)
theorem KU (R:List SP) (s m:Nat) (W:Q4) (M:zF) (f:Int):yH 225 [vp s 0,vp m 0,vi f] (z3 yM s W::z3 zY m M::R) fun v L=>v= .tuple [vi (((ZW W M f).map fun p=>p.1).getD 0:Nat),.bool (ZW W M f).isSome]∧L=z3 yM s (((ZW W M f).map fun p=>p.2).getD W)::z3 zY m M::R:=by
 refine yl (p:=M.Ok) (qf m M) fun hM=> ?_
 have VJ:=hM.1
 have Vk:=hM.2.1
 refine ze (W2 s W) fun i hW=> ?_
 dsimp only [m4,List.cons_append,List.nil_append]
 refine SW.intro rfl Tryz.func225 rfl ?_
 refine O0 10 J (z5 (fun YQ=> ?_) (fun YQ=> ?_))
 ·refine Z 14 J (qt J J J J ?_)
  have e:ZW W M f=none:=if_neg (by omega)
  rw [e]
  exact⟨_,⟨rfl,rfl⟩,Sub.qi (wo hW) Y⟩
 refine Z 3 J (Z1 (gL _ _ _) J Y (Z 1 J (z5 (fun VI=> ?_) (fun VI=> ?_))))
 ·refine Z 9 J (qt J J J J ?_)
  have e:ZW W M f=none:=if_neg (by omega)
  rw [e]
  exact⟨_,⟨rfl,rfl⟩,Sub.qi (wo hW) Y⟩
 refine Z 10 J (zy (fun j T L=> ∃(k:Nat),(1≤k∧k≤8)∧(Qz W k (8-k)=Vf W)∧j=8-k∧T.len=4∧Tm.get 0 T=some (vp s 0)∧Tm.get 1 T=some (vp m 0)∧Tm.get 2 T=some (vi f)∧Tm.get 8 T=some (vi (k:Nat))∧Sub L (z3 zC s [.map (some i)]::z3 (DR e8) i W::z3 zY m M::R)) (7) ⟨1,by omega,rfl,by omega,rfl,rfl,rfl,rfl,rfl,Y⟩ ?_)
 rintro j T L0 ⟨k,hk,hl,rfl,hl,g0,g1,g2,g8,yU⟩
 obtain⟨tg,rfl⟩:=GY hl g0 g1 g2 g8
 clear hl g0 g1 g2 g8
 refine yE yU ?_
 clear yU L0
 refine O0 5 J (z5 (fun Aw=> ?_) (fun Aw=> ?_))
 ·refine Z 10 J (fa J Y (ld J Y J (Z 1 J (qJ rfl (fun _ h=>tA (e:=e8) (fun _=>0) rfl rfl rfl rfl h) ?_))))
  refine Z 3 J (zV (fun dk=> ?_) (fun dk=> ?_))
  ·refine zn rfl rfl rfl fun i9=> ?_
   refine sN J Y Y J J J (Z 10 J (ad J (Z 2 J ?_)))
   have hs:8-k=(8-(k+1))+1:=by omega
   rw [hs]at hl
   have hl:(if(kJ W (k:Int)).isSome then Qz W (k+1) (8-(k+1))else some k)=Vf W:=hl
   rw [dk,if_pos rfl]at hl
   exact Or.inl ⟨rfl,_,by omega,k+1,by omega,hl,rfl,rfl,rfl,rfl,rfl,rfl,Y⟩
  refine zn rfl rfl rfl fun i9=> ?_
  refine sN J Y Y J J J (Z 10 J (zn rfl rfl rfl fun i11=> ?_))
  refine VU (i:=i11) (n:=8) (fun _=>vu 0) rfl (fun j hj=>sh (n:=8) hj) ?_
  refine Z 7 J (zy (fun j T L=> ∃(c:Nat) (g:Nat→z0),(c≤8)∧(∀j,j<c→g j=vu (M.word f.toNat j))∧j=8-c∧T.len=4∧Tm.get 0 T=some (vp s 0)∧Tm.get 1 T=some (vp m 0)∧Tm.get 2 T=some (vi f)∧Tm.get 8 T=some (vi (k:Nat))∧Tm.get 11 T=some (vp i11 0)∧Tm.get 35 T=some (vi (c:Nat))∧Sub L (z3 zO i11 (8,g)::z3 zC s [.map (some i)]::z3 (DR e8) i W::z3 zY m M::R)) (8) ⟨0,fun _=>vu 0,by omega,fun j h=>absurd h (Nat.not_lt_zero j),by omega,rfl,rfl,rfl,rfl,rfl,rfl,rfl,Y⟩ ?_)
  rintro j T L0 ⟨c,g,hc,hg,rfl,hl,g0,g1,g2,g8,kA,RM,yU⟩
  obtain⟨tg,rfl⟩:=I4 hl g0 g1 g2 g8 kA RM
  clear hl g0 g1 g2 g8 kA RM
  refine yE yU ?_
  clear yU L0
  refine O0 3 J (z5 (fun h36=> ?_) (fun h36=> ?_))
  ·refine Z 15 J (ml J (Z 1 J (ad J (Z1 (J8 _ _ _ _ (by omega)) J Y (Z 3 J (zo rfl (fun _=>zw rfl rfl rfl (by omega) (by omega)) ?_))))))
   refine sF J Y J J (Z 2 J (ad J (Z 2 J ?_)))
   have dr: ∀j,j<c+1→upd g ((c:Int).toNat+0) (vu (M.rd (8*f+c))) j=vu (M.word f.toNat j):=by
    intro j hj
    unfold upd
    by_cases e:j=(c:Int).toNat+0
    ·rw [if_pos e,zF.Ik (by omega) (by omega)];congr;omega
    rw [if_neg e];exact hg j (by omega)
   exact Or.inl ⟨rfl,_,by omega,c+1,_,by omega,dr,rfl,rfl,rfl,rfl,rfl,rfl,rfl,rfl,Y⟩
  refine Z 4 J (Or.inr ⟨nofun,?_⟩)
  refine OX 1 J (zW [0,1,3,7,0,0,63] [([0,1,2,3,4,5],[3,5],some 6),([],[],none)] (by kernel_rfl) ?_)
  refine z7 (ZK 2 J (zx J Y (q9 J Y J (ZK 1 J (jM rfl (fun _ h=>vB rfl rfl (by omega) (fD (w:=M.word f.toNat) fun j hj=>hg j (by omega)) h) ?_)))))
  refine z8 ⟨(yN J Y J J J (va rfl (fun _ h=>vB rfl rfl (by omega) (fD (w:=M.word f.toNat) fun j hj=>hg j (by omega)) h) rfl rfl (z6 _ rfl) z9)),?_⟩
  refine IN (e:=e8) (y:=M.word f.toNat) rfl rfl rfl rfl rfl ?_
  refine zJ (z7 (z8 ⟨z9,?_⟩))
  refine OX 7 J (Or.inr ⟨nofun,?_⟩)
  refine qt J J J J ?_
  have hs:8-k=(8-(k+1))+1:=by omega
  rw [hs]at hl
  have hl:(if(kJ W (k:Int)).isSome then Qz W (k+1) (8-(k+1))else some k)=Vf W:=hl
  rw [dk,if_neg nofun]at hl
  have e:ZW W M f=some (k,du W (k:Int) (M.word f.toNat)):=by { unfold ZW;rw [if_pos (by omega),←hl];rfl }
  rw [e]
  exact⟨_,⟨rfl,rfl⟩,Sub.qi (wo (hW.ins _ fun o=>hM.2.2 _ _)) Y⟩
 refine Z 3 J (Or.inr ⟨nofun,?_⟩)
 refine OX 6 J (qt J J J J ?_)
 have hk8:8-k=0:=by omega
 rw [hk8]at hl
 have hl:none=Vf W:=hl
 have e:ZW W M f=none:=by { unfold ZW;rw [←hl];split<;>rfl }
 rw [e]
 exact⟨_,⟨rfl,rfl⟩,Sub.qi (wo hW) Y⟩
theorem OK (R:List SP) (s m:Nat) (W:Q4) (M:zF) (z f:Int) (hf:0≤f∧f<M.n) (hz:(kJ W z).isSome=true):yH 261 [vp s 0,vp m 0,vi z,vi f] (z3 yM s W::z3 zY m M::R) fun v L=>v= .bool true∧L=z3 yM s (Gh W z)::z3 zY m (M.fill f ((kJ W z).getD fun _=>0) 8)::R:=by
 refine yl (p:=M.Ok) (qf m M) fun hM=> ?_
 have VJ:=hM.1
 have Vk:=hM.2.1
 refine ze (W2 s W) fun i hW=> ?_
 dsimp only [m4,List.cons_append,List.nil_append]
 generalize hw:(kJ W z).getD (fun _=>0)=w
 have Qc: ∀o,w o≤18446744073709551615:=fun o=>by rw [←hw];exact hW.get z o
 refine SW.intro rfl Tryz.func261 rfl ?_
 refine O0 8 J (fa J Y (ld J Y J (Z 1 J (qJ rfl (fun _ h=>tA (e:=e8) (fun _=>0) rfl rfl rfl rfl h) ?_))))
 rw [hw,hz]
 refine Z 3 J (zn rfl rfl rfl fun i9=> ?_)
 refine sN J Y Y J J J (Z 9 J (zo rfl (fun _=>zG rfl rfl rfl (Ui rfl)) (qm (by omega) ?_)))
 refine Z 4 J (Z1 (gL _ _ _) J Y (zo rfl (fun _=>zG rfl rfl rfl (pF rfl)) (qm (by omega) ?_)))
 refine Z 7 J (lN J Y Y J J (Z 3 J (zy (fun j T L=> ∃(c:Nat),(c≤8)∧j=8-c∧T.len=4∧Tm.get 0 T=some (vp s 0)∧Tm.get 1 T=some (vp m 0)∧Tm.get 2 T=some (vi z)∧Tm.get 3 T=some (vi f)∧Tm.get 34 T=some (e8 w)∧Tm.get 35 T=some (vi (c:Nat))∧Sub L (z3 zY m (M.fill f w c)::z3 zC s [.map (some i)]::z3 (DR e8) i W::R)) (8) ⟨0,by omega,by omega,rfl,rfl,rfl,rfl,rfl,rfl,rfl,(show Sub _ (z3 zY m M::_)from Y)⟩ ?_)))
 rintro j T L0 ⟨c,hc,rfl,hl,g0,g1,g2,g3,g34,RM,yU⟩
 obtain⟨tg,rfl⟩:=I4 hl g0 g1 g2 g3 g34 RM
 clear hl g0 g1 g2 g3 g34 RM
 refine yE yU ?_
 clear yU L0
 refine O0 3 J (z5 (fun h36=> ?_) (fun h36=> ?_))
 ·refine Z 9 J (zo rfl (fun _=>bg rfl rfl rfl (by omega) (by omega) (L9 w _ (by omega))) ?_)
  refine Z 6 J (ml J (Z 1 J (ad J (Z 1 J (Z1 (Ys _ _ (M.fill f w c) _ (by omega) _ (Qc _)) J Y (Z 2 J (ad J (Z 2 J ?_))))))))
  exact Or.inl ⟨rfl,_,by omega,c+1,by omega,rfl,rfl,rfl,rfl,rfl,rfl,rfl,rfl,(by show Sub (z3 zY m ((M.fill f w c).write (8*f+c) (w c))::_) (z3 zY m ((M.fill f w c).write (8*f+c) (w c))::_);exact Y)⟩
 refine Z 4 J (Or.inr ⟨nofun,?_⟩)
 refine OX 4 J (fa J Y (ld J Y J (Z 1 J (eT (e:=e8) rfl rfl rfl rfl rfl rfl rfl ?_))))
 refine Z 6 J (zI J J J ?_)
 have e:c=8:=by omega
 subst e
 exact⟨_,⟨rfl,rfl⟩,Sub.qi (wo (hW.del z)) Y⟩
structure zg where
 al:Nat→Bool
 n:Nat
 on:Nat→Int
 last:Nat→Int
abbrev zg.vO (S:zg) (p:Nat) (b:Bool):zg:= { S with al:=fun q=>if q=p then b else S.al q }
def zg.Ok (S:zg):Prop:=1≤S.n∧S.n≤2∧(∀c,-1≤S.on c∧S.on c<4)∧ ∀c,0≤S.last c∧S.last c<4
def p7 (S:zg) (a b:Nat):Nat→z0
 |4=> .slice (some (a,0)) S.n none 1
 |5=> .slice (some (b,0)) S.n none 1
 |j=> .bool (S.al j)
theorem VZ (S:zg) (a b:Nat) {j:Nat} (h:j<4):p7 S a b j= .bool (S.al j):=by
 rcases(by omega:j=0∨j=1∨j=2∨j=3)with rfl|rfl|rfl|rfl<;>rfl
abbrev AM (s:Nat) (S:zg) (p:Nat×Nat):List SP:= [z3 zO s (6,p7 S p.1 p.2),z3 zO p.1 (S.n,fun j=>vi (S.on j)),z3 zO p.2 (S.n,fun j=>vi (S.last j))]
def vT (s:Nat) (S:zg):SP:=fun h=> ∃p,S.Ok∧Sat (AM s S p) h
theorem Va (s:Nat) (S:zg): ∀h,vT s S h→ ∃p,S.Ok∧Sat (AM s S p) h:=fun _ h=>h
theorem wH {s a b:Nat} {S:zg} (hS:S.Ok) {q f g:Nat→z0} (hq: ∀j,j<6→q j=p7 S a b j) (hf: ∀j,j<S.n→f j=vi (S.on j)) (hg: ∀j,j<S.n→g j=vi (S.last j)):
 ∀h,Sat [z3 zO s (6,q),z3 zO a (S.n,f),z3 zO b (S.n,g)] h→vT s S h:=
 fun _ x=>⟨(a,b),hS,AL (TU (so x (vK hf)) (vK hg)) (vK hq)⟩
theorem rl (S:zg) (a b:Nat) {p:Nat} (hp:p<4) (v:Bool) (k:Nat) (hk:k=p): ∀j,j<6→upd (p7 S a b) k (.bool v) j=p7 (S.vO p v) a b j:=by
 subst hk
 intro j hj
 unfold upd
 by_cases e:j=k
 ·rw [if_pos e,e,VZ _ _ _ hp];simp [zg.vO]
 rw [if_neg e]
 rcases(by omega:j<4∨j=4∨j=5)with h|rfl|rfl
 ·rw [VZ _ _ _ h,VZ _ _ _ h];simp [zg.vO,e]
 ·rfl
 rfl
theorem KA (s:Nat) (S:zg): ∀h,vT s S h→S.Ok:=fun _ ⟨_,h,_⟩=>h
def zg.alive (S:zg) (p:Int):Bool:=decide (0≤p∧p<4) && S.al p.toNat
def zg.zQ (S:zg) (c:Int):Int:=if 0≤c∧c<S.n then S.on c.toNat else-1
def zg.find (S:zg) (p:Int):Nat→Nat→Int
 |_,0=> -1
 |c,k+1=>if S.on c=p∧0≤p∧p<4 then(c:Int)else S.find p (c+1) k
def zg.YI (S:zg) (p:Int):Int:=S.find p 0 S.n
abbrev zg.qp (S:zg) (c:Nat) (v:Int):zg:= { S with on:=fun d=>if d=c then v else S.on d }
abbrev zg.Qu (S:zg) (c:Nat) (v:Int):zg:= { S with last:=fun d=>if d=c then v else S.last d }
def zg.gQ (S:zg) (p:Int):zg:=if 0≤p∧p<4 then S.vO p.toNat true else S
def zg.fin (S:zg) (p:Int):zg:=if S.alive p=true then(let S1:=S.vO p.toNat false;if 0≤S1.YI p then S1.qp (S1.YI p).toNat (-1)else S1)else S
def zg.gg (S:zg) (l:Int):Nat→Nat→Option Int
 |_,0=>none
 |i,k+1=>if S.al ((l+1+i)%4).toNat=true∧S.YI ((l+1+i)%4)<0 then some ((l+1+i)%4)else S.gg l (i+1) k
def zg.pick (S:zg) (c:Int):Int×zg:=if 0≤c∧c<S.n then(let S1:=S.qp c.toNat (-1)
 match S1.gg (S.last c.toNat) 0 4 with
 |some p=>(p,(S1.qp c.toNat p).Qu c.toNat p)
 |none=>(-1,S1))else(-1,S)
theorem zg.HB (S:zg) (p:Int): ∀k c,-1≤S.find p c k∧S.find p c k<(c+k:Nat):=by
 intro k
 induction k with
 |zero=>intro c;show-1≤(-1:Int)∧(-1:Int)<_;omega
 |succ k ih=>
  intro c
  have:=ih (c+1)
  show-1≤(if _ then _ else _)∧(if _ then _ else _)<_
  split<;>omega
theorem sV (S:zg) {c k:Nat} (v:Int) (hk:k=c): ∀j,j<S.n→upd (fun j=>vi (S.on j)) k (vi v) j=vi ((S.qp c v).on j):=by
 subst hk
 intro j _
 unfold upd
 show(if j=k then vi v else vi (S.on j))=vi (if j=k then v else S.on j)
 split<;>rfl
theorem DG (S:zg) {c k:Nat} (v:Int) (hk:k=c): ∀j,j<S.n→upd (fun j=>vi (S.last j)) k (vi v) j=vi ((S.Qu c v).last j):=by
 subst hk
 intro j _
 unfold upd
 show(if j=k then vi v else vi (S.last j))=vi (if j=k then v else S.last j)
 split<;>rfl
theorem zg.Kn (S:zg) (p:Int): -1≤S.YI p∧S.YI p<S.n:=by
 have:=S.HB p S.n 0
 unfold zg.YI;omega
theorem zg.Ok.vO {S:zg} (h:S.Ok) (p:Nat) (b:Bool):(S.vO p b).Ok:=h
theorem zg.Ok.qp {S:zg} (h:S.Ok) (c:Nat) {v:Int} (hv: -1≤v∧v<4):(S.qp c v).Ok:=⟨h.1,h.2.1,fun d=>by
 show-1≤(if d=c then v else S.on d)∧(if d=c then v else S.on d)<4
 split
 ·exact hv
 exact h.2.2.1 d,h.2.2.2⟩
theorem zg.Ok.Qu {S:zg} (h:S.Ok) (c:Nat) {v:Int} (hv:0≤v∧v<4):(S.Qu c v).Ok:=⟨h.1,h.2.1,h.2.2.1,fun d=>by
 show 0≤(if d=c then v else S.last d)∧(if d=c then v else S.last d)<4
 split
 ·exact hv
 exact h.2.2.2 d⟩
theorem n5 (R:List SP) (p:Int):yH 109 [vi p] (R) fun v L=>v= .bool (decide (0≤p∧p<4))∧L=R:=by
 refine SW.intro rfl Tryz.func109 rfl ?_
 refine O0 8 J (z5 (fun h4=> ?_) (fun h4=> ?_))
 ·refine Z 7 J (zI J J J (⟨_,⟨yT ?_,rfl⟩,Y⟩))
  simp;omega
 refine Z 7 J (zI J J J (⟨_,⟨yT ?_,rfl⟩,Y⟩))
 simp;omega
theorem Jt (R:List SP) (s:Nat) (S:zg) (c:Int):yH 50 [vp s 0,vi c] (z3 vT s S::R) fun v L=>v=vi (S.zQ c)∧L=z3 vT s S::R:=by
 refine ze (Va s S) fun p hS=> ?_
 obtain⟨a,b⟩:=p
 dsimp only [AM,List.cons_append,List.nil_append]
 have lU:=hS.1
 have Vn:=hS.2.1
 refine SW.intro rfl Tryz.func50 rfl ?_
 refine O0 9 J (z5 (fun h6=> ?_) (fun h6=> ?_))
 ·refine Z 16 J (zI J J J ?_)
  have e:S.zQ c= -1:=if_neg (by omega)
  rw [e]
  exact⟨_,⟨rfl,rfl⟩,Sub.nd (wH hS (fun _ _=>rfl) (fun _ _=>rfl) fun _ _=>rfl) Y⟩
 refine Z 4 J (fa J Y (lf J Y J (zo rfl (fun _=>vD rfl rfl rfl rfl rfl) ?_)))
 refine Z 1 J (z5 (fun YQ=> ?_) (fun YQ=> ?_))
 ·refine Z 8 J (zI J J J ?_)
  have e:S.zQ c= -1:=if_neg (by omega)
  rw [e]
  exact⟨_,⟨rfl,rfl⟩,Sub.nd (wH hS (fun _ _=>rfl) (fun _ _=>rfl) fun _ _=>rfl) Y⟩
 refine Z 8 J (fa J Y (lf J Y J (Z 1 J (zo rfl (fun _=>ja rfl rfl rfl (by omega) (by omega)) ?_))))
 refine lf J Y J (Z 3 J (zI J J J ?_))
 have e:S.zQ c=S.on (c.toNat+0):=by { unfold zg.zQ;rw [if_pos (by omega)];rfl }
 rw [e]
 exact⟨_,⟨rfl,rfl⟩,Sub.nd (wH hS (fun _ _=>rfl) (fun _ _=>rfl) fun _ _=>rfl) Y⟩
theorem o8 (R:List SP) (s:Nat) (S:zg) (p:Int) (hp:S.alive p=false):yH 70 [vp s 0,vi p] (z3 vT s S::R) fun v L=>v= .bool (decide (0≤p∧p<4))∧L=z3 vT s (S.gQ p)::R:=by
 refine ze (Va s S) fun p hS=> ?_
 obtain⟨a,b⟩:=p
 dsimp only [AM,List.cons_append,List.nil_append]
 have lU:=hS.1
 have Vn:=hS.2.1
 refine SW.intro rfl Tryz.func70 rfl ?_
 refine O0 8 J (Z0 (n5 _ _) J (z5 (fun h6=> ?_) (fun h6=> ?_)))
 ·refine Z 5 J (fa J Y (zo rfl (fun _=>zw rfl rfl rfl (by omega) (by omega)) ?_))
  refine lf J Y (VZ S a b (by omega)) (zV (fun YQ=> ?_) (fun YQ=> ?_))
  ·refine Z 8 J (zI J J J ?_)
   exfalso
   unfold zg.alive at hp
   rw [decide_eq_true h6,Bool.true_and]at hp
   have YQ:S.al p.toNat=true:=YQ
   rw [YQ]at hp;cases hp
  refine Z 9 J (fa J Y (zo rfl (fun _=>zw rfl rfl rfl (by omega) (by omega)) ?_))
  refine sF J Y J J (Z 6 J (zI J J J ?_))
  have e1:S.gQ p=S.vO p.toNat true:=if_pos h6
  rw [e1]
  refine⟨_,⟨yT ?_,rfl⟩,Sub.nd (wH (S:=S.vO p.toNat true) (hS.vO _ _) (rl S a b (p:=p.toNat) (by omega) true _ (by omega)) (fun _ _=>rfl) fun _ _=>rfl) Y⟩
  simp;omega
 refine Z 16 J (zI J J J ?_)
 have e1:S.gQ p=S:=if_neg h6
 rw [e1]
 refine⟨_,⟨yT ?_,rfl⟩,Sub.nd (wH hS (fun _ _=>rfl) (fun _ _=>rfl) fun _ _=>rfl) Y⟩
 simp;omega
theorem l0 (R:List SP) (s a b:Nat) (S:zg) (Vn:S.n≤2) (p:Int):yH 111 [vp s 0,vi p] (z3 zO s (6,p7 S a b)::z3 zO a (S.n,fun j=>vi (S.on j))::R) fun v L=>v=vi (S.YI p)∧L=z3 zO s (6,p7 S a b)::z3 zO a (S.n,fun j=>vi (S.on j))::R:=by
 refine SW.intro rfl Tryz.func111 rfl ?_
 refine O0 9 J (fa J Y (lf J Y J (zo rfl (fun _=>vD rfl rfl rfl rfl rfl) ?_)))
 refine Z 3 J (zy (fun j T L=> ∃(c:Nat),(c≤S.n)∧(S.find p c (S.n-c)=S.YI p)∧j=S.n-c∧T.len=2∧Tm.get 1 T=some (vi p)∧Tm.get 10 T=some (.slice (some (a,0)) S.n none 1)∧Tm.get 11 T=some (vi (S.n:Nat))∧Tm.get 12 T=some (vi (c:Nat))∧Sub L (z3 zO s (6,p7 S a b)::z3 zO a (S.n,fun j=>vi (S.on j))::R)) (S.n) ⟨0,by omega,rfl,by omega,rfl,rfl,rfl,rfl,rfl,Y⟩ ?_)
 rintro j T L0 ⟨c,hc,hf,rfl,hl,g1,YL,kA,iN,yU⟩
 obtain⟨tg,rfl⟩:=GY hl g1 YL kA iN
 clear hl g1 YL kA iN
 refine yE yU ?_
 clear yU L0
 refine O0 3 J (z5 (fun ai=> ?_) (fun ai=> ?_))
 ·refine Z 9 J (zo rfl (fun _=>ja rfl rfl rfl (by omega) (by omega)) ?_)
  refine lf J Y J (Z 8 J (z5 (fun VI=> ?_) (fun VI=> ?_)))
  ·refine Z 2 J (Z0 (n5 _ _) J (z5 (fun Aw=> ?_) (fun Aw=> ?_)))
   ·refine Z 9 J (Or.inr ⟨nofun,?_⟩)
    refine zI J J J ?_
    have hs:S.n-c=(S.n-(c+1))+1:=by omega
    rw [hs]at hf
    have hf:(if S.on c=p∧0≤p∧p<4 then(c:Int)else S.find p (c+1) (S.n-(c+1)))=S.YI p:=hf
    have VI:S.on c=p:=VI
    rw [if_pos (by omega)]at hf
    rw [←hf]
    exact fq
   refine Z 5 J (ad J (Z 2 J ?_))
   have hs:S.n-c=(S.n-(c+1))+1:=by omega
   rw [hs]at hf
   have hf:(if S.on c=p∧0≤p∧p<4 then(c:Int)else S.find p (c+1) (S.n-(c+1)))=S.YI p:=hf
   have VI:S.on c=p:=VI
   rw [if_neg (by omega)]at hf
   exact Or.inl ⟨rfl,_,by omega,c+1,by omega,hf,rfl,rfl,rfl,rfl,rfl,rfl,Y⟩
  refine Z 8 J (ad J (Z 2 J ?_))
  have hs:S.n-c=(S.n-(c+1))+1:=by omega
  rw [hs]at hf
  have hf:(if S.on c=p∧0≤p∧p<4 then(c:Int)else S.find p (c+1) (S.n-(c+1)))=S.YI p:=hf
  have VI: ¬S.on c=p:=VI
  rw [if_neg (by omega)]at hf
  exact Or.inl ⟨rfl,_,by omega,c+1,by omega,hf,rfl,rfl,rfl,rfl,rfl,rfl,Y⟩
 refine Z 4 J (Or.inr ⟨nofun,?_⟩)
 refine OX 5 J (zI J J J ?_)
 have hs:S.n-c=0:=by omega
 rw [hs]at hf
 have hf:(-1:Int)=S.YI p:=hf
 rw [←hf]
 exact fq
theorem OE (R:List SP) (s:Nat) (S:zg) (p:Int):yH 132 [vp s 0,vi p] (z3 vT s S::R) fun v L=>v= .bool (S.alive p)∧L=z3 vT s (S.fin p)::R:=by
 refine ze (Va s S) fun p hS=> ?_
 obtain⟨a,b⟩:=p
 dsimp only [AM,List.cons_append,List.nil_append]
 have lU:=hS.1
 have Vn:=hS.2.1
 refine SW.intro rfl Tryz.func132 rfl ?_
 refine O0 8 J (Z0 (n5 _ _) J (z5 (fun h7=> ?_) (fun h7=> ?_)))
 ·refine Z 5 J (fa J Y (zo rfl (fun _=>zw rfl rfl rfl (by omega) (by omega)) ?_))
  refine lf J Y (VZ S a b (by omega)) (zV (fun YM=> ?_) (fun YM=> ?_))
  ·refine Z 10 J (fa J Y (zo rfl (fun _=>zw rfl rfl rfl (by omega) (by omega)) ?_))
   refine sF J Y J J (zd (Sub.one (vK (i:=s) (rl S a b (p:=p.toNat) (by omega) false _ (by omega)))) ?_)
   have hw:=(S.vO p.toNat false).Kn p
   have hn9:(S.vO p.toNat false).n=S.n:=rfl
   refine Z 6 J (Z2 (l0 _ _ _ b (S.vO p.toNat false) Vn _) J Y Y (Z 6 J (z5 (fun aj=> ?_) (fun aj=> ?_))))
   ·refine Z 5 J (fa J Y (lf J Y J (Z 1 J (zo rfl (fun _=>ja rfl rfl rfl (by omega) (by omega)) ?_))))
    refine sF J Y J J (Z 6 J (zI J J J ?_))
    have e0:S.alive p=true:=by { unfold zg.alive;rw [decide_eq_true h7];exact YM }
    have e1:S.fin p=(S.vO p.toNat false).qp ((S.vO p.toNat false).YI p).toNat (-1):=by { unfold zg.fin;rw [if_pos e0];exact if_pos aj }
    rw [e0,e1]
    exact⟨_,⟨rfl,rfl⟩,Sub.nd (wH (S:=(S.vO p.toNat false).qp ((S.vO p.toNat false).YI p).toNat (-1)) ((hS.vO _ _).qp _ (by omega)) (fun _ _=>rfl) (sV (S.vO p.toNat false) (-1) (by omega)) fun _ _=>rfl) Y⟩
   refine Z 8 J (zI J J J ?_)
   have e0:S.alive p=true:=by { unfold zg.alive;rw [decide_eq_true h7];exact YM }
   have e1:S.fin p=(S.vO p.toNat false):=by { unfold zg.fin;rw [if_pos e0];exact if_neg aj }
   rw [e0,e1]
   exact⟨_,⟨rfl,rfl⟩,Sub.nd (wH (S:=(S.vO p.toNat false)) (hS.vO _ _) (fun _ _=>rfl) (fun _ _=>rfl) fun _ _=>rfl) Y⟩
  refine Z 9 J (zI J J J ?_)
  have e0:S.alive p=false:=by { unfold zg.alive;rw [decide_eq_true h7];exact YM }
  have e1:S.fin p=S:=if_neg (by rw [e0];nofun)
  rw [e0,e1]
  exact⟨_,⟨rfl,rfl⟩,Sub.nd (wH hS (fun _ _=>rfl) (fun _ _=>rfl) fun _ _=>rfl) Y⟩
 refine Z 17 J (zI J J J ?_)
 have e0:S.alive p=false:=by { unfold zg.alive;rw [decide_eq_false h7];rfl }
 have e1:S.fin p=S:=if_neg (by rw [e0];nofun)
 rw [e0,e1]
 exact⟨_,⟨rfl,rfl⟩,Sub.nd (wH hS (fun _ _=>rfl) (fun _ _=>rfl) fun _ _=>rfl) Y⟩
theorem GL (R:List SP) (s:Nat) (S:zg) (c:Int):yH 72 [vp s 0,vi c] (z3 vT s S::R) fun v L=>v=vi (S.pick c).1∧L=z3 vT s (S.pick c).2::R:=by
 refine ze (Va s S) fun p hS=> ?_
 obtain⟨a,b⟩:=p
 dsimp only [AM,List.cons_append,List.nil_append]
 have lU:=hS.1
 have Vn:=hS.2.1
 refine SW.intro rfl Tryz.func72 rfl ?_
 refine O0 9 J (z5 (fun h8=> ?_) (fun h8=> ?_))
 ·refine Z 16 J (zI J J J ?_)
  have e1:S.pick c=(-1,S):=if_neg (by omega)
  rw [e1]
  exact⟨_,⟨rfl,rfl⟩,Sub.nd (wH hS (fun _ _=>rfl) (fun _ _=>rfl) fun _ _=>rfl) Y⟩
 refine Z 4 J (fa J Y (lf J Y J (zo rfl (fun _=>vD rfl rfl rfl rfl rfl) ?_)))
 refine Z 1 J (z5 (fun j4=> ?_) (fun j4=> ?_))
 ·refine Z 8 J (zI J J J ?_)
  have e1:S.pick c=(-1,S):=if_neg (by omega)
  rw [e1]
  exact⟨_,⟨rfl,rfl⟩,Sub.nd (wH hS (fun _ _=>rfl) (fun _ _=>rfl) fun _ _=>rfl) Y⟩
 refine Z 8 J (fa J Y (lf J Y J (Z 1 J (zo rfl (fun _=>ja rfl rfl rfl (by omega) (by omega)) ?_))))
 refine sF J Y J J (zd (Sub.one (vK (i:=a) (sV S (c:=c.toNat) (-1) (by omega)))) ?_)
 refine Z 7 J (zy (fun j T L=> ∃(i:Nat),(i≤4)∧((S.qp c.toNat (-1)).gg (S.last c.toNat) i (4-i)=(S.qp c.toNat (-1)).gg (S.last c.toNat) 0 4)∧j=4-i∧T.len=5∧Tm.get 0 T=some (vp s 0)∧Tm.get 1 T=some (vi c)∧Tm.get 24 T=some (vi (i:Nat))∧Sub L (z3 zO s (6,p7 S a b)::z3 zO a (S.n,fun j=>vi ((S.qp c.toNat (-1)).on j))::z3 zO b (S.n,fun j=>vi (S.last j))::R)) (4) ⟨0,by omega,rfl,by omega,rfl,rfl,rfl,rfl,Y⟩ ?_)
 rintro j T L0 ⟨i,hi,kj,rfl,hl,g0,g1,g24,yU⟩
 obtain⟨tg,rfl⟩:=FV hl g0 g1 g24
 clear hl g0 g1 g24
 refine yE yU ?_
 clear yU L0
 refine O0 3 J (z5 (fun QN=> ?_) (fun QN=> ?_))
 ·refine Z 15 J (fa J Y (lf J Y J (Z 1 J (zo rfl (fun _=>ja rfl rfl rfl (by omega) (by omega)) ?_))))
  refine lf J Y J (zo rfl (fun _=>zG rfl rfl rfl (gJ (by have:=hS.2.2.2 (c.toNat+0);omega))) ?_)
  refine Z 1 J (zo rfl (fun _=>zG rfl rfl rfl (gJ (by have:=hS.2.2.2 (c.toNat+0);omega))) ?_)
  refine zo rfl (fun _=>zG rfl rfl rfl (nv (by have:=hS.2.2.2 (c.toNat+0);omega) (by omega))) ?_
  have Ck:=hS.2.2.2 c.toNat
  have FR:0≤(S.last c.toNat+1+(i:Int))%4∧(S.last c.toNat+1+(i:Int))%4<4:=by omega
  refine qI (w:=vi ((S.last c.toNat+1+i)%4)) rfl ?_
  have hn9:(S.qp c.toNat (-1)).n=S.n:=rfl
  generalize hqq:(S.last c.toNat+1+(i:Int))%4=q at FR ⊢
  refine Z 7 J (fa J Y (zo rfl (fun _=>zw rfl rfl rfl (by omega) (by omega)) ?_))
  refine lf J Y (VZ S a b (by omega)) (zV (fun xl=> ?_) (fun xl=> ?_))
  ·refine Z 3 J (Z2 (l0 _ _ _ b (S.qp c.toNat (-1)) Vn _) J Y Y (Z 1 J (z5 (fun Jb=> ?_) (fun Jb=> ?_))))
   ·refine Z 4 J (zW [0,1,3,7,0,0,32,96,224,0,0,0,1535,5631,16383,32767] [([0,1,2,3,4,5,6,7,8,9,10,11,12],[3,8],some 13),([14],[],some 15),([],[],none)] (by kernel_rfl) ?_)
    refine z7 (ZK 2 J (zx J Y (YO J Y J (ZK 3 J (zx J Y (YO J Y J (ZK 3 J (uc rfl (fun _=>ja rfl rfl rfl (by omega) (by omega)) ?_))))))))
    refine z8 ⟨(jP J Y J J (z6 _ rfl) (jP J Y J J (z6 _ rfl) z9)),?_⟩
    refine sF J Y J J (zJ (z7 (uc rfl (fun _=>ja rfl rfl rfl (by omega) (by omega)) ?_)))
    refine z8 ⟨z9,?_⟩
    refine sF J Y J J (zJ (z7 (z8 ⟨z9,?_⟩)))
    refine OX 6 J (Or.inr ⟨nofun,?_⟩)
    refine zI J J J ?_
    have hs:4-i=(4-(i+1))+1:=by omega
    rw [hs]at kj
    have kj:(if(S.qp c.toNat (-1)).al ((S.last c.toNat+1+i)%4).toNat=true∧(S.qp c.toNat (-1)).YI ((S.last c.toNat+1+i)%4)<0 then some ((S.last c.toNat+1+i)%4)else(S.qp c.toNat (-1)).gg (S.last c.toNat) (i+1) (4-(i+1)))=(S.qp c.toNat (-1)).gg (S.last c.toNat) 0 4:=kj
    rw [hqq]at kj
    have xl:S.al q.toNat=true:=xl
    rw [if_pos ⟨xl,Jb⟩]at kj
    have e1:S.pick c=(q,((S.qp c.toNat (-1)).qp c.toNat q).Qu c.toNat q):=by { unfold zg.pick;rw [if_pos (by omega)];dsimp only;rw [←kj] }
    rw [e1]
    exact⟨_,⟨rfl,rfl⟩,Sub.nd (wH (S:=((S.qp c.toNat (-1)).qp c.toNat q).Qu c.toNat q) (((hS.qp _ (by omega)).qp _ (by omega)).Qu _ FR) (fun _ _=>rfl) (sV (S.qp c.toNat (-1)) q (by omega)) (DG S q (by omega))) Y⟩
   refine Z 5 J (ad J (Z 2 J ?_))
   have hs:4-i=(4-(i+1))+1:=by omega
   rw [hs]at kj
   have kj:(if(S.qp c.toNat (-1)).al ((S.last c.toNat+1+i)%4).toNat=true∧(S.qp c.toNat (-1)).YI ((S.last c.toNat+1+i)%4)<0 then some ((S.last c.toNat+1+i)%4)else(S.qp c.toNat (-1)).gg (S.last c.toNat) (i+1) (4-(i+1)))=(S.qp c.toNat (-1)).gg (S.last c.toNat) 0 4:=kj
   rw [hqq]at kj
   have xl:S.al q.toNat=true:=xl
   rw [if_neg (by rintro ⟨_,h⟩;exact Jb h)]at kj
   exact Or.inl ⟨rfl,_,by omega,i+1,by omega,kj,rfl,rfl,rfl,rfl,rfl,(by first|exact Y|exact Sub.refl _)⟩
  refine Z 10 J (ad J (Z 2 J ?_))
  have hs:4-i=(4-(i+1))+1:=by omega
  rw [hs]at kj
  have kj:(if(S.qp c.toNat (-1)).al ((S.last c.toNat+1+i)%4).toNat=true∧(S.qp c.toNat (-1)).YI ((S.last c.toNat+1+i)%4)<0 then some ((S.last c.toNat+1+i)%4)else(S.qp c.toNat (-1)).gg (S.last c.toNat) (i+1) (4-(i+1)))=(S.qp c.toNat (-1)).gg (S.last c.toNat) 0 4:=kj
  rw [hqq]at kj
  have xl:S.al q.toNat=false:=xl
  rw [if_neg (by rintro ⟨h,_⟩;have h:S.al q.toNat=true:=h;rw [xl]at h;cases h)]at kj
  exact Or.inl ⟨rfl,_,by omega,i+1,by omega,kj,rfl,rfl,rfl,rfl,rfl,(by first|exact Y|exact Sub.refl _)⟩
 refine Z 4 J (Or.inr ⟨nofun,?_⟩)
 refine OX 5 J (zI J J J ?_)
 have hs:4-i=0:=by omega
 rw [hs]at kj
 have kj:none=(S.qp c.toNat (-1)).gg (S.last c.toNat) 0 4:=kj
 have e1:S.pick c=(-1,(S.qp c.toNat (-1))):=by { unfold zg.pick;rw [if_pos (by omega)];dsimp only;rw [←kj] }
 rw [e1]
 exact⟨_,⟨rfl,rfl⟩,Sub.nd (wH (S:=(S.qp c.toNat (-1))) (hS.qp _ (by omega)) (fun _ _=>rfl) (fun _ _=>rfl) fun _ _=>rfl) Y⟩
def zg.new (n:Nat):zg:=⟨fun _=>false,n,fun _=> -1,fun _=>3⟩
theorem Im {n j:Nat} {z:Int} (h:j<n):jW ((List.replicate n z).flatMap ye) j=vi z:=by
 have h1:(List.replicate n z)[j]? =some z:=by rw [List.getElem?_replicate,if_pos h]
 have:=Y1 (en:=ye) (es:=1) QZ _ j 0 z h1 (by omega)
 unfold jW
 rw [show j=j*1+0 by omega,this];rfl
theorem KB {s a b n:Nat} (h1:1≤n) (h2:n≤2): ∀h,Sat [z3 zC s [.bool false,.bool false,.bool false,.bool false,.slice (some (a,0)) n none 1,.slice (some (b,0)) n none 1],z3 (zX ye 1) (.slice (some (a,0)) n none 1) (List.replicate n (-1)),z3 (zX ye 1) (.slice (some (b,0)) n none 1) (List.replicate n 3)] h→vT s (zg.new n) h:=by
 intro h x
 have e: ∀ {i:Nat} {z:Int} (f:q7),zX ye 1 (.slice (some (i,0)) n none 1) (List.replicate n z) f→zO i (n,fun _=>vi z) f:=by
  intro i z f hf
  have hl:(List.replicate n z).length=n:=by simp
  have:=rO (en:=ye) (es:=1) (xs:=List.replicate n z) (i:=i) f (by rw [hl];exact hf)
  rw [hl,Nat.mul_one]at this
  exact vK (fun j hj=>Im hj) f this
 refine⟨(a,b),⟨h1,h2,fun _=>by show-1≤(-1:Int)∧(-1:Int)<4;omega,fun _=>by show 0≤(3:Int)∧(3:Int)<4;omega⟩,?_⟩
 refine AL (TU (so x e) e) fun f hf=> ?_
 exact vE (f:=p7 (zg.new n) a b) (fun j hj=>by
  rcases(by have:j<6:=hj;omega:j=0∨j=1∨j=2∨j=3∨j=4∨j=5)with rfl|rfl|rfl|rfl|rfl|rfl<;>rfl) f hf
theorem OH (R:List SP) (z:Int):yH 66 [vi z] (R) fun v L=> ∃s,v=vp s 0∧L=z3 vT s (zg.new (min (max 1 z) 2).toNat)::R:=by
 refine SW.intro rfl Tryz.func66 rfl ?_
 refine O0 6 J (bu [_,_,_,_,_,_] J Y Y J (yu rfl rfl rfl rfl fun i5=> ?_))
 refine Z 6 J (zo rfl (fun _=>tp rfl rfl rfl rfl rfl) ?_)
 refine zo rfl (fun _=>tq rfl rfl rfl rfl rfl) ?_
 refine Z 3 J (yE (Sub.jF (en:=ye) (es:=1) QZ (by decide) 0 _) ?_)
 refine yE (Sub.jF (en:=ye) (es:=1) QZ (by decide) 0 _) ?_
 refine zy (fun j T L=> ∃(k:Nat) (v w:z0),(Own v k 1)∧(Own w k 1)∧(k≤(min (max 1 z) 2).toNat)∧j=(min (max 1 z) 2).toNat-k∧T.len=2∧Tm.get 3 T=some (vp i5 0)∧Tm.get 8 T=some (vi (min (max 1 z) 2))∧Tm.get 9 T=some (vi (k:Nat))∧Sub L (z3 (zX ye 1) v (List.replicate k (-1))::z3 (zX ye 1) w (List.replicate k 3)::z3 zC i5 [.bool false,.bool false,.bool false,.bool false,v,w]::R)) ((min (max 1 z) 2).toNat) ⟨0,.slice none 0 (some 0) 0,.slice none 0 (some 0) 0,Own.nil 1,Own.nil 1,by omega,by omega,rfl,rfl,rfl,rfl,Sub.refl _⟩ ?_
 rintro j T L0 ⟨k,v,w,hv,hw,hk,rfl,hl,g3,g8,g9,yU⟩
 obtain⟨tg,rfl⟩:=FV hl g3 g8 g9
 clear hl g3 g8 g9
 refine yE yU ?_
 clear yU L0
 refine O0 3 J (z5 (fun GV=> ?_) (fun GV=> ?_))
 ·refine Z 11 J (fa J Y (ld J Y J (zf (cs:= [_]) rfl rfl rfl (by decide) rfl fun i16=> ?_)))
  refine tS rfl rfl rfl rfl rfl rfl rfl ([-1]) rfl rfl (by simp) (hv.nc) (by simp;omega) rfl fun i17=> ?_
  refine Z 1 J (fa J Y (sO J Y J J J (Z 5 J (fa J Y (ld J Y J (zf (cs:= [_]) rfl rfl rfl (by decide) rfl fun i25=> ?_))))))
  refine tS rfl rfl rfl rfl rfl rfl rfl ([3]) rfl rfl (by simp) (hw.nc) (by simp;omega) rfl fun i26=> ?_
  refine Z 1 J (fa J Y (sO J Y J J J (Z 2 J (ad J (Z 2 J ?_)))))
  exact Or.inl ⟨rfl,_,by omega,k+1,.slice (some (i17,0)) ((List.replicate k (-1:Int)).length+1) none 1,.slice (some (i26,0)) ((List.replicate k (3:Int)).length+1) none 1,.inr ⟨i17,by simp⟩,.inr ⟨i26,by simp⟩,by omega,rfl,rfl,rfl,rfl,rfl,(by rw [List.replicate_succ',List.replicate_succ'];exact Y)⟩
 refine Z 4 J (Or.inr ⟨nofun,?_⟩)
 refine OX 6 J (zI J J J ?_)
 have e:(min (max 1 z) 2).toNat=k:=by omega
 rcases hv with⟨_,h0⟩|⟨i,rfl⟩
 ·omega
 rcases hw with⟨_,h0⟩|⟨j,rfl⟩
 ·omega
 refine⟨_,⟨i5,rfl,rfl⟩,?_⟩
 rw [e]
 exact Sub.nd (KB (by omega) (by omega)) Y
structure zh where
 qL:Nat→Int
 n:Nat
 WI:Nat→Nat→Bool
 gen:Int
def zh.Ok (S:zh):Prop:=1≤S.n∧S.n≤2∧(∀p,0≤S.qL p∧S.qL p≤3)∧0≤S.gen∧S.gen≤4611686018427387904
def dR (S:zh) (b:Nat):Nat→z0
 |4=> .slice (some (b,0)) S.n (some S.n) 4
 |5=>vi S.gen
 |j=>vi (S.qL j)
def B5 (S:zh) (j:Nat):z0:= .bool (S.WI (j/4) (j%4))
theorem UT (S:zh) (b:Nat) {j:Nat} (h:j<4):dR S b j=vi (S.qL j):=by
 rcases(by omega:j=0∨j=1∨j=2∨j=3)with rfl|rfl|rfl|rfl<;>rfl
theorem Nm (S:zh) {c p k:Nat} (hp:p<4) (hk:k=c*4+p):B5 S k= .bool (S.WI c p):=by
 subst hk;unfold B5
 rw [show(c*4+p)/4=c by omega,show(c*4+p)%4=p by omega]
abbrev tV (a:Nat) (S:zh) (b:Nat):List SP:= [z3 zO a (6,dR S b),z3 zO b (S.n*4,B5 S)]
def wV (a:Nat) (S:zh):SP:=fun h=> ∃b,S.Ok∧Sat (tV a S b) h
theorem jY (a:Nat) (S:zh): ∀h,wV a S h→ ∃b,S.Ok∧Sat (tV a S b) h:=fun _ h=>h
theorem eZ (a:Nat) (S:zh): ∀h,wV a S h→S.Ok:=fun _ ⟨_,h,_⟩=>h
theorem qa {a b:Nat} {S:zh} (hS:S.Ok) {f g:Nat→z0} (hf: ∀j,j<6→f j=dR S b j) (hg: ∀j,j<S.n*4→g j=B5 S j): ∀h,Sat [z3 zO a (6,f),z3 zO b (S.n*4,g)] h→wV a S h:=
 fun _ x=>⟨b,hS,AL (so x (vK hg)) (vK hf)⟩
abbrev zh.WD (S:zh) (p:Nat) (v:Int):zh:= { S with qL:=fun q=>if q=p then v else S.qL q }
abbrev zh.Zd (S:zh) (c p:Nat) (b:Bool):zh:= { S with WI:=fun d q=>if d=c∧q=p then b else S.WI d q }
def zh.pair (S:zh) (p:Int):Int:=if 0≤p∧p<4 then S.qL p.toNat else 0
def zh.cZ (S:zh) (v:Int):Bool:=decide (S.qL 0=v)||decide (S.qL 1=v)||decide (S.qL 2=v)||decide (S.qL 3=v)
def zh.uW (S:zh) (v:Int):zh:=if 1≤v∧v≤3 then { S with WI:=fun d q=>if d<S.n∧q=v.toNat then true else S.WI d q } else S
def zh.drop (S:zh) (p:Int):zh:=if 0≤p∧p<4 then(S.uW (S.qL p.toNat)).WD p.toNat 0 else S
def zh.fresh (S:zh):zh:= { S with qL:=fun _=>0,WI:=fun _ _=>false,gen:=S.gen+1 }
def zh.least (S:zh):Option Int:=if S.cZ 1=false then some 1 else if S.cZ 2=false then some 2 else if S.cZ 3=false then some 3 else none
def zh.ask (S:zh) (p:Int):Int×Bool×zh:=if 0≤p∧p<4 then(if 0<S.qL p.toNat then(S.qL p.toNat,false,S)else match S.least with
 |some v=>(v,false,S.WD p.toNat v)
 |none=>(1,true,S.fresh.WD p.toNat 1))else(0,false,S)
def zh.take (S:zh) (c v:Int):Bool×zh:=if(0≤c∧c<S.n)∧1≤v∧v≤3 then(S.WI c.toNat v.toNat,S.Zd c.toNat v.toNat false)else(false,S)
theorem zh.Ok.WD {S:zh} (h:S.Ok) (p:Nat) {v:Int} (hv:0≤v∧v≤3):(S.WD p v).Ok:=⟨h.1,h.2.1,fun q=>by
 show 0≤(if q=p then v else S.qL q)∧(if q=p then v else S.qL q)≤3
 split
 ·exact hv
 exact h.2.2.1 q,h.2.2.2⟩
theorem zh.Ok.Zd {S:zh} (h:S.Ok) (c p:Nat) (b:Bool):(S.Zd c p b).Ok:=h
theorem zh.Ok.uW {S:zh} (h:S.Ok) (v:Int):(S.uW v).Ok:=by unfold zh.uW;split<;>exact h
theorem sZ (S:zh) (b:Nat) {p:Nat} (hp:p<4) (v:Int) {k:Nat} (hk:k=p): ∀j,j<6→upd (dR S b) k (vi v) j=dR (S.WD p v) b j:=by
 subst hk
 intro j hj
 unfold upd
 by_cases e:j=k
 ·rw [if_pos e,e,UT _ _ hp];show vi v=vi (if k=k then v else _);rw [if_pos rfl]
 rw [if_neg e]
 rcases(by omega:j<4∨j=4∨j=5)with h|rfl|rfl
 ·rw [UT _ _ h,UT _ _ h];show _=vi (if j=k then v else _);rw [if_neg e]
 ·rfl
 rfl
theorem DU (S:zh) {c p k:Nat} (hp:p<4) (b:Bool) (hk:k=c*4+p): ∀j,j<S.n*4→upd (B5 S) k (.bool b) j=B5 (S.Zd c p b) j:=by
 subst hk
 intro j hj
 unfold upd B5
 show(if j=c*4+p then z0.bool b else .bool (S.WI (j/4) (j%4)))= .bool (if j/4=c∧j%4=p then b else S.WI (j/4) (j%4))
 by_cases e:j=c*4+p
 ·rw [if_pos e,if_pos (by omega)]
 rw [if_neg e,if_neg (by omega)]
theorem tY (R:List SP) (p:Int):yH 178 [vi p] (R) fun v L=>v= .bool (decide (0≤p∧p<4))∧L=R:=by
 refine SW.intro rfl Tryz.func178 rfl ?_
 refine O0 8 J (z5 (fun h4=> ?_) (fun h4=> ?_))
 ·refine Z 7 J (zI J J J (⟨_,⟨yT ?_,rfl⟩,Y⟩))
  simp;omega
 refine Z 7 J (zI J J J (⟨_,⟨yT ?_,rfl⟩,Y⟩))
 simp;omega
theorem bT (R:List SP) (p:Int):yH 203 [vi p] (R) fun v L=>v= .bool (decide (1≤p∧p≤3))∧L=R:=by
 refine SW.intro rfl Tryz.func203 rfl ?_
 refine O0 8 J (z5 (fun h4=> ?_) (fun h4=> ?_))
 ·refine Z 7 J (zI J J J (⟨_,⟨yT ?_,rfl⟩,Y⟩))
  simp;omega
 refine Z 7 J (zI J J J (⟨_,⟨yT ?_,rfl⟩,Y⟩))
 simp;omega
theorem ed (R:List SP) (a:Nat) (S:zh) (p:Int):yH 195 [vp a 0,vi p] (z3 wV a S::R) fun w L=>w=vi (S.pair p)∧L=z3 wV a S::R:=by
 refine ze (jY a S) fun b hS=> ?_
 dsimp only [tV,List.cons_append,List.nil_append]
 have lU:=hS.1
 have Vn:=hS.2.1
 refine SW.intro rfl Tryz.func195 rfl ?_
 refine O0 8 J (Z0 (tY _ _) J (z5 (fun h6=> ?_) (fun h6=> ?_)))
 ·refine Z 9 J (fa J Y (zo rfl (fun _=>zw rfl rfl rfl (by omega) (by omega)) ?_))
  refine lf J Y (UT S b (by omega)) (Z 3 J (zI J J J ?_))
  have e:S.pair p=S.qL (p.toNat+(0+0)):=if_pos (by omega)
  rw [e]
  exact⟨_,⟨rfl,rfl⟩,Sub.qi (qa hS (fun _ _=>rfl) fun _ _=>rfl) Y⟩
 refine Z 8 J (zI J J J ?_)
 have e:S.pair p=0:=if_neg (by omega)
 rw [e]
 exact⟨_,⟨rfl,rfl⟩,Sub.qi (qa hS (fun _ _=>rfl) fun _ _=>rfl) Y⟩
theorem O2 (R:List SP) (a:Nat) (S:zh):yH 38 [vp a 0] (z3 wV a S::R) fun w L=>w=vi S.gen∧L=z3 wV a S::R:=by
 refine ze (jY a S) fun b hS=> ?_
 dsimp only [tV,List.cons_append,List.nil_append]
 have lU:=hS.1
 have Vn:=hS.2.1
 refine SW.intro rfl Tryz.func38 rfl ?_
 exact O0 8 J (fa J Y (lf J Y J (Z 3 J (zI J J J ⟨_,⟨rfl,rfl⟩,Sub.qi (qa hS (fun _ _=>rfl) fun _ _=>rfl) Y⟩))))
def zh.WB (S:zh) (c v:Int):zh:=if(0≤c∧c<S.n)∧1≤v∧v≤3 then S.Zd c.toNat v.toNat true else S
theorem Ia (R:List SP) (a b:Nat) (S:zh) (Vn:S.n≤2) (c v:Int):yH 215 [vp a 0,vi c,vi v] (z3 zO a (6,dR S b)::z3 zO b (S.n*4,B5 S)::R) fun w L=>w= .tuple []∧L=z3 zO a (6,dR S b)::z3 zO b (S.n*4,B5 (S.WB c v))::R:=by
 refine SW.intro rfl Tryz.func215 rfl ?_
 refine O0 4 J (z5 (fun h7=> ?_) (fun h7=> ?_))
 ·refine Z 4 J (fa J Y (lf J Y J (zo rfl (fun _=>vD rfl rfl rfl rfl rfl) ?_)))
  refine Z 1 J (z5 (fun YM=> ?_) (fun YM=> ?_))
  ·refine Z 3 J (Z0 (bT _ _) J (z5 (fun VI=> ?_) (fun VI=> ?_)))
   ·refine Z 6 J (fa J Y (lf J Y J (Z 2 J (zo rfl (fun _=>uo rfl rfl rfl (by omega) (by omega)) ?_))))
    refine zo rfl (fun _=>zw rfl rfl rfl (by omega) (by omega)) ?_
    refine sF J Y J J (Z 1 J (wq J J ?_))
    have e:S.WB c v=S.Zd c.toNat v.toNat true:=if_pos (by omega)
    rw [e]
    exact⟨_,⟨rfl,rfl⟩,(Sub.one (vK (i:=b) (DU S (c:=c.toNat) (p:=v.toNat) (by omega) true (by omega)))).trans Y⟩
   refine Z 4 J (wq J J ?_)
   have e:S.WB c v=S:=if_neg (by omega)
   rw [e]
   exact fq
  refine Z 8 J (wq J J ?_)
  have e:S.WB c v=S:=if_neg (by omega)
  rw [e]
  exact fq
 refine Z 16 J (wq J J ?_)
 have e:S.WB c v=S:=if_neg (by omega)
 rw [e]
 exact fq
def zh.ui (S:zh) (v:Int) (c:Nat):zh:=if 1≤v∧v≤3 then { S with WI:=fun d q=>if d<c∧q=v.toNat then true else S.WI d q } else S
theorem zh.rI (S:zh) (v:Int):S.ui v 0=S:=by
 unfold zh.ui;split
 ·have:(fun(d q:Nat)=>if d<0∧q=v.toNat then true else S.WI d q)=S.WI:=by funext d q;rw [if_neg (by omega)]
  rw [this]
 rfl
theorem zh.rH (S:zh) (v:Int) (c:Nat) (hc:c<S.n):(S.ui v c).WB c v=S.ui v (c+1):=by
 unfold zh.ui zh.WB
 by_cases h:1≤v∧v≤3
 ·rw [if_pos h,if_pos h,if_pos ⟨⟨Int.natCast_nonneg c,Int.ofNat_lt.2 hc⟩,h⟩]
  have:(fun(d q:Nat)=>if d=(c:Int).toNat∧q=v.toNat then true else if d<c∧q=v.toNat then true else S.WI d q)=fun d q=>if d<c+1∧q=v.toNat then true else S.WI d q:=by
   funext d q
   by_cases h1:d<c+1∧q=v.toNat
   ·rw [if_pos h1]
    by_cases h2:d=(c:Int).toNat∧q=v.toNat
    ·rw [if_pos h2]
    rw [if_neg h2,if_pos (by omega)]
   rw [if_neg h1,if_neg (by omega),if_neg (by omega)]
  show({ S with WI:=_ } :zh)=_
  rw [←this]
 rw [if_neg h,if_neg h,if_neg (fun e=>h e.2)]
theorem zh.DV (S:zh) (v:Int) (c:Nat):(S.ui v c).n=S.n∧(S.ui v c).qL=S.qL∧(S.ui v c).gen=S.gen:=by unfold zh.ui;split<;>exact⟨rfl,rfl,rfl⟩
theorem A8 {S S':zh} (h1:S'.n=S.n) (h2:S'.qL=S.qL) (h3:S'.gen=S.gen) (b j:Nat):dR S' b j=dR S b j:=by
 unfold dR;split<;>simp [h1,h2,h3]
theorem zh.IA (S:zh) (c v:Int):(S.WB c v).n=S.n∧(S.WB c v).qL=S.qL∧(S.WB c v).gen=S.gen:=by unfold zh.WB;split<;>exact⟨rfl,rfl,rfl⟩
theorem zh.sK (S:zh) (v:Int):S.ui v S.n=S.uW v:=rfl
theorem bQ (R:List SP) (a:Nat) (S:zh) (v:Int):yH 179 [vp a 0,vi v] (z3 wV a S::R) fun w L=>w= .tuple []∧L=z3 wV a (S.uW v)::R:=by
 refine ze (jY a S) fun b hS=> ?_
 dsimp only [tV,List.cons_append,List.nil_append]
 have lU:=hS.1
 have Vn:=hS.2.1
 refine SW.intro rfl Tryz.func179 rfl ?_
 refine O0 4 J (fa J Y (lf J Y J (zo rfl (fun _=>vD rfl rfl rfl rfl rfl) ?_)))
 refine Z 3 J (zy (fun j T L=> ∃(c:Nat),(c≤S.n)∧j=S.n-c∧T.len=2∧Tm.get 0 T=some (vp a 0)∧Tm.get 1 T=some (vi v)∧Tm.get 9 T=some (vi (S.n:Nat))∧Tm.get 10 T=some (vi (c:Nat))∧Sub L (z3 zO a (6,dR (S.ui v c) b)::z3 zO b ((S.ui v c).n*4,B5 (S.ui v c))::R)) (S.n) ⟨0,by omega,by omega,rfl,rfl,rfl,rfl,rfl,(by rw [S.rI];exact Sub.refl _)⟩ ?_)
 rintro j T L0 ⟨c,hc,rfl,hl,g0,g1,g9,YL,yU⟩
 obtain⟨tg,rfl⟩:=GY hl g0 g1 g9 YL
 clear hl g0 g1 g9 YL
 refine yE yU ?_
 clear yU L0
 refine O0 3 J (z5 (fun Gq=> ?_) (fun Gq=> ?_))
 ·refine Z 15 J ?_
  have hN:=S.DV v c
  refine Z2 (Ia _ _ b (S.ui v c) (by omega) _ _) J Y Y (Z 2 J (ad J (Z 2 J ?_)))
  exact Or.inl ⟨rfl,_,by omega,c+1,by omega,rfl,rfl,rfl,rfl,rfl,rfl,(by have h1:=(S.ui v c).IA c v;rw [←S.rH v c (by omega),h1.1];exact(Sub.one (vK (i:=a) (f:=dR (S.ui v c) b) (g:=dR ((S.ui v c).WB c v) b) fun j _=>(A8 h1.1 h1.2.1 h1.2.2 b j).symm)).trans Y)⟩
 refine Z 4 J (Or.inr ⟨nofun,?_⟩)
 refine wq J J ?_
 have e:c=S.n:=by omega
 subst e
 rw [S.sK]
 exact⟨_,⟨rfl,rfl⟩,Sub.qi (qa (hS.uW v) (fun _ _=>rfl) fun _ _=>rfl) Y⟩
theorem IZ (R:List SP) (a:Nat) (S:zh) (p:Int):yH 131 [vp a 0,vi p] (z3 wV a S::R) fun w L=>w= .tuple []∧L=z3 wV a (S.drop p)::R:=by
 refine ze (jY a S) fun b hS=> ?_
 dsimp only [tV,List.cons_append,List.nil_append]
 have lU:=hS.1
 have Vn:=hS.2.1
 refine SW.intro rfl Tryz.func131 rfl ?_
 refine O0 4 J (Z0 (tY _ _) J (z5 (fun h5=> ?_) (fun h5=> ?_)))
 ·refine Z 10 J (fa J Y (zo rfl (fun _=>zw rfl rfl rfl (by omega) (by omega)) ?_))
  refine lf J Y (UT S b (by omega)) (zd (M:=z3 wV a S::R) (Sub.qi (qa hS (fun _ _=>rfl) fun _ _=>rfl) Y) ?_)
  refine Z1 (bQ _ _ _ _) J Y (wj (jY a (S.uW (S.qL (p.toNat+(0+0))))) fun b hS2=> ?_)
  dsimp only [tV,List.cons_append,List.nil_append]
  refine Z 5 J (fa J Y (zo rfl (fun _=>zw rfl rfl rfl (by omega) (by omega)) ?_))
  refine sF J Y J J (Z 1 J (wq J J ?_))
  have e1:S.drop p=(S.uW (S.qL p.toNat)).WD p.toNat 0:=if_pos h5
  rw [e1]
  exact⟨_,⟨rfl,rfl⟩,Sub.qi (qa (hS2.WD p.toNat (v:=0) (by omega)) (sZ _ b (p:=p.toNat) (by omega) 0 (by omega)) fun _ _=>rfl) Y⟩
 refine Z 4 J (wq J J ?_)
 have e1:S.drop p=S:=if_neg h5
 rw [e1]
 exact⟨_,⟨rfl,rfl⟩,Sub.qi (qa hS (fun _ _=>rfl) fun _ _=>rfl) Y⟩
theorem z2P (S:zh) (c:Nat) (h:c<4): [vi (S.qL 0),vi (S.qL 1),vi (S.qL 2),vi (S.qL 3)][((c:Int)).toNat]? =some (vi (S.qL c)):=by
 rcases(by omega:c=0∨c=1∨c=2∨c=3)with rfl|rfl|rfl|rfl<;>rfl
def zh.l7 (S:zh) (v:Int):Prop:=(1<v→S.cZ 1=true)∧(2<v→S.cZ 2=true)∧(3<v→S.cZ 3=true)
theorem zh.sC {S:zh} {v:Int} (h1:1≤v∧v≤3) (ht:S.l7 v) (hv:S.cZ v=false):S.least=some v:=by
 obtain⟨a,b,_⟩:=ht
 unfold zh.least
 rcases(by omega:v=1∨v=2∨v=3)with rfl|rfl|rfl
 ·rw [if_pos hv]
 ·rw [if_neg (by rw [a (by omega)];nofun),if_pos hv]
 rw [if_neg (by rw [a (by omega)];nofun),if_neg (by rw [b (by omega)];nofun),if_pos hv]
theorem zh.sB {S:zh} (ht:S.l7 4):S.least=none:=by
 obtain⟨a,b,c⟩:=ht
 unfold zh.least
 rw [if_neg (by rw [a (by omega)];nofun),if_neg (by rw [b (by omega)];nofun),if_neg (by rw [c (by omega)];nofun)]
theorem zh.aI {S:zh} {v:Int} (ht:S.l7 v) (h1:1≤v) (h:S.cZ v=true):S.l7 (v+1):=by
 obtain⟨t1,t2,t3⟩:=ht
 refine⟨fun _=> ?_,fun _=> ?_,fun _=> ?_⟩
 ·rcases(by omega:v=1∨1<v)with rfl|e
  ·exact h
  exact t1 e
 ·rcases(by omega:v=2∨2<v)with rfl|e
  ·exact h
  exact t2 e
 rcases(by omega:v=3∨3<v)with rfl|e
 ·exact h
 exact t3 e
theorem DT {g:Nat→z0} {c:Nat} (hg: ∀j,j<c*4→g j= .bool false): ∀j,j<(c+1)*4→ua g (c*4+0) [.bool false,.bool false,.bool false,.bool false] j= .bool false:=by
 intro j hj
 unfold ua
 by_cases h:c*4≤j
 ·rcases(by omega:j=c*4∨j=c*4+1∨j=c*4+2∨j=c*4+3)with rfl|rfl|rfl|rfl<;>simp
 rw [if_neg (by omega)];exact hg j (by omega)
theorem IY (S:zh) (b:Nat) {f:Nat→z0} (hf: ∀j,4≤j→j<6→f j=dR S.fresh b j): ∀j,j<6→ua f 0 [vi 0,vi 0,vi 0,vi 0] j=dR S.fresh b j:=by
 intro j hj
 rcases(by omega:j=0∨j=1∨j=2∨j=3∨4≤j)with rfl|rfl|rfl|rfl|h
 ·rfl
 ·rfl
 ·rfl
 ·rfl
 unfold ua
 rw [if_pos (Nat.zero_le _),List.getElem?_eq_none (by show 4≤j-0;omega)]
 exact hf j h hj
theorem O3 (R:List SP) (a b:Nat) (S:zh) (v:Int):yH 202 [vp a 0,vi v] (z3 zO a (6,dR S b)::R) fun w L=>w= .bool (S.cZ v)∧L=z3 zO a (6,dR S b)::R:=by
 refine SW.intro rfl Tryz.func202 rfl ?_
 refine O0 9 J (fa J Y (qJ rfl (fun _ h=>vB (vs:= [vi (S.qL 0),vi (S.qL 1),vi (S.qL 2),vi (S.qL 3)]) rfl rfl (by omega) rfl h) ?_))
 refine Z 3 J (zy (fun j T L=> ∃(c:Nat),(c≤4)∧(∀q,q<c→S.qL q≠v)∧j=4-c∧T.len=2∧Tm.get 1 T=some (vi v)∧Tm.get 10 T=some (.agg [vi (S.qL 0),vi (S.qL 1),vi (S.qL 2),vi (S.qL 3)])∧Tm.get 11 T=some (vi (c:Nat))∧Sub L (z3 zO a (6,dR S b)::R)) (4) ⟨0,by omega,fun q h=>absurd h (Nat.not_lt_zero q),by omega,rfl,rfl,rfl,rfl,Y⟩ ?_)
 rintro j T L0 ⟨c,hc,YR,rfl,hl,g1,YL,kA,yU⟩
 obtain⟨tg,rfl⟩:=FV hl g1 YL kA
 clear hl g1 YL kA
 refine yE yU ?_
 clear yU L0
 refine O0 3 J (z5 (fun ke=> ?_) (fun ke=> ?_))
 ·refine Z 8 J (zo rfl (fun _=>bg (v:=vi (S.qL c)) rfl rfl rfl (by omega) (by omega) (z2P S c (by omega))) ?_)
  refine Z 7 J (z5 (fun j4=> ?_) (fun j4=> ?_))
  ·refine Z 7 J (Or.inr ⟨nofun,?_⟩)
   refine zI J J J (⟨_,⟨congrArg z0.bool ?_,rfl⟩,Y⟩)
   unfold zh.cZ
   rcases(by omega:c=0∨c=1∨c=2∨c=3)with rfl|rfl|rfl|rfl<;>simp [j4]
  refine Z 4 J (ad J (Z 2 J ?_))
  exact Or.inl ⟨rfl,_,by omega,c+1,by omega,fun q h=>by { rcases Nat.lt_succ_iff_lt_or_eq.1 h with h|h;exact YR q h;subst h;exact j4 },rfl,rfl,rfl,rfl,rfl,Y⟩
 refine Z 4 J (Or.inr ⟨nofun,?_⟩)
 refine OX 5 J (zI J J J (⟨_,⟨congrArg z0.bool ?_,rfl⟩,Y⟩))
 have hc4:c=4:=by omega
 subst hc4
 unfold zh.cZ
 simp [YR 0 (by omega),YR 1 (by omega),YR 2 (by omega),YR 3 (by omega)]
theorem Ii (R:List SP) (a:Nat) (S:zh) (c v:Int):yH 159 [vp a 0,vi c,vi v] (z3 wV a S::R) fun w L=>w= .bool (S.take c v).1∧L=z3 wV a (S.take c v).2::R:=by
 refine ze (jY a S) fun b hS=> ?_
 dsimp only [tV,List.cons_append,List.nil_append]
 have lU:=hS.1
 have Vn:=hS.2.1
 refine SW.intro rfl Tryz.func159 rfl ?_
 refine O0 9 J (z5 (fun h9=> ?_) (fun h9=> ?_))
 ·refine Z 21 J (zI J J J ?_)
  have e:S.take c v=(false,S):=if_neg (by omega)
  rw [e]
  exact⟨_,⟨rfl,rfl⟩,Sub.qi (qa hS (fun _ _=>rfl) fun _ _=>rfl) Y⟩
 refine Z 4 J (fa J Y (lf J Y J (zo rfl (fun _=>vD rfl rfl rfl rfl rfl) ?_)))
 refine Z 1 J (z5 (fun Q9=> ?_) (fun Q9=> ?_))
 ·refine Z 13 J (zI J J J ?_)
  have e:S.take c v=(false,S):=if_neg (by omega)
  rw [e]
  exact⟨_,⟨rfl,rfl⟩,Sub.qi (qa hS (fun _ _=>rfl) fun _ _=>rfl) Y⟩
 refine Z 3 J (Z0 (bT _ _) J (z5 (fun Vy=> ?_) (fun Vy=> ?_)))
 ·refine Z 9 J (fa J Y (lf J Y J (Z 2 J (zo rfl (fun _=>uo rfl rfl rfl (by omega) (by omega)) ?_))))
  refine zo rfl (fun _=>zw rfl rfl rfl (by omega) (by omega)) ?_
  refine lf J Y (Nm S (c:=c.toNat) (p:=v.toNat) (by omega) (by omega)) (Z 6 J (fa J Y (lf J Y J (Z 2 J (zo rfl (fun _=>uo rfl rfl rfl (by omega) (by omega)) ?_)))))
  refine zo rfl (fun _=>zw rfl rfl rfl (by omega) (by omega)) ?_
  refine sF J Y J J (Z 7 J (zI J J J ?_))
  have e:S.take c v=(S.WI c.toNat v.toNat,S.Zd c.toNat v.toNat false):=if_pos (by omega)
  rw [e]
  exact⟨_,⟨rfl,rfl⟩,Sub.qi (qa (S:=S.Zd c.toNat v.toNat false) (hS.Zd _ _ _) (fun _ _=>rfl) (DU S (c:=c.toNat) (p:=v.toNat) (by omega) false (by omega))) Y⟩
 refine Z 9 J (zI J J J ?_)
 have e:S.take c v=(false,S):=if_neg (by omega)
 rw [e]
 exact⟨_,⟨rfl,rfl⟩,Sub.qi (qa hS (fun _ _=>rfl) fun _ _=>rfl) Y⟩
theorem O1 (R:List SP) (a:Nat) (S:zh) (p:Int) (hg:S.gen≤4611686018427387903):yH 158 [vp a 0,vi p] (z3 wV a S::R) fun w L=>w= .tuple [vi (S.ask p).1,.bool (S.ask p).2.1]∧L=z3 wV a (S.ask p).2.2::R:=by
 refine ze (jY a S) fun b hS=> ?_
 dsimp only [tV,List.cons_append,List.nil_append]
 have lU:=hS.1
 have Vn:=hS.2.1
 have hgl:=hS.2.2.2.1
 refine SW.intro rfl Tryz.func158 rfl ?_
 refine O0 9 J (Z0 (tY _ _) J (z5 (fun h9=> ?_) (fun h9=> ?_)))
 ·refine Z 10 J (fa J Y (zo rfl (fun _=>zw rfl rfl rfl (by omega) (by omega)) ?_))
  refine lf J Y (UT S b (by omega)) (Z 1 J (z5 (fun Q9=> ?_) (fun Q9=> ?_)))
  ·refine Z 7 J (fa J Y (zo rfl (fun _=>zw rfl rfl rfl (by omega) (by omega)) ?_))
   refine lf J Y (UT S b (by omega)) (Z 4 J (qt J J J J ?_))
   have e:S.ask p=(S.qL p.toNat,false,S):=by { unfold zh.ask;rw [if_pos h9];exact if_pos Q9 }
   rw [e]
   exact⟨_,⟨rfl,rfl⟩,Sub.qi (qa hS (fun _ _=>rfl) fun _ _=>rfl) Y⟩
  refine Z 9 J (zy (fun j T L=> ∃(v:Int),(1≤v∧v≤4)∧(S.l7 v)∧j=(4-v).toNat∧T.len=5∧Tm.get 0 T=some (vp a 0)∧Tm.get 1 T=some (vi p)∧Tm.get 6 T=some (vi v)∧Sub L (z3 zO a (6,dR S b)::z3 zO b (S.n*4,B5 S)::R)) (3) ⟨1,by omega,⟨by omega,by omega,by omega⟩,by omega,rfl,rfl,rfl,rfl,Y⟩ ?_)
  rintro j T L0 ⟨v,hv,ht,rfl,hl,g0,g1,g6,yU⟩
  obtain⟨tg,rfl⟩:=FV hl g0 g1 g6
  clear hl g0 g1 g6
  refine yE yU ?_
  clear yU L0
  refine O0 5 J (z5 (fun QN=> ?_) (fun QN=> ?_))
  ·refine Z 9 J (Z1 (O3 _ _ b S _) J Y (zV (fun dj=> ?_) (fun dj=> ?_)))
   ·refine Z 6 J (ad J (Z 2 J ?_))
    exact Or.inl ⟨rfl,_,by omega,v+1,by omega,zh.aI ht (by omega) dj,rfl,rfl,rfl,rfl,rfl,Y⟩
   refine Z 9 J (fa J Y (zo rfl (fun _=>zw rfl rfl rfl (by omega) (by omega)) ?_))
   refine sF J Y J J (Z 8 J (Or.inr ⟨nofun,?_⟩))
   refine qt J J J J ?_
   have hl:=zh.sC (by omega) ht dj
   have e:S.ask p=(v,false,S.WD p.toNat v):=by { unfold zh.ask;rw [if_pos h9];exact(if_neg Q9).trans (by rw [hl]) }
   rw [e]
   exact⟨_,⟨rfl,rfl⟩,Sub.qi (qa (hS.WD p.toNat (v:=v) (by omega)) (sZ S b (p:=p.toNat) (by omega) v (by omega)) fun _ _=>rfl) Y⟩
  refine Z 3 J (Or.inr ⟨nofun,?_⟩)
  refine OX 4 J (fa J Y (lf J Y J (ad J (Z 1 J (fa J Y (sF J Y J J (Z 4 J (zo rfl (fun _=>bc (cs:= [vi 0,vi 0,vi 0,vi 0]) rfl rfl rfl) ?_))))))))
  refine Z 1 J (fa J Y (UP rfl rfl rfl rfl rfl rfl (by show 0+0+4≤6;omega) ?_))
  refine Z 6 J (fa J Y (lf J Y J (zo rfl (fun _=>vD rfl rfl rfl rfl rfl) ?_)))
  refine Z 3 J ?_
  have hv4:v=4:=by omega
  subst hv4
  refine zy (fun j T L=> ∃(c:Nat) (f g:Nat→z0),(c≤S.n)∧(∀j,j<6→f j=dR S.fresh b j)∧(∀j,j<c*4→g j= .bool false)∧j=S.n-c∧T.len=5∧Tm.get 0 T=some (vp a 0)∧Tm.get 1 T=some (vi p)∧Tm.get 54 T=some (vi (S.n:Nat))∧Tm.get 55 T=some (vi (c:Nat))∧Sub L (z3 zO a (6,f)::z3 zO b (S.n*4,g)::R)) (S.n) ⟨0,ua (upd (dR S b) 5 (vi (S.gen+1))) 0 [vi 0,vi 0,vi 0,vi 0],B5 S,by omega,IY S b fun j h1 h2=>by { rcases(by omega:j=4∨j=5)with rfl|rfl<;>rfl },fun j h=>by omega,by omega,rfl,rfl,rfl,rfl,rfl,Sub.refl _⟩ ?_
  rintro j T L0 ⟨c,f,g,hc,hf,hg,rfl,hl,g0,g1,LG,g55,yU⟩
  obtain⟨tg,rfl⟩:=GY hl g0 g1 LG g55
  clear hl g0 g1 LG g55
  refine yE yU ?_
  clear yU L0
  refine O0 3 J (z5 (fun HH=> ?_) (fun HH=> ?_))
  ·refine Z 14 J (fa J Y ?_)
   have hfn:S.fresh.n=S.n:=rfl
   refine lf J Y (hf _ (by omega)) (Z 1 J (zo rfl (fun _=>bc (cs:= [.bool false,.bool false,.bool false,.bool false]) rfl rfl rfl) ?_))
   refine zo rfl (fun _=>uo rfl rfl rfl (by omega) (by omega)) ?_
   refine UP rfl rfl rfl rfl rfl rfl (by show c*4+4≤S.n*4;omega) ?_
   refine Z 2 J (ad J (Z 2 J ?_))
   exact Or.inl ⟨rfl,_,by omega,c+1,f,ua g ((c:Int).toNat*4+0) (z0.agg [.bool false,.bool false,.bool false,.bool false]).cells,by omega,hf,DT hg,rfl,rfl,rfl,rfl,rfl,rfl,Y⟩
  refine Z 4 J (Or.inr ⟨nofun,?_⟩)
  refine OX 5 J (fa J Y (zo rfl (fun _=>zw rfl rfl rfl (by omega) (by omega)) ?_))
  refine sF J Y J J (Z 7 J (qt J J J J ?_))
  have hl:=zh.sB ht
  have e:S.ask p=(1,true,S.fresh.WD p.toNat 1):=by { unfold zh.ask;rw [if_pos h9];exact(if_neg Q9).trans (by rw [hl]) }
  rw [e]
  have hSf:S.fresh.Ok:=⟨hS.1,hS.2.1,fun _=>by { show 0≤(0:Int)∧(0:Int)≤3;omega },by { show 0≤S.gen+1;omega },by { show S.gen+1≤_;omega }⟩
  have Uz:c=S.n:=by omega
  subst Uz
  refine⟨_,⟨rfl,rfl⟩,Sub.qi (qa (b:=b) (hSf.WD p.toNat (v:=1) (by omega)) (f:=upd f (p.toNat+(0+0)) (vi 1)) (fun j hj=> ?_) (fun j hj=> ?_)) Y⟩
  ·have:=sZ S.fresh b (p:=p.toNat) (by omega) 1 (k:=p.toNat+(0+0)) (by omega) j hj
   rw [←this];unfold upd;split;rfl;exact hf j hj
  exact(hg j hj).trans rfl
 refine Z 9 J (qt J J J J ?_)
 have e:S.ask p=(0,false,S):=if_neg h9
 rw [e]
 exact⟨_,⟨rfl,rfl⟩,Sub.qi (qa hS (fun _ _=>rfl) fun _ _=>rfl) Y⟩
theorem O5 (R:List SP) (z:Int):yH 64 [vi z] (R) fun v L=> ∃a,v=vp a 0∧L=z3 wV a ⟨fun _=>0,(min (max 1 z) 2).toNat,fun _ _=>false,0⟩::R:=by
 refine SW.intro rfl Tryz.func64 rfl ?_
 refine O0 7 J (zo rfl (fun _=>tp rfl rfl rfl rfl rfl) ?_)
 refine zo rfl (fun _=>tq rfl rfl rfl rfl rfl) ?_
 refine bL (n:=(min (max 1 z) 2).toNat) (.bool false) (by simp [z0.cells]) rfl rfl rfl rfl (by omega) (by omega) (by omega) fun i6=> ?_
 refine bu [_,_,_,_,_,_] J Y Y J (yu rfl rfl rfl rfl fun i8=> ?_)
 refine Z 3 J (zI J J J (⟨_,⟨i8,rfl,rfl⟩,?_⟩))
 refine Sub.qi (K1:=zC) (K2:=zO) (a1:=i8) (a2:=i6) (x1:=_) (x2:=_) (fun h x=> ?_) Y
 refine⟨i6,⟨by show 1≤(min (max 1 z) 2).toNat;omega,by show(min (max 1 z) 2).toNat≤2;omega,fun _=>by show 0≤(0:Int)∧(0:Int)≤3;omega,by show(0:Int)≤0;omega,by show(0:Int)≤_;omega⟩,AL (so x (vK fun j _=>rfl)) fun f hf=> ?_⟩
 exact vE (f:=dR _ i6) (fun j hj=>by
  rcases(by have:j<6:=hj;omega:j=0∨j=1∨j=2∨j=3∨j=4∨j=5)with rfl|rfl|rfl|rfl|rfl|rfl<;>rfl) f hf
structure qG where
 op:Int
 a:Int
 b:Int
 n:Int
abbrev qs (x:qG):List z0:= [vi x.op,vi x.a,vi x.b,vi x.n]
structure uO where
 yC:Int
 z4:Int
 frame:Int
 write:Bool
 user:Bool
 iP:Bool
abbrev gZ (x:uO):List z0:= [vi x.yC,vi x.z4,vi x.frame,.bool x.write,.bool x.user,.bool x.iP]
abbrev gH (v:z0):List z0:= [v]
def Gv {α:Type} (p:α→Bool) (xs:List α):Int:=match xs.findIdx? p with
 |some i=>(i:Nat)
 |none=> -1
theorem VL {α:Type} {p:α→Bool} {xs:List α} (h: ∀(k:Nat) (x:α),xs[k]? =some x→p x=false):Gv p xs= -1:=by
 unfold Gv
 rw [List.findIdx?_eq_none_iff.2 fun x hx=>by obtain⟨i,hi⟩:=List.mem_iff_getElem?.1 hx;exact h i x hi]
theorem VM {α:Type} {p:α→Bool} {xs:List α} {c:Nat} {x:α} (hx:xs[c]? =some x) (hp:p x=true) (h: ∀(k:Nat) (x:α),k<c→xs[k]? =some x→p x=false):Gv p xs=(c:Nat):=by
 have hc:c<xs.length:=by
  rcases Nat.lt_or_ge c xs.length with h|h
  ·exact h
  rw [List.getElem?_eq_none h]at hx;cases hx
 unfold Gv
 rw [List.findIdx?_eq_some_iff_getElem.2 ⟨hc,by rw [List.getElem?_eq_getElem hc]at hx;cases hx;exact hp,fun j hj=>by rw [h j xs[j] hj (List.getElem?_eq_getElem (by omega))];nofun⟩]
theorem gf {α:Type} (p:α→Bool) (xs:List α):(Gv p xs= -1∧ ∀x,x ∈ xs→p x=false)∨ ∃c x,Gv p xs=(c:Nat)∧c<xs.length∧xs[c]? =some x∧p x=true∧ ∀(k:Nat) (y:α),k<c→xs[k]? =some y→p y=false:=by
 cases e:xs.findIdx? p with
 |none=>
  refine .inl ⟨by unfold Gv;rw [e],fun x hx=>List.findIdx?_eq_none_iff.1 e x hx⟩
 |some c=>
  obtain⟨hc,h1,h2⟩:=List.findIdx?_eq_some_iff_getElem.1 e
  refine .inr ⟨c,xs[c],by unfold Gv;rw [e],hc,List.getElem?_eq_getElem hc,h1,fun k y hk hy=> ?_⟩
  have:=h2 k hk
  rw [List.getElem?_eq_getElem (by omega)]at hy
  cases hy
  simpa using this
theorem r6 {α:Type} (p:α→Bool) (xs:List α):decide ((0:Int)≤Gv p xs)=xs.any p:=by
 rcases gf p xs with⟨h,h2⟩|⟨c,x,h,h2,h3,h4,h5⟩
 ·rw [h,Eq.comm,List.any_eq_false.2 fun x hx=>by rw [h2 x hx];nofun];rfl
 rw [h,decide_eq_true (Int.natCast_nonneg c),Eq.comm,List.any_eq_true];exact⟨x,List.mem_iff_getElem?.2 ⟨c,h3⟩,h4⟩
theorem Up {α:Type} {p:α→Bool} {xs:List α} {c:Nat} {x:α} (hx:xs[c]? =some x) (hp:p x=true) (h: ∀(k:Nat) (y:α),k<c→xs[k]? =some y→p y=false):(xs.take (c+1)).filter (fun x=> !p x)=xs.take c:=by
 rw [List.take_add_one,hx,List.filter_append]
 simp only [Option.toList,List.filter_cons,hp,List.filter_nil]
 simp only [Bool.not_true,Bool.false_eq_true,if_false,List.append_nil]
 refine List.filter_eq_self.2 fun y hy=> ?_
 obtain⟨k,hk⟩:=List.mem_iff_getElem?.1 hy
 rw [List.getElem?_take]at hk
 split at hk
 ·rw [h k y ‹_› hk];rfl
 cases hk
theorem jw {α:Type} {p:α→Bool} {xs:List α} {c:Nat} {x:α} (hx:xs[c]? =some x):(xs.take (c+1)).filter (fun x=> !p x)=(xs.take c).filter (fun x=> !p x)++if p x then []else [x]:=by
 rw [List.take_add_one,hx,List.filter_append]
 congr 1
 cases e:p x<;>simp [e]
theorem lO (E R:List SP) (v:z0) (xs:List uO) (hn:xs.length≤1000000) (p:uO→Bool) (f:FuncId) (a b:List z0) (hf: ∀x,x ∈ xs→ ∀R',yH f (a++ [.agg (gZ x)]++b) (E++R') fun w L=>w= .bool (p x)∧L=E++R'):yH 237 [v,.func f a b] (z3 (zX gZ 6) v xs::(E++R)) fun w L=>w=vi (Gv p xs)∧L=z3 (zX gZ 6) v xs::(E++R):=by
 refine SW.intro rfl Tryz.func237 rfl ?_
 refine O0 8 J (qJ rfl (fun _ h=>yI rfl rfl rfl rfl rfl h) ?_)
 refine Z 3 J (zy (fun j T L=> ∃(c:Nat),(c≤xs.length)∧(∀(k:Nat) (x:uO),k<c→xs[k]? =some x→p x=false)∧j=xs.length-c∧T.len=2∧Tm.get 0 T=some (v)∧Tm.get 1 T=some (.func f a b)∧Tm.get 7 T=some (vi (xs.length:Nat))∧Tm.get 8 T=some (vi (c:Nat))∧Sub L (z3 (zX gZ 6) v xs::(E++R))) (xs.length) ⟨0,by omega,fun k x h=>absurd h (Nat.not_lt_zero k),by omega,rfl,rfl,rfl,rfl,rfl,Y⟩ ?_)
 rintro j T L0 ⟨c,hc,YR,rfl,hl,g0,g1,g7,g8,yU⟩
 obtain⟨tg,rfl⟩:=GY hl g0 g1 g7 g8
 clear hl g0 g1 g7 g8
 refine yE yU ?_
 clear yU L0
 refine O0 3 J (z5 (fun h9=> ?_) (fun h9=> ?_))
 ·refine Z 16 J ?_
  obtain⟨x,hx⟩: ∃x,xs[c]? =some x:=⟨xs[c]'(by omega),List.getElem?_eq_getElem (by omega)⟩
  refine qJ rfl (fun _ h=>yg rfl rfl rfl (by omega) (by omega) h) ?_
  refine qJ rfl (fun _ h=>Gt rfl rfl rfl hx h) ?_
  refine zd (Yz (z3 (zX gZ 6) v xs) E R) ?_
  refine Z0 (hf x (List.mem_iff_getElem?.2 ⟨_,hx⟩) (z3 (zX gZ 6) v xs::R)) J (zd (jn (z3 (zX gZ 6) v xs) E R) ?_)
  refine zV (fun j4=> ?_) (fun j4=> ?_)
  ·refine Z 8 J (Or.inr ⟨nofun,?_⟩)
   exact zI J J J ⟨_,⟨congrArg vi (VM hx j4 YR).symm,rfl⟩,Y⟩
  refine Z 4 J (ad J (Z 2 J ?_))
  exact Or.inl ⟨rfl,_,by omega,c+1,by omega,fun k y hk hy=>by { rcases Nat.lt_succ_iff_lt_or_eq.1 hk with hk|rfl;exact YR k y hk hy;rw [hx]at hy;cases hy;exact j4 },rfl,rfl,rfl,rfl,rfl,rfl,Y⟩
 refine Z 4 J (Or.inr ⟨nofun,?_⟩)
 exact OX 5 J (zI J J J ⟨_,⟨congrArg vi (VL fun k x hk=>YR k x (by { have:=(List.getElem?_eq_some_iff.1 hk).1;omega }) hk).symm,rfl⟩,Y⟩)
theorem As (E R:List SP) (v:z0) (xs:List qG) (hn:xs.length≤1000000) (p:qG→Bool) (f:FuncId) (a b:List z0) (hf: ∀x,x ∈ xs→ ∀R',yH f (a++ [.agg (qs x)]++b) (E++R') fun w L=>w= .bool (p x)∧L=E++R'):yH 152 [v,.func f a b] (z3 (zX qs 4) v xs::(E++R)) fun w L=>w=vi (Gv p xs)∧L=z3 (zX qs 4) v xs::(E++R):=by
 refine SW.intro rfl Tryz.func152 rfl ?_
 refine O0 8 J (qJ rfl (fun _ h=>yI rfl rfl rfl rfl rfl h) ?_)
 refine Z 3 J (zy (fun j T L=> ∃(c:Nat),(c≤xs.length)∧(∀(k:Nat) (x:qG),k<c→xs[k]? =some x→p x=false)∧j=xs.length-c∧T.len=2∧Tm.get 0 T=some (v)∧Tm.get 1 T=some (.func f a b)∧Tm.get 7 T=some (vi (xs.length:Nat))∧Tm.get 8 T=some (vi (c:Nat))∧Sub L (z3 (zX qs 4) v xs::(E++R))) (xs.length) ⟨0,by omega,fun k x h=>absurd h (Nat.not_lt_zero k),by omega,rfl,rfl,rfl,rfl,rfl,Y⟩ ?_)
 rintro j T L0 ⟨c,hc,YR,rfl,hl,g0,g1,g7,g8,yU⟩
 obtain⟨tg,rfl⟩:=GY hl g0 g1 g7 g8
 clear hl g0 g1 g7 g8
 refine yE yU ?_
 clear yU L0
 refine O0 3 J (z5 (fun h9=> ?_) (fun h9=> ?_))
 ·refine Z 16 J ?_
  obtain⟨x,hx⟩: ∃x,xs[c]? =some x:=⟨xs[c]'(by omega),List.getElem?_eq_getElem (by omega)⟩
  refine qJ rfl (fun _ h=>yg rfl rfl rfl (by omega) (by omega) h) ?_
  refine qJ rfl (fun _ h=>Gt rfl rfl rfl hx h) ?_
  refine zd (Yz (z3 (zX qs 4) v xs) E R) ?_
  refine Z0 (hf x (List.mem_iff_getElem?.2 ⟨_,hx⟩) (z3 (zX qs 4) v xs::R)) J (zd (jn (z3 (zX qs 4) v xs) E R) ?_)
  refine zV (fun j4=> ?_) (fun j4=> ?_)
  ·refine Z 8 J (Or.inr ⟨nofun,?_⟩)
   exact zI J J J ⟨_,⟨congrArg vi (VM hx j4 YR).symm,rfl⟩,Y⟩
  refine Z 4 J (ad J (Z 2 J ?_))
  exact Or.inl ⟨rfl,_,by omega,c+1,by omega,fun k y hk hy=>by { rcases Nat.lt_succ_iff_lt_or_eq.1 hk with hk|rfl;exact YR k y hk hy;rw [hx]at hy;cases hy;exact j4 },rfl,rfl,rfl,rfl,rfl,rfl,Y⟩
 refine Z 4 J (Or.inr ⟨nofun,?_⟩)
 exact OX 5 J (zI J J J ⟨_,⟨congrArg vi (VL fun k x hk=>YR k x (by { have:=(List.getElem?_eq_some_iff.1 hk).1;omega }) hk).symm,rfl⟩,Y⟩)
theorem FH (E R:List SP) (v:z0) (xs:List Int) (hn:xs.length≤1000000) (p:Int→Bool) (f:FuncId) (a b:List z0) (hf: ∀x,x ∈ xs→ ∀R',yH f (a++ [vi x]++b) (E++R') fun w L=>w= .bool (p x)∧L=E++R'):yH 197 [v,.func f a b] (z3 (zX ye 1) v xs::(E++R)) fun w L=>w=vi (Gv p xs)∧L=z3 (zX ye 1) v xs::(E++R):=by
 refine SW.intro rfl Tryz.func197 rfl ?_
 refine O0 8 J (qJ rfl (fun _ h=>yI rfl rfl rfl rfl rfl h) ?_)
 refine Z 3 J (zy (fun j T L=> ∃(c:Nat),(c≤xs.length)∧(∀(k:Nat) (x:Int),k<c→xs[k]? =some x→p x=false)∧j=xs.length-c∧T.len=2∧Tm.get 0 T=some (v)∧Tm.get 1 T=some (.func f a b)∧Tm.get 7 T=some (vi (xs.length:Nat))∧Tm.get 8 T=some (vi (c:Nat))∧Sub L (z3 (zX ye 1) v xs::(E++R))) (xs.length) ⟨0,by omega,fun k x h=>absurd h (Nat.not_lt_zero k),by omega,rfl,rfl,rfl,rfl,rfl,Y⟩ ?_)
 rintro j T L0 ⟨c,hc,YR,rfl,hl,g0,g1,g7,g8,yU⟩
 obtain⟨tg,rfl⟩:=GY hl g0 g1 g7 g8
 clear hl g0 g1 g7 g8
 refine yE yU ?_
 clear yU L0
 refine O0 3 J (z5 (fun h9=> ?_) (fun h9=> ?_))
 ·refine Z 16 J ?_
  obtain⟨x,hx⟩: ∃x,xs[c]? =some x:=⟨xs[c]'(by omega),List.getElem?_eq_getElem (by omega)⟩
  refine qJ rfl (fun _ h=>yg rfl rfl rfl (by omega) (by omega) h) ?_
  refine lE 0 J Y J hx J (zd (Yz (z3 (zX ye 1) v xs) E R) ?_)
  refine Z0 (hf x (List.mem_iff_getElem?.2 ⟨_,hx⟩) (z3 (zX ye 1) v xs::R)) J (zd (jn (z3 (zX ye 1) v xs) E R) ?_)
  refine zV (fun j4=> ?_) (fun j4=> ?_)
  ·refine Z 8 J (Or.inr ⟨nofun,?_⟩)
   exact zI J J J ⟨_,⟨congrArg vi (VM hx j4 YR).symm,rfl⟩,Y⟩
  refine Z 4 J (ad J (Z 2 J ?_))
  exact Or.inl ⟨rfl,_,by omega,c+1,by omega,fun k y hk hy=>by { rcases Nat.lt_succ_iff_lt_or_eq.1 hk with hk|rfl;exact YR k y hk hy;rw [hx]at hy;cases hy;exact j4 },rfl,rfl,rfl,rfl,rfl,rfl,Y⟩
 refine Z 4 J (Or.inr ⟨nofun,?_⟩)
 exact OX 5 J (zI J J J ⟨_,⟨congrArg vi (VL fun k x hk=>YR k x (by { have:=(List.getElem?_eq_some_iff.1 hk).1;omega }) hk).symm,rfl⟩,Y⟩)
theorem Ar (E R:List SP) (v:z0) (xs:List qG) (hn:xs.length≤1000000) (p:qG→Bool) (f:FuncId) (a b:List z0) (hf: ∀x,x ∈ xs→ ∀R',yH f (a++ [.agg (qs x)]++b) (E++R') fun w L=>w= .bool (p x)∧L=E++R'):yH 102 [v,.func f a b] (z3 (zX qs 4) v xs::(E++R)) fun w L=>w= .bool (xs.any p)∧L=z3 (zX qs 4) v xs::(E++R):=by
 refine SW.intro rfl Tryz.func102 rfl ?_
 exact O0 8 J (Z0 (As _ _ _ _ hn p f a b hf) J (Z 4 J (zI J J J ⟨_,⟨congrArg z0.bool (r6 p xs),rfl⟩,Y⟩)))
theorem FF (R:List SP) (v:z0) (xs:List Int) (hn:xs.length≤1000000) (z:Int):yH 236 [v,vi z] (z3 (zX ye 1) v xs::R) fun w L=>w=vi (Gv (fun x=>decide (x=z)) xs)∧L=z3 (zX ye 1) v xs::R:=by
 refine SW.intro rfl Tryz.func236 rfl ?_
 refine O0 8 J (qJ rfl (fun _ h=>yI rfl rfl rfl rfl rfl h) ?_)
 refine Z 3 J (zy (fun j T L=> ∃(c:Nat),(c≤xs.length)∧(∀(k:Nat) (x:Int),k<c→xs[k]? =some x→decide (x=z)=false)∧j=xs.length-c∧T.len=2∧Tm.get 0 T=some (v)∧Tm.get 1 T=some (vi z)∧Tm.get 7 T=some (vi (xs.length:Nat))∧Tm.get 8 T=some (vi (c:Nat))∧Sub L (z3 (zX ye 1) v xs::R)) (xs.length) ⟨0,by omega,fun k x h=>absurd h (Nat.not_lt_zero k),by omega,rfl,rfl,rfl,rfl,rfl,Y⟩ ?_)
 rintro j T L0 ⟨c,hc,YR,rfl,hl,g0,g1,g7,g8,yU⟩
 obtain⟨tg,rfl⟩:=GY hl g0 g1 g7 g8
 clear hl g0 g1 g7 g8
 refine yE yU ?_
 clear yU L0
 refine O0 3 J (z5 (fun h9=> ?_) (fun h9=> ?_))
 ·refine Z 16 J ?_
  obtain⟨x,hx⟩: ∃x,xs[c]? =some x:=⟨xs[c]'(by omega),List.getElem?_eq_getElem (by omega)⟩
  refine qJ rfl (fun _ h=>yg rfl rfl rfl (by omega) (by omega) h) ?_
  refine lE 0 J Y J hx J (Z 1 J (z5 (fun j4=> ?_) (fun j4=> ?_)))
  ·refine Z 8 J (Or.inr ⟨nofun,?_⟩)
   exact zI J J J ⟨_,⟨congrArg vi (VM (p:=fun x=>decide (x=z)) hx (decide_eq_true j4.symm) YR).symm,rfl⟩,Y⟩
  refine Z 4 J (ad J (Z 2 J ?_))
  exact Or.inl ⟨rfl,_,by omega,c+1,by omega,fun k y hk hy=>by { rcases Nat.lt_succ_iff_lt_or_eq.1 hk with hk|rfl;exact YR k y hk hy;rw [hx]at hy;cases hy;exact decide_eq_false fun e=>j4 e.symm },rfl,rfl,rfl,rfl,rfl,rfl,Y⟩
 refine Z 4 J (Or.inr ⟨nofun,?_⟩)
 exact OX 5 J (zI J J J ⟨_,⟨congrArg vi (VL fun k x hk=>YR k x (by { have:=(List.getElem?_eq_some_iff.1 hk).1;omega }) hk).symm,rfl⟩,Y⟩)
theorem FC (R:List SP) (v:z0) (xs:List Int) (hn:xs.length≤1000000) (z:Int):yH 196 [v,vi z] (z3 (zX ye 1) v xs::R) fun w L=>w= .bool (xs.any fun x=>decide (x=z))∧L=z3 (zX ye 1) v xs::R:=by
 refine SW.intro rfl Tryz.func196 rfl ?_
 exact O0 8 J (Z1 (FF _ _ _ (by omega) _) J Y (Z 4 J (zI J J J ⟨_,⟨congrArg z0.bool (r6 _ xs),rfl⟩,Y⟩)))
theorem FB (R:List SP) (v:z0) (xs:List uO) (hn:xs.length≤1000000):yH 52 [v] (z3 (zX gZ 6) v xs::R) fun w L=>L=z3 (zX gZ 6) w xs::z3 (zX gZ 6) v xs::R:=by
 refine SW.intro rfl Tryz.func52 rfl ?_
 refine WZ (v:=v) fun a c e hv hz=> ?_
 subst hv
 cases a with
 |none=>
  have hx:=(hz rfl).1
  subst hx
  refine vj (j8 (zo rfl (fun _=>rfl) (zJ (vj (vj (j8 (zo rfl (fun _=>rfl) ?_)))))))
  refine zo rfl (fun _=>zG rfl rfl rfl rfl) ?_
  refine zJ (mU rfl (vj (j8 (zo rfl (fun _=>rfl) (zJ (xS ?_))))))
  refine⟨.inr rfl,_,fun _ h=>(zu (zm rfl) qY),?_⟩
  exact⟨_,rfl,Sub.jF (en:=gZ) (es:=6) (fun _=>rfl) (by decide) 0 _⟩
 |some p=>
  refine vj (j8 (zo rfl (fun _=>rfl) (zJ (vj (vj (j8 (zo rfl (fun _=>rfl) ?_)))))))
  refine zo rfl (fun _=>zG rfl rfl rfl rfl) ?_
  refine zJ (kS rfl (mT (vj (j8 ?_))))
  refine zf (cs:= []) rfl rfl rfl (by decide) rfl fun i5=> ?_
  refine zd (Sub.Mo (en:=gZ) (es:=6) (fun _=>rfl) (by decide) i5 0 _) ?_
  refine zo rfl (fun _=>rfl) ?_
  refine tR rfl rfl rfl rfl rfl rfl rfl (by simp;omega) (fun _=>rfl) fun a7 c7 e7=> ?_
  refine zo rfl (fun _=>rfl) (zJ (xS ?_))
  refine⟨.inr rfl,_,fun _ h=>(zu (zm rfl) qY),?_⟩
  refine⟨_,rfl,?_⟩
  simp only [List.nil_append,List.length_nil,Nat.zero_add]
  exact Y
theorem JJ (R:List SP) (v:z0) (xs:List qG) (hn:xs.length≤1000000):yH 69 [v] (z3 (zX qs 4) v xs::R) fun w L=>L=z3 (zX qs 4) w xs::z3 (zX qs 4) v xs::R:=by
 refine SW.intro rfl Tryz.func69 rfl ?_
 refine WZ (v:=v) fun a c e hv hz=> ?_
 subst hv
 cases a with
 |none=>
  have hx:=(hz rfl).1
  subst hx
  refine vj (j8 (zo rfl (fun _=>rfl) (zJ (vj (vj (j8 (zo rfl (fun _=>rfl) ?_)))))))
  refine zo rfl (fun _=>zG rfl rfl rfl rfl) ?_
  refine zJ (mU rfl (vj (j8 (zo rfl (fun _=>rfl) (zJ (xS ?_))))))
  refine⟨.inr rfl,_,fun _ h=>(zu (zm rfl) qY),?_⟩
  exact⟨_,rfl,Sub.jF (en:=qs) (es:=4) (fun _=>rfl) (by decide) 0 _⟩
 |some p=>
  refine vj (j8 (zo rfl (fun _=>rfl) (zJ (vj (vj (j8 (zo rfl (fun _=>rfl) ?_)))))))
  refine zo rfl (fun _=>zG rfl rfl rfl rfl) ?_
  refine zJ (kS rfl (mT (vj (j8 ?_))))
  refine zf (cs:= []) rfl rfl rfl (by decide) rfl fun i5=> ?_
  refine zd (Sub.Mo (en:=qs) (es:=4) (fun _=>rfl) (by decide) i5 0 _) ?_
  refine zo rfl (fun _=>rfl) ?_
  refine tR rfl rfl rfl rfl rfl rfl rfl (by simp;omega) (fun _=>rfl) fun a7 c7 e7=> ?_
  refine zo rfl (fun _=>rfl) (zJ (xS ?_))
  refine⟨.inr rfl,_,fun _ h=>(zu (zm rfl) qY),?_⟩
  refine⟨_,rfl,?_⟩
  simp only [List.nil_append,List.length_nil,Nat.zero_add]
  exact Y
theorem F9 (R:List SP) (v:z0) (xs:List Int) (hn:xs.length≤1000000):yH 145 [v] (z3 (zX ye 1) v xs::R) fun w L=>L=z3 (zX ye 1) w xs::z3 (zX ye 1) v xs::R:=by
 refine SW.intro rfl Tryz.func145 rfl ?_
 refine WZ (v:=v) fun a c e hv hz=> ?_
 subst hv
 cases a with
 |none=>
  have hx:=(hz rfl).1
  subst hx
  refine vj (j8 (zo rfl (fun _=>rfl) (zJ (vj (vj (j8 (zo rfl (fun _=>rfl) ?_)))))))
  refine zo rfl (fun _=>zG rfl rfl rfl rfl) ?_
  refine zJ (mU rfl (vj (j8 (zo rfl (fun _=>rfl) (zJ (xS ?_))))))
  refine⟨.inr rfl,_,fun _ h=>(zu (zm rfl) qY),?_⟩
  exact⟨_,rfl,Sub.jF (en:=ye) (es:=1) (fun _=>rfl) (by decide) 0 _⟩
 |some p=>
  refine vj (j8 (zo rfl (fun _=>rfl) (zJ (vj (vj (j8 (zo rfl (fun _=>rfl) ?_)))))))
  refine zo rfl (fun _=>zG rfl rfl rfl rfl) ?_
  refine zJ (kS rfl (mT (vj (j8 ?_))))
  refine zf (cs:= []) rfl rfl rfl (by decide) rfl fun i5=> ?_
  refine zd (Sub.Mo (en:=ye) (es:=1) (fun _=>rfl) (by decide) i5 0 _) ?_
  refine zo rfl (fun _=>rfl) ?_
  refine tR rfl rfl rfl rfl rfl rfl rfl (by simp;omega) (fun _=>rfl) fun a7 c7 e7=> ?_
  refine zo rfl (fun _=>rfl) (zJ (xS ?_))
  refine⟨.inr rfl,_,fun _ h=>(zu (zm rfl) qY),?_⟩
  refine⟨_,rfl,?_⟩
  simp only [List.nil_append,List.length_nil,Nat.zero_add]
  exact Y
theorem FE (E R:List SP) (v:z0) (xs:List uO) (hn:xs.length≤1000000) (p:uO→Bool) (f:FuncId) (a b:List z0) (hf: ∀x,x ∈ xs→ ∀R',yH f (a++ [.agg (gZ x)]++b) (E++R') fun w L=>w= .bool (p x)∧L=E++R'):yH 245 [v,.func f a b] (z3 (zX gZ 6) v xs::(E++R)) fun w L=>L=z3 (zX gZ 6) w (xs.filter fun x=> !p x)::(E++R):=by
 refine SW.intro rfl Tryz.func245 rfl ?_
 refine O0 8 J (Z0 (lO _ _ _ _ hn p f a b hf) J (Z 7 J (z5 (fun ke=> ?_) (fun ke=> ?_))))
 ·refine Z 8 J (zI J J J ?_)
  have e:(xs.filter fun x=> !p x)=xs:=List.filter_eq_self.2 fun x hx=>by
   rcases gf p xs with⟨_,h2⟩|⟨c,x0,dO,_⟩
   ·rw [h2 x hx];rfl
   omega
  rw [e]
  exact⟨_,rfl,Y⟩
 obtain⟨c,x0,dO,gE,Wr,FQ,cj⟩:=(gf p xs).resolve_left (fun e=>ke e.1)
 rw [dO]
 clear ke dO
 refine eU (v:=v) (fun e=>by rw [e]at gE;exact absurd gE (Nat.not_lt_zero _)) fun i off cp n g0 hv hr hg iU Yh=> ?_
 subst hv
 have LW:=hr.1
 refine Z 7 J (ad J (Z 3 J (zy (fun j T L=> ∃(d t:Nat) (g:Nat→z0),(d<t)∧(t≤xs.length)∧(((xs.take t).filter fun x=> !p x).length=d)∧(zj g off (d*6)=((xs.take t).filter fun x=> !p x).flatMap gZ)∧(∀(k:Nat) (x:uO),t≤k→xs[k]? =some x→zj g (k*6+off) 6=gZ x)∧j=xs.length-t∧T.len=3∧Tm.get 0 T=some (.slice (some (i,off)) xs.length cp 6)∧Tm.get 1 T=some (.func f a b)∧Tm.get 5 T=some (vi (d:Nat))∧Tm.get 6 T=some (vi (t:Nat))∧Sub L (z3 zO i (n,g)::(E++R))) (xs.length-(c+1)) ⟨c,c+1,g0,by omega,by omega,by rw [Up Wr FQ cj,List.length_take];omega,by rw [Up Wr FQ cj,pT (en:=gZ) (es:=6) (fun _=>rfl),←hg,Um _ _ _ _ (Nat.mul_le_mul_right _ (by omega))],fun k x _ h2=>LC iU hg h2,by omega,rfl,rfl,rfl,rfl,rfl,Y⟩ ?_)))
 rintro j T L0 ⟨d,t,g,hd,ht,hk,iV,NL,rfl,hl,g0,g1,g5,g6,yU⟩
 obtain⟨tg,rfl⟩:=GY hl g0 g1 g5 g6
 clear hl g0 g1 g5 g6
 refine yE yU ?_
 clear yU L0
 refine O0 5 J (zo rfl (fun _=>vD rfl rfl rfl rfl rfl) ?_)
 refine Z 1 J (z5 (fun VI=> ?_) (fun VI=> ?_))
 ·refine Z 9 J ?_
  obtain⟨x,hx⟩: ∃x,xs[t]? =some x:=⟨xs[t]'(by omega),List.getElem?_eq_getElem (by omega)⟩
  have hc:=NL t x (Nat.le_refl _) hx
  refine zo rfl (fun _=>uo rfl rfl rfl (by omega) (by omega)) ?_
  refine qJ rfl (fun _ h=>vB (vs:=gZ x) rfl rfl (by omega) (by exact hc) h) ?_
  refine zn rfl rfl rfl fun i7=> ?_
  refine sN J Y Y J J J (Z 4 J (lN J Y Y J J (zd (o7 _ _ E R) ?_)))
  refine Z0 (hf x (List.mem_iff_getElem?.2 ⟨_,hx⟩) _) J (zd (ry _ _ E R) ?_)
  refine zV (fun Uy=> ?_) (fun Uy=> ?_)
  ·refine Z 6 J (ad J (Z 2 J ?_))
   exact Or.inl ⟨rfl,_,by omega,d,t+1,g,by omega,by omega,by rw [jw hx,Uy,if_pos rfl,List.append_nil];exact hk,by rw [jw hx,Uy,if_pos rfl,List.append_nil];exact iV,fun k y h1 h2=>NL k y (by omega) h2,rfl,rfl,rfl,rfl,rfl,rfl,Y⟩
  refine Z 7 J (lN J Y Y J J (zo rfl (fun _=>uo rfl rfl rfl (by omega) (by omega)) ?_))
  refine UP rfl rfl rfl rfl (by rfl) rfl (by show _+6≤n;omega) ?_
  refine Z 3 J (ad J (Z 4 J (ad J (Z 2 J ?_))))
  exact Or.inl ⟨rfl,_,by omega,d+1,t+1,ua g (d*6+off) (gZ x),by omega,by omega,by rw [jw hx,Uy,List.length_append,hk];rfl,by rw [jw hx,Uy,List.flatMap_append,←iV,Nat.add_comm (d*6) off,Nat.add_mul,QV _ _ _ _ _ (by rfl)];rfl,fun k y h1 h2=>by { rw [jg _ _ _ _ _ (.inr (by show _+6≤_;omega))];exact NL k y (by omega) h2 },rfl,rfl,rfl,rfl,rfl,rfl,(show Sub (z3 zO i (n,ua g (d*6+off) (gZ x))::z3 zC i7 (gZ x)::(E++R)) (z3 zO i (n,ua g (d*6+off) (gZ x))::(E++R))from Y)⟩
 refine Z 3 J (Or.inr ⟨nofun,?_⟩)
 refine OX 4 J (zo rfl (fun _=>E4 rfl rfl rfl (by omega) (by omega) (fun k hk=>(hr.2 k hk).2)) ?_)
 refine rL rfl rfl rfl rfl rfl rfl rfl (by omega) fun zs hzs=> ?_
 refine Z 5 J (zo rfl (fun _=>bj rfl rfl rfl (by omega) (by omega) (fun k hk=>(hr.2 k hk).2)) ?_)
 refine Z 3 J (zI J J J ?_)
 have ht2:t=xs.length:=by omega
 subst ht2
 rw [List.take_length]at hk iV
 refine⟨_,rfl,Sub.one fun h s=>Uv (en:=gZ) (es:=6) (fun _=>rfl) (by decide) hk.symm ⟨?_,fun k hk=>⟨(hr.2 k hk).1,?_⟩⟩ ?_ h s⟩
 ·show off+d*_≤n;omega
 ·have:=(hr.2 k hk).2;show d≤k;omega
 show zj _ off (d*6)=_
 rw [←iV];exact jg _ _ _ _ _ (.inl (by show off+d*6≤off+d*6;exact Nat.le_refl _))
theorem FD (E R:List SP) (v:z0) (xs:List Int) (hn:xs.length≤1000000) (p:Int→Bool) (f:FuncId) (a b:List z0) (hf: ∀x,x ∈ xs→ ∀R',yH f (a++ [vi x]++b) (E++R') fun w L=>w= .bool (p x)∧L=E++R'):yH 144 [v,.func f a b] (z3 (zX ye 1) v xs::(E++R)) fun w L=>L=z3 (zX ye 1) w (xs.filter fun x=> !p x)::(E++R):=by
 refine SW.intro rfl Tryz.func144 rfl ?_
 refine O0 8 J (Z0 (FH _ _ _ _ hn p f a b hf) J (Z 7 J (z5 (fun ke=> ?_) (fun ke=> ?_))))
 ·refine Z 8 J (zI J J J ?_)
  have e:(xs.filter fun x=> !p x)=xs:=List.filter_eq_self.2 fun x hx=>by
   rcases gf p xs with⟨_,h2⟩|⟨c,x0,dO,_⟩
   ·rw [h2 x hx];rfl
   omega
  rw [e]
  exact⟨_,rfl,Y⟩
 obtain⟨c,x0,dO,gE,Wr,FQ,cj⟩:=(gf p xs).resolve_left (fun e=>ke e.1)
 rw [dO]
 clear ke dO
 refine eU (v:=v) (fun e=>by rw [e]at gE;exact absurd gE (Nat.not_lt_zero _)) fun i off cp n g0 hv hr hg iU Yh=> ?_
 subst hv
 have LW:=hr.1
 refine Z 7 J (ad J (Z 3 J (zy (fun j T L=> ∃(d t:Nat) (g:Nat→z0),(d<t)∧(t≤xs.length)∧(((xs.take t).filter fun x=> !p x).length=d)∧(zj g off (d*1)=((xs.take t).filter fun x=> !p x).flatMap ye)∧(∀(k:Nat) (x:Int),t≤k→xs[k]? =some x→zj g (k*1+off) 1=ye x)∧j=xs.length-t∧T.len=3∧Tm.get 0 T=some (.slice (some (i,off)) xs.length cp 1)∧Tm.get 1 T=some (.func f a b)∧Tm.get 5 T=some (vi (d:Nat))∧Tm.get 6 T=some (vi (t:Nat))∧Sub L (z3 zO i (n,g)::(E++R))) (xs.length-(c+1)) ⟨c,c+1,g0,by omega,by omega,by rw [Up Wr FQ cj,List.length_take];omega,by rw [Up Wr FQ cj,pT (en:=ye) (es:=1) (fun _=>rfl),←hg,Um _ _ _ _ (Nat.mul_le_mul_right _ (by omega))],fun k x _ h2=>LC iU hg h2,by omega,rfl,rfl,rfl,rfl,rfl,Y⟩ ?_)))
 rintro j T L0 ⟨d,t,g,hd,ht,hk,iV,NL,rfl,hl,g0,g1,g5,g6,yU⟩
 obtain⟨tg,rfl⟩:=GY hl g0 g1 g5 g6
 clear hl g0 g1 g5 g6
 refine yE yU ?_
 clear yU L0
 refine O0 5 J (zo rfl (fun _=>vD rfl rfl rfl rfl rfl) ?_)
 refine Z 1 J (z5 (fun VI=> ?_) (fun VI=> ?_))
 ·refine Z 9 J ?_
  obtain⟨x,hx⟩: ∃x,xs[t]? =some x:=⟨xs[t]'(by omega),List.getElem?_eq_getElem (by omega)⟩
  have hc:=NL t x (Nat.le_refl _) hx
  have kh:g (t+off)=vi x:=by { have h1:zj g (t*1+off) 1= [vi x]:=hc;rw [Nat.mul_one]at h1;exact(List.cons.inj h1).1 }
  refine zo rfl (fun _=>ja rfl rfl rfl (by omega) (by omega)) ?_
  refine lf J Y kh (Z 6 J (zd (Yz _ E R) ?_))
  refine Z0 (hf x (List.mem_iff_getElem?.2 ⟨_,hx⟩) _) J (zd (jn _ E R) ?_)
  refine zV (fun Uy=> ?_) (fun Uy=> ?_)
  ·refine Z 6 J (ad J (Z 2 J ?_))
   exact Or.inl ⟨rfl,_,by omega,d,t+1,g,by omega,by omega,by rw [jw hx,Uy,if_pos rfl,List.append_nil];exact hk,by rw [jw hx,Uy,if_pos rfl,List.append_nil];exact iV,fun k y h1 h2=>NL k y (by omega) h2,rfl,rfl,rfl,rfl,rfl,rfl,Y⟩
  refine Z 8 J (zo rfl (fun _=>ja rfl rfl rfl (by omega) (by omega)) ?_)
  refine sF J Y J J (Z 3 J (ad J (Z 4 J (ad J (Z 2 J ?_)))))
  have hu:upd g (d+off) (vi x)=ua g (d*1+off) (ye x):=by rw [Nat.mul_one];exact Ek _ _ _
  exact Or.inl ⟨rfl,_,by omega,d+1,t+1,upd g (d+off) (vi x),by omega,by omega,by rw [jw hx,Uy,List.length_append,hk];rfl,by rw [hu];rw [jw hx,Uy,List.flatMap_append,←iV,Nat.add_comm (d*1) off,Nat.add_mul,QV _ _ _ _ _ (by rfl)];rfl,fun k y h1 h2=>by { rw [hu];rw [jg _ _ _ _ _ (.inr (by show _+1≤_;omega))];exact NL k y (by omega) h2 },rfl,rfl,rfl,rfl,rfl,rfl,(show Sub (z3 zO i (n,upd g (d+off) (vi x))::(E++R)) (z3 zO i (n,upd g (d+off) (vi x))::(E++R))from Y)⟩
 refine Z 3 J (Or.inr ⟨nofun,?_⟩)
 refine OX 4 J (zo rfl (fun _=>E4 rfl rfl rfl (by omega) (by omega) (fun k hk=>(hr.2 k hk).2)) ?_)
 refine rL rfl rfl rfl rfl rfl rfl rfl (by omega) fun zs hzs=> ?_
 refine Z 5 J (zo rfl (fun _=>bj rfl rfl rfl (by omega) (by omega) (fun k hk=>(hr.2 k hk).2)) ?_)
 refine Z 3 J (zI J J J ?_)
 have ht2:t=xs.length:=by omega
 subst ht2
 rw [List.take_length]at hk iV
 refine⟨_,rfl,Sub.one fun h s=>Uv (en:=ye) (es:=1) (fun _=>rfl) (by decide) hk.symm ⟨?_,fun k hk=>⟨(hr.2 k hk).1,?_⟩⟩ ?_ h s⟩
 ·show off+d*_≤n;omega
 ·have:=(hr.2 k hk).2;show d≤k;omega
 show zj _ off (d*1)=_
 rw [←iV];exact jg _ _ _ _ _ (.inl (by show off+d*1≤off+d*1;exact Nat.le_refl _))
def yJ (z4 level:Nat):Nat:=z4/2^(3*(2-level))%8
theorem wC (z4 level:Nat):yJ z4 level<8:=Nat.mod_lt _ (by decide)
def zF.je (M:zF) (t i:Nat):Nat:=M.rd ((8*t+i:Nat):Int)
theorem zF.ph {M:zF} (h:M.Ok) (z:Int):M.rd z≤18446744073709551615:=by
 unfold zF.rd zF.read
 split
 ·exact h.2.2 _ _
 exact Nat.zero_le _
structure js where
 pl:List Int
 bits:Nat
 w:Bool
 u:Bool
 g:Bool
 fr:Nat
abbrev Lx (pv:z0) (s:js):List z0:= [pv,vu s.bits,.bool s.w,.bool s.u,.bool s.g,vi (s.fr:Nat)]
def js.YU (s:js) (user write:Bool):Int:=if(user=true∧s.u=false)∨(write=true∧s.w=false)then 2 else 0
def zF.walk (M:zF) (z4:Nat):Nat→js→js×Int
 |0,s=>(s,0)
 |k+1,s=>
  let i:=yJ z4 (2-k)
  let x:=M.je s.fr i
  let pl:=s.pl++ [((8*s.fr+i:Nat):Int)]
  if eN x≠0 then(⟨pl,x,false,false,false,0⟩,if eN x=3 then 1 else 4)
  else if fN x<M.n then M.walk z4 k ⟨pl,x,s.w && wB x,s.u && uB x,gB x,fN x⟩
  else(⟨pl,x,false,false,false,0⟩,4)
def zF.za (M:zF) (root z4:Int):js×Int:=if z4<0∨512≤z4 then(⟨[],0,false,false,false,0⟩,3)
 else if 0≤root∧root<M.n then M.walk z4.toNat 3 ⟨[],0,true,true,false,root.toNat⟩
 else(⟨[],0,false,false,false,0⟩,4)
def zF.uK (M:zF) (z4:Nat):Nat→Nat→List Int→Nat×Bool×Bool×List Int
 |0,t,pl=>(t,true,true,pl)
 |k+1,t,pl=>
  let i:=yJ z4 (2-k)
  let x:=M.je t i
  let O4:=pl++ [((8*t+i:Nat):Int)]
  if eN x=3∧k=0 then(if bV x<M.n then(bV x,false,true,O4)else(0,false,false,O4))
  else if eN x≠0 then(0,false,false,O4)
  else if fN x<M.n then M.uK z4 k (fN x) O4 else(0,false,false,O4)
def zF.blind (M:zF) (root z4:Int):Nat×Bool×Bool×List Int:=if z4<0∨512≤z4 then(0,false,false,[])else if 0≤root∧root<M.n then M.uK z4.toNat 3 root.toNat []else(0,false,false,[])
theorem JI (M:zF) (z4 k:Nat) (s:js) (x:Nat) (i:Nat) (hi:i=yJ z4 (2-k)) (hx:x=M.je s.fr i):M.walk z4 (k+1) s=if eN x≠0 then(⟨s.pl++ [((8*s.fr+i:Nat):Int)],x,false,false,false,0⟩,if eN x=3 then 1 else 4)
 else if fN x<M.n then M.walk z4 k ⟨s.pl++ [((8*s.fr+i:Nat):Int)],x,s.w && wB x,s.u && uB x,gB x,fN x⟩
 else(⟨s.pl++ [((8*s.fr+i:Nat):Int)],x,false,false,false,0⟩,4):=by
 subst hi hx;rfl
theorem xR (M:zF) (z4 k t:Nat) (pl:List Int) (x:Nat) (i:Nat) (hi:i=yJ z4 (2-k)) (hx:x=M.je t i):M.uK z4 (k+1) t pl=if eN x=3∧k=0 then(if bV x<M.n then(bV x,false,true,pl++ [((8*t+i:Nat):Int)])else(0,false,false,pl++ [((8*t+i:Nat):Int)]))
 else if eN x≠0 then(0,false,false,pl++ [((8*t+i:Nat):Int)])
 else if fN x<M.n then M.uK z4 k (fN x) (pl++ [((8*t+i:Nat):Int)])else(0,false,false,pl++ [((8*t+i:Nat):Int)]):=by
 subst hi hx;rfl
theorem Hm (p c:Nat):((p/2^(3*(2-c)):Nat):Int)%8=((yJ p c:Nat):Int):=by unfold yJ;rw [Int.natCast_emod];rfl
theorem ur (R:List SP) (p c:Nat) (hp:p<512) (hc:c<3):yH 253 [vi p,vi c] (R) fun v L=>v=vi (yJ p c:Nat)∧L=R:=by
 refine SW.intro rfl Tryz.func253 rfl ?_
 refine O0 8 J (zo rfl (fun _=>zG rfl rfl rfl (Ui rfl)) (qm (by omega) ?_))
 refine Z 2 J (zo rfl (fun _=>zG rfl rfl rfl (pF rfl)) (qm (by omega) ?_))
 refine Z 3 J (zo rfl (fun _=>zG rfl rfl rfl (Ui rfl)) (qm (by omega) ?_))
 refine Z 3 J (zo rfl (fun _=>zG rfl rfl rfl (pF rfl)) (qm (by omega) ?_))
 refine Z 8 J (sb J (ml J (qI (w:=vi ((3*(2-c):Nat):Int)) (by congr 2;omega) ?_)))
 refine zo rfl (fun _=>zG rfl rfl rfl (nw (a:=p) (b:=3*(2-c)) (by omega) (by show _≤64;omega))) ?_
 refine zo rfl (fun _=>zG rfl rfl rfl (nv (Int.natCast_nonneg _) (by decide))) ?_
 refine qI (congrArg vi (Hm p c)) ?_
 exact Z 3 J (zI J J J fq)
theorem dD (R:List SP) (m:Nat) (M:zF) (z:Int):yH 240 [vp m 0,vi z] (z3 zY m M::R) fun v L=>v= .bool (decide (0≤z∧z<M.n))∧L=z3 zY m M::R:=by
 refine SW.intro rfl Tryz.func240 rfl ?_
 refine O0 8 J (z5 (fun h6=> ?_) (fun h6=> ?_))
 ·refine Z 3 J (Z1 (gL _ _ _) J Y (Z 5 J (zI J J J (⟨_,⟨yT ?_,rfl⟩,Y⟩))))
  simp;omega
 refine Z 9 J (zI J J J (⟨_,⟨yT ?_,rfl⟩,Y⟩))
 simp;omega
theorem oO (R:List SP) (m:Nat) (M:zF) (t p c:Nat) (ht:t<1099511627776) (hp:p<512) (hc:c<3):yH 241 [vp m 0,vi t,vi p,vi c] (z3 zY m M::R) fun v L=>v= .tuple [vu (M.je t (yJ p c)),vi ((8*t+yJ p c:Nat):Int)]∧L=z3 zY m M::R:=by
 refine SW.intro rfl Tryz.func241 rfl ?_
 refine O0 8 J (ml J (Z 2 J ?_))
 have hi:=wC p c
 exact Z0 (ur _ _ _ (by omega) (by omega)) J (ad J (Z 6 J (Z1 (J8 _ _ _ _ (by omega)) J Y (Z 13 J (qt J J J J fq)))))
theorem Ez (R:List SP) (e:Int):yH 259 [vi e] (R) fun v L=>v=vi (if e=3 then 1 else 4)∧L=R:=by
 refine SW.intro rfl Tryz.func259 rfl ?_
 refine O0 9 J (z5 (fun h4=> ?_) (fun h4=> ?_))
 ·refine Z 7 J (zI J J J ?_)
  rw [if_pos h4]
  exact fq
 refine Z 8 J (zI J J J ?_)
 rw [if_neg h4]
 exact fq
theorem lJ (R:List SP) (pv:z0) (s:js) (user write:Bool):yH 230 [.agg (Lx pv s),.bool user,.bool write] (R) fun v L=>v=vi (s.YU user write)∧L=R:=by
 refine SW.intro rfl Tryz.func230 rfl ?_
 refine O0 2 J (yu rfl rfl rfl rfl fun i3=> ?_)
 refine Z 6 J (zV (fun h7=> ?_) (fun h7=> ?_))
 ·refine Z 1 J (fa J Y (ld J Y J (zV (fun GV=> ?_) (fun GV=> ?_))))
  ·refine Z 4 J (zV (fun YQ=> ?_) (fun YQ=> ?_))
   ·refine Z 1 J (fa J Y (ld J Y J (zV (fun Q9=> ?_) (fun Q9=> ?_))))
    ·refine Z 11 J (zI J J J (⟨_,⟨congrArg vi ?_,rfl⟩,Y⟩))
     unfold js.YU
     simp [h7,GV,YQ,Q9]
    refine Z 10 J (zI J J J (⟨_,⟨congrArg vi ?_,rfl⟩,Y⟩))
    unfold js.YU
    simp [h7,GV,YQ,Q9]
   refine Z 14 J (zI J J J (⟨_,⟨congrArg vi ?_,rfl⟩,Y⟩))
   unfold js.YU
   simp [h7,GV,YQ]
  refine Z 17 J (zI J J J (⟨_,⟨congrArg vi ?_,rfl⟩,Y⟩))
  unfold js.YU
  simp [h7,GV]
 refine Z 7 J (zV (fun YQ=> ?_) (fun YQ=> ?_))
 ·refine Z 1 J (fa J Y (ld J Y J (zV (fun Q9=> ?_) (fun Q9=> ?_))))
  ·refine Z 11 J (zI J J J (⟨_,⟨congrArg vi ?_,rfl⟩,Y⟩))
   unfold js.YU
   simp [h7,YQ,Q9]
  refine Z 10 J (zI J J J (⟨_,⟨congrArg vi ?_,rfl⟩,Y⟩))
  unfold js.YU
  simp [h7,YQ,Q9]
 refine Z 14 J (zI J J J (⟨_,⟨congrArg vi ?_,rfl⟩,Y⟩))
 unfold js.YU
 simp [h7,YQ]
theorem MC (R:List SP) (m:Nat) (M:zF) (root z4:Int):yH 229 [vp m 0,vi root,vi z4] (z3 zY m M::R) fun w L=> ∃pv,w= .tuple [.agg (Lx pv (M.za root z4).1),vi (M.za root z4).2]∧L=z3 (zX ye 1) pv (M.za root z4).1.pl::z3 zY m M::R:=by
 refine yl (qf m M) fun hM=> ?_
 have hn:=hM.2.1
 refine SW.intro rfl Tryz.func229 rfl ?_
 refine O0 2 J (zn rfl rfl rfl fun i6=> ?_)
 refine Z 7 J (z5 (fun YM=> ?_) (fun YM=> ?_))
 ·refine Z 8 J (bu [_,_,_,_,_,_] J Y Y J (sN J Y Y J J J (Z 3 J (⟨.inr rfl,_,fun _ h=>(zu (yQ rfl (yo rfl (Nat.le_of_ble_eq_true rfl) h)) (zu (zm rfl) qY)),?_⟩))))
  have e:M.za root z4=(⟨[],0,false,false,false,0⟩,3):=by { unfold zF.za;rw [if_pos (by omega)] }
  rw [e]
  exact⟨_,⟨_,rfl,rfl⟩,(Sub.jF (α:=Int) (en:=ye) (es:=1) (fun _=>rfl) (by decide) 0 _).trans Y⟩
 refine Z 3 J (z5 (fun lP=> ?_) (fun lP=> ?_))
 ·refine Z 5 J (bu [_,_,_,_,_,_] J Y Y J (sN J Y Y J J J (Z 3 J (⟨.inr rfl,_,fun _ h=>(zu (yQ rfl (yo rfl (Nat.le_of_ble_eq_true rfl) h)) (zu (zm rfl) qY)),?_⟩))))
  have e:M.za root z4=(⟨[],0,false,false,false,0⟩,3):=by { unfold zF.za;rw [if_pos (by omega)] }
  rw [e]
  exact⟨_,⟨_,rfl,rfl⟩,(Sub.jF (α:=Int) (en:=ye) (es:=1) (fun _=>rfl) (by decide) 0 _).trans Y⟩
 refine Z 9 J (Z1 (dD _ _ M _) J Y (z5 (fun Ja=> ?_) (fun Ja=> ?_)))
 ·refine Z 7 J (bu [_,_,_,_,_,_] J Y Y J (zn rfl rfl rfl fun i8=> ?_))
  refine sN J Y Y J J J (Z 7 J ?_)
  obtain⟨pg,rfl⟩: ∃pg:Nat,z4=pg:=⟨z4.toNat,by omega⟩
  have e0:M.za root pg=M.walk pg 3 ⟨[],0,true,true,false,root.toNat⟩:=by { unfold zF.za;rw [if_neg (by omega),if_pos (by omega)];rfl }
  refine zy (fun j T L=> ∃(c:Nat) (s:js) (pv:z0),(c≤3)∧(s.pl.length=c)∧(s.fr<M.n)∧(M.walk pg (3-c) s=M.walk pg 3 ⟨[],0,true,true,false,root.toNat⟩)∧j=3-c∧T.len=6∧Tm.get 0 T=some (vp m 0)∧Tm.get 2 T=some (vi (pg:Nat))∧Tm.get 6 T=some (vp i6 0)∧Tm.get 8 T=some (vp i8 0)∧Tm.get 28 T=some (vi (c:Nat))∧Sub L (z3 zC i8 (Lx pv s)::z3 zC i6 (Lx (.slice none 0 (some 0) 0) ⟨[],0,false,false,false,0⟩)::z3 (zX ye 1) pv s.pl::z3 zY m M::R)) (3) ⟨0,⟨[],0,true,true,false,root.toNat⟩,.slice none 0 (some 0) 0,by omega,rfl,by show root.toNat<M.n;omega,rfl,by omega,rfl,rfl,rfl,rfl,rfl,rfl,((Sub.jF (α:=Int) (en:=ye) (es:=1) (fun _=>rfl) (by decide) 0 _).trans (by have e:vi root=vi ((root.toNat:Nat):Int):=(by rw [Int.toNat_of_nonneg (by omega)]);rw [e];exact(show Sub _ (z3 zC i8 [.slice none 0 (some 0) 0,.int .u64 (.lit 0),.bool true,.bool true,.bool false,vi ((root.toNat:Nat):Int)]::z3 zC i6 (z0.agg [.slice none 0 (some 0) 0,.int .u64 (.lit 0),.bool false,.bool false,.bool false,.int .i64 (.lit 0)]).cells::z3 (zX ye 1) (.slice none 0 (some 0) 0) []::z3 zY m M::R)from Y)))⟩ ?_
  rintro j T L0 ⟨c,s,pv,hc,hlen,hfr,Qc,rfl,hl,g0,g2,g6,g8,g28,yU⟩
  obtain⟨tg,rfl⟩:=I3 hl g0 g2 g6 g8 g28
  clear hl g0 g2 g6 g8 g28
  refine yE yU ?_
  clear yU L0
  refine WZ (v:=pv) fun a1 c1 e1 hv hz=> ?_
  subst hv
  refine O0 3 J (z5 (fun Vj=> ?_) (fun Vj=> ?_))
  ·refine Z 14 J (fa J Y (ld J Y J (Z 2 J (Z1 (oO _ _ M _ _ _ (by omega) (by omega) (by omega)) J Y ?_))))
   generalize hi:yJ pg c=i
   generalize hx:M.je s.fr i=x
   have Lc:x≤18446744073709551615:=by { rw [←hx];exact zF.ph hM _ }
   have hi8:i<8:=by { rw [←hi];exact wC _ _ }
   rw [show 3-c=(2-c)+1 by omega,JI M pg (2-c) s x i (by rw [←hi,show 2-(2-c)=c by omega]) hx.symm]at Qc
   refine Z 8 J (fa J Y (ld J Y J (Z 1 J (zf (cs:= [_]) rfl rfl rfl (by decide) rfl fun i43=> ?_))))
   refine ZQ rfl rfl rfl rfl rfl rfl rfl ([((8*s.fr+i:Nat):Int)]) rfl rfl (by simp) (by show _+1≤_;omega) rfl fun i44 Xg XG=> ?_
   refine Z 1 J (fa J Y (sO J Y J J J (fa J Y (sO J Y J J J (Z 4 J (Z0 (bq _ x Lc) J (Z 3 J (zn rfl rfl rfl fun i12=> ?_))))))))
   refine sN J Y Y J J J (Z 6 J ?_)
   have hf8:=CF x
   refine Z 1 J (z5 (fun lQ=> ?_) (fun lQ=> ?_))
   ·refine Z 3 J (zW [0,1,0,7,0,16,63,127] [([0,1,2,3,4],[1],some 5),([],[1],some 6),([7],[],none)] (by kernel_rfl) ?_)
    refine z7 (zx J Y (q9 J Y J (ZK 1 J (cz [_,_,_,_,_,_] J Y Y J (ZK 1 J (z8 ⟨(yN J Y J J J z9),?_⟩))))))
    refine Z0 (Ez _ _) J (zJ (z7 (z8 ⟨(yN J Y J J J z9),?_⟩)))
    refine sN J Y Y J J J (zJ (z7 (ZK 1 J (z8 ⟨z9,?_⟩))))
    refine OX 1 J (Or.inr ⟨nofun,?_⟩)
    refine⟨.inr rfl,_,fun _ h=>(zu (yQ rfl (yo rfl (Nat.le_of_ble_eq_true rfl) h)) (zu (zm rfl) qY)),?_⟩
    rw [if_pos lQ]at Qc
    rw [e0,←Qc]
    exact⟨_,⟨_,rfl,rfl⟩,Y⟩
   refine Z 7 J (fa J Y (ld J Y J (Z1 (dD _ _ M _) J Y (z5 (fun Mw=> ?_) (fun Mw=> ?_)))))
   ·refine Z 4 J (zW [0,1,3,7,15,31,0,64,199,455,967,1991,0,4096,0,16384,255,66047,200703,462847,999423,2047999,4194303,8388607] [([0,1,2,3,4,5,6,7,8,9,10,11,12,13,14,15,16],[1,4,7,10,13,15],some 17),([18],[10,13,15],some 19),([20],[13,15],some 21),([22],[15],some 23),([],[],none)] (by kernel_rfl) ?_)
    refine z7 (zx J Y (q9 J Y J (jD (fun lR=> ?_) (fun lR=> ?_))))
    ·refine ZK 1 J (zx J Y (q9 J Y J (ZK 1 J (QA (w:= .bool (s.w && wB x)) (by rw [lR];rfl) ?_))))
     refine zx J Y (q9 J Y J (jD (fun CW=> ?_) (fun CW=> ?_)))
     ·refine ZK 1 J (zx J Y (q9 J Y J (ZK 1 J (QA (w:= .bool (s.u && uB x)) (by rw [CW];rfl) ?_))))
      refine zx J Y (q9 J Y J (zx J Y (q9 J Y J (zx J Y (z8 ⟨(va rfl (fun _ h=>WH rfl rfl rfl h) rfl rfl (Yd lR) (yN J Y J J J (va rfl (fun _ h=>WH rfl rfl rfl h) rfl rfl (Yd CW) (yN J Y J J J (yN J Y J J J (yN J Y J J J z9)))))),?_⟩)))))
      refine sO J Y J J J (zJ (z7 (zx J Y (z8 ⟨(yN J Y J J J (yN J Y J J J (yN J Y J J J z9))),?_⟩))))
      refine sO J Y J J J (zJ (z7 (zx J Y (z8 ⟨(yN J Y J J J (yN J Y J J J z9)),?_⟩))))
      refine sO J Y J J J (zJ (z7 (zx J Y (z8 ⟨(yN J Y J J J z9),?_⟩))))
      refine sO J Y J J J (zJ (z7 (z8 ⟨z9,?_⟩)))
      refine OX 1 J (ad J (Z 2 J ?_))
      rw [if_neg lQ,if_pos (by omega)]at Qc
      exact Or.inl ⟨rfl,_,by omega,c+1,⟨s.pl++ [((8*s.fr+i:Nat):Int)],x,s.w && wB x,s.u && uB x,gB x,fN x⟩,.slice (some (i44,Xg)) (s.pl.length+1) XG 1,by omega,by show(s.pl++ [_]).length=c+1;rw [List.length_append,hlen];rfl,by show fN x<M.n;omega,by rw [←Qc,show 3-(c+1)=2-c by omega],rfl,rfl,rfl,rfl,rfl,rfl,rfl,Y⟩
     refine ZK 4 J (QA (w:= .bool (s.u && uB x)) (by rw [CW];rfl) ?_)
     refine zx J Y (q9 J Y J (zx J Y (q9 J Y J (zx J Y (z8 ⟨(va rfl (fun _ h=>WH rfl rfl rfl h) rfl rfl (Yd lR) (yN J Y J J J (va rfl (fun _ h=>WH rfl rfl rfl h) rfl rfl (Yd CW) (yG rfl (yN J Y J J J (yN J Y J J J z9)))))),?_⟩)))))
     refine sO J Y J J J (zJ (z7 (zx J Y (z8 ⟨(yG rfl (yN J Y J J J (yN J Y J J J z9))),?_⟩))))
     refine sO J Y J J J (zJ (z7 (zx J Y (z8 ⟨(yN J Y J J J (yN J Y J J J z9)),?_⟩))))
     refine sO J Y J J J (zJ (z7 (zx J Y (z8 ⟨(yN J Y J J J z9),?_⟩))))
     refine sO J Y J J J (zJ (z7 (z8 ⟨z9,?_⟩)))
     refine OX 1 J (ad J (Z 2 J ?_))
     rw [if_neg lQ,if_pos (by omega)]at Qc
     exact Or.inl ⟨rfl,_,by omega,c+1,⟨s.pl++ [((8*s.fr+i:Nat):Int)],x,s.w && wB x,s.u && uB x,gB x,fN x⟩,.slice (some (i44,Xg)) (s.pl.length+1) XG 1,by omega,by show(s.pl++ [_]).length=c+1;rw [List.length_append,hlen];rfl,by show fN x<M.n;omega,by rw [←Qc,show 3-(c+1)=2-c by omega],rfl,rfl,rfl,rfl,rfl,rfl,rfl,Y⟩
    refine ZK 4 J (QA (w:= .bool (s.w && wB x)) (by rw [lR];rfl) ?_)
    refine zx J Y (q9 J Y J (jD (fun CW=> ?_) (fun CW=> ?_)))
    ·refine ZK 1 J (zx J Y (q9 J Y J (ZK 1 J (QA (w:= .bool (s.u && uB x)) (by rw [CW];rfl) ?_))))
     refine zx J Y (q9 J Y J (zx J Y (q9 J Y J (zx J Y (z8 ⟨(va rfl (fun _ h=>WH rfl rfl rfl h) rfl rfl (Yd lR) (yG rfl (va rfl (fun _ h=>WH rfl rfl rfl h) rfl rfl (Yd CW) (yN J Y J J J (yN J Y J J J (yN J Y J J J z9)))))),?_⟩)))))
     refine sO J Y J J J (zJ (z7 (zx J Y (z8 ⟨(yN J Y J J J (yN J Y J J J (yN J Y J J J z9))),?_⟩))))
     refine sO J Y J J J (zJ (z7 (zx J Y (z8 ⟨(yN J Y J J J (yN J Y J J J z9)),?_⟩))))
     refine sO J Y J J J (zJ (z7 (zx J Y (z8 ⟨(yN J Y J J J z9),?_⟩))))
     refine sO J Y J J J (zJ (z7 (z8 ⟨z9,?_⟩)))
     refine OX 1 J (ad J (Z 2 J ?_))
     rw [if_neg lQ,if_pos (by omega)]at Qc
     exact Or.inl ⟨rfl,_,by omega,c+1,⟨s.pl++ [((8*s.fr+i:Nat):Int)],x,s.w && wB x,s.u && uB x,gB x,fN x⟩,.slice (some (i44,Xg)) (s.pl.length+1) XG 1,by omega,by show(s.pl++ [_]).length=c+1;rw [List.length_append,hlen];rfl,by show fN x<M.n;omega,by rw [←Qc,show 3-(c+1)=2-c by omega],rfl,rfl,rfl,rfl,rfl,rfl,rfl,Y⟩
    refine ZK 4 J (QA (w:= .bool (s.u && uB x)) (by rw [CW];rfl) ?_)
    refine zx J Y (q9 J Y J (zx J Y (q9 J Y J (zx J Y (z8 ⟨(va rfl (fun _ h=>WH rfl rfl rfl h) rfl rfl (Yd lR) (yG rfl (va rfl (fun _ h=>WH rfl rfl rfl h) rfl rfl (Yd CW) (yG rfl (yN J Y J J J (yN J Y J J J z9)))))),?_⟩)))))
    refine sO J Y J J J (zJ (z7 (zx J Y (z8 ⟨(yG rfl (yN J Y J J J (yN J Y J J J z9))),?_⟩))))
    refine sO J Y J J J (zJ (z7 (zx J Y (z8 ⟨(yN J Y J J J (yN J Y J J J z9)),?_⟩))))
    refine sO J Y J J J (zJ (z7 (zx J Y (z8 ⟨(yN J Y J J J z9),?_⟩))))
    refine sO J Y J J J (zJ (z7 (z8 ⟨z9,?_⟩)))
    refine OX 1 J (ad J (Z 2 J ?_))
    rw [if_neg lQ,if_pos (by omega)]at Qc
    exact Or.inl ⟨rfl,_,by omega,c+1,⟨s.pl++ [((8*s.fr+i:Nat):Int)],x,s.w && wB x,s.u && uB x,gB x,fN x⟩,.slice (some (i44,Xg)) (s.pl.length+1) XG 1,by omega,by show(s.pl++ [_]).length=c+1;rw [List.length_append,hlen];rfl,by show fN x<M.n;omega,by rw [←Qc,show 3-(c+1)=2-c by omega],rfl,rfl,rfl,rfl,rfl,rfl,rfl,Y⟩
   refine Z 5 J (fa J Y (ld J Y J (Z 1 J (bu [_,_,_,_,_,_] J Y Y J (sN J Y Y J J J (Z 3 J (Or.inr ⟨nofun,?_⟩)))))))
   refine⟨.inr rfl,_,fun _ h=>(zu (yQ rfl (yo rfl (Nat.le_of_ble_eq_true rfl) h)) (zu (zm rfl) qY)),?_⟩
   rw [if_neg lQ,if_neg (by omega)]at Qc
   rw [e0,←Qc]
   exact⟨_,⟨_,rfl,rfl⟩,Y⟩
  refine Z 4 J (Or.inr ⟨nofun,?_⟩)
  refine OX 2 J (lN J Y Y J J (sN J Y Y J J J (Z 3 J (⟨.inr rfl,_,fun _ h=>(zu (yQ rfl (yo rfl (Nat.le_of_ble_eq_true rfl) h)) (zu (zm rfl) qY)),?_⟩))))
  have Rp:c=3:=by omega
  subst Rp
  have hw:M.walk pg 3 ⟨[],0,true,true,false,root.toNat⟩=(s,0):=by { rw [←Qc];rfl }
  rw [e0,hw]
  exact⟨_,⟨_,rfl,rfl⟩,Y⟩
 refine Z 5 J (bu [_,_,_,_,_,_] J Y Y J (sN J Y Y J J J (Z 3 J (⟨.inr rfl,_,fun _ h=>(zu (yQ rfl (yo rfl (Nat.le_of_ble_eq_true rfl) h)) (zu (zm rfl) qY)),?_⟩))))
 have e:M.za root z4=(⟨[],0,false,false,false,0⟩,4):=by { unfold zF.za;rw [if_neg (by omega),if_neg (by omega)] }
 rw [e]
 exact⟨_,⟨_,rfl,rfl⟩,(Sub.jF (α:=Int) (en:=ye) (es:=1) (fun _=>rfl) (by decide) 0 _).trans Y⟩
theorem Ey (R:List SP) (m:Nat) (M:zF) (root z4:Int):yH 199 [vp m 0,vi root,vi z4] (z3 zY m M::R) fun w L=> ∃pv,w= .tuple [vi ((M.blind root z4).1:Nat),.bool (M.blind root z4).2.1,.bool (M.blind root z4).2.2.1,pv]∧L=z3 (zX ye 1) pv (M.blind root z4).2.2.2::z3 zY m M::R:=by
 refine yl (qf m M) fun hM=> ?_
 have hn:=hM.2.1
 refine SW.intro rfl Tryz.func199 rfl ?_
 refine O0 12 J (z5 (fun Q9=> ?_) (fun Q9=> ?_))
 ·refine Z 20 J (⟨.inr rfl,_,fun _ h=>(zu (zm rfl) (zu (zm rfl) (zu (zm rfl) (zu (zm rfl) qY)))),?_⟩)
  have e:M.blind root z4=(0,false,false,[]):=by { unfold zF.blind;rw [if_pos (by omega)] }
  rw [e]
  exact⟨_,⟨_,rfl,rfl⟩,(Sub.jF (α:=Int) (en:=ye) (es:=1) (fun _=>rfl) (by decide) 0 _).trans Y⟩
 refine Z 3 J (z5 (fun Ua=> ?_) (fun Ua=> ?_))
 ·refine Z 17 J (⟨.inr rfl,_,fun _ h=>(zu (zm rfl) (zu (zm rfl) (zu (zm rfl) (zu (zm rfl) qY)))),?_⟩)
  have e:M.blind root z4=(0,false,false,[]):=by { unfold zF.blind;rw [if_pos (by omega)] }
  rw [e]
  exact⟨_,⟨_,rfl,rfl⟩,(Sub.jF (α:=Int) (en:=ye) (es:=1) (fun _=>rfl) (by decide) 0 _).trans Y⟩
 refine Z 4 J (Z1 (dD _ _ M _) J Y (z5 (fun QN=> ?_) (fun QN=> ?_)))
 ·refine Z 7 J ?_
  obtain⟨rt,rfl⟩: ∃rt:Nat,root=rt:=⟨root.toNat,by omega⟩
  refine Z 9 J ?_
  obtain⟨pg,rfl⟩: ∃pg:Nat,z4=pg:=⟨z4.toNat,by omega⟩
  have e0:M.blind rt pg=M.uK pg 3 rt []:=by { unfold zF.blind;rw [if_neg (by omega),if_pos (by omega)];rfl }
  refine zy (fun j T L=> ∃(c t:Nat) (pl:List Int) (pv:z0) (b:Bool),(b=decide (c=3))∧(c≤3)∧(pl.length=c)∧(t<M.n)∧(M.uK pg (3-c) t pl=M.uK pg 3 rt [])∧j=3-c∧T.len=5∧Tm.get 0 T=some (vp m 0)∧Tm.get 2 T=some (vi (pg:Nat))∧Tm.get 7 T=some (.bool b)∧Tm.get 8 T=some (.bool false)∧Tm.get 9 T=some (pv)∧Tm.get 10 T=some (vi (t:Nat))∧Tm.get 29 T=some (vi (c:Nat))∧Sub L (z3 (zX ye 1) pv pl::z3 zY m M::R)) (3) ⟨0,rt,[],.slice none 0 (some 0) 0,false,rfl,by omega,rfl,by omega,rfl,by omega,rfl,rfl,rfl,rfl,rfl,rfl,rfl,rfl,(Sub.jF (α:=Int) (en:=ye) (es:=1) (fun _=>rfl) (by decide) 0 _)⟩ ?_
  rintro j T L0 ⟨c,t,pl,pv,b,hb,hc,hlen,ht,Qc,rfl,hl,g0,g2,g7,g8,g9,YL,g29,yU⟩
  obtain⟨tg,rfl⟩:=Xd hl g0 g2 g7 g8 g9 YL g29
  clear hl g0 g2 g7 g8 g9 YL g29
  refine yE yU ?_
  clear yU L0
  refine O0 3 J (z5 (fun dj=> ?_) (fun dj=> ?_))
  ·refine Z 17 J (Z1 (oO _ _ M t pg c (by omega) (by omega) (by omega)) J Y ?_)
   generalize hi:yJ pg c=i
   generalize hx:M.je t i=x
   have Lc:x≤18446744073709551615:=by { rw [←hx];exact zF.ph hM _ }
   have hi8:i<8:=by { rw [←hi];exact wC _ _ }
   rw [show 3-c=(2-c)+1 by omega,xR M pg (2-c) t pl x i (by rw [←hi,show 2-(2-c)=c by omega]) hx.symm]at Qc
   have hf8:=CF x
   have hr8:=tc x
   refine Z 10 J (zf (cs:= [_]) rfl rfl rfl (by decide) rfl fun i42=> ?_)
   refine ZQ rfl rfl rfl rfl rfl rfl rfl ([((8*t+i:Nat):Int)]) rfl rfl (by simp) (by show _+1≤_;omega) rfl fun i43 q43 c43=> ?_
   refine Z 5 J (Z0 (bq _ x Lc) J (Z 3 J (zn rfl rfl rfl fun i14=> ?_)))
   refine sN J Y Y J J J (Z 7 J (z5 (fun LL=> ?_) (fun LL=> ?_)))
   ·refine Z 3 J (z5 (fun HG=> ?_) (fun HG=> ?_))
    ·refine Z 6 J (Z0 (Lr _ x Lc) J (Z 3 J (Or.inr ⟨nofun,?_⟩)))
     refine OX 5 J (Z1 (dD _ _ M _) J Y (z5 (fun h72=> ?_) (fun h72=> ?_)))
     ·refine Z 15 J (⟨.inr rfl,_,fun _ h=>(zu (zm rfl) (zu (zm rfl) (zu (zm rfl) (zu (zm rfl) qY)))),?_⟩)
      have kg:b=false:=by { rw [hb];exact decide_eq_false (by omega) }
      subst kg
      rw [if_pos (by omega),if_pos (by omega)]at Qc
      rw [e0,←Qc]
      exact⟨_,⟨_,rfl,rfl⟩,Y⟩
     refine Z 12 J (⟨.inr rfl,_,fun _ h=>(zu (zm rfl) (zu (zm rfl) (zu (zm rfl) (zu (zm rfl) qY)))),?_⟩)
     rw [if_pos (by omega),if_neg (by omega)]at Qc
     rw [e0,←Qc]
     exact⟨_,⟨_,rfl,rfl⟩,Y⟩
    refine Z 9 J (z5 (fun HI=> ?_) (fun HI=> ?_))
    ·refine Z 11 J (Or.inr ⟨nofun,?_⟩)
     refine⟨.inr rfl,_,fun _ h=>(zu (zm rfl) (zu (zm rfl) (zu (zm rfl) (zu (zm rfl) qY)))),?_⟩
     rw [if_neg (by omega),if_pos HI]at Qc
     rw [e0,←Qc]
     exact⟨_,⟨_,rfl,rfl⟩,Y⟩
    refine Z 5 J (fa J Y (ld J Y J (Z 2 J (qI (w:= .bool (decide (c+1=3))) (by congr 1;rw [decide_eq_decide];omega) ?_))))
    refine Z 7 J (Z1 (dD _ _ M _) J Y (z5 (fun Gs=> ?_) (fun Gs=> ?_)))
    ·refine Z 5 J (ad J (Z 2 J ?_))
     rw [if_neg (by omega),if_neg HI,if_pos (by omega)]at Qc
     exact Or.inl ⟨rfl,_,by omega,c+1,fN x,pl++ [((8*t+i:Nat):Int)],.slice (some (i43,q43)) (pl.length+1) c43 1,decide (c+1=3),rfl,by omega,by rw [List.length_append,hlen];rfl,by omega,by rw [←Qc,show 3-(c+1)=2-c by omega],rfl,rfl,rfl,rfl,rfl,rfl,rfl,rfl,rfl,Y⟩
    refine Z 12 J (Or.inr ⟨nofun,?_⟩)
    refine⟨.inr rfl,_,fun _ h=>(zu (zm rfl) (zu (zm rfl) (zu (zm rfl) (zu (zm rfl) qY)))),?_⟩
    rw [if_neg (by omega),if_neg HI,if_neg (by omega)]at Qc
    rw [e0,←Qc]
    exact⟨_,⟨_,rfl,rfl⟩,Y⟩
   refine Z 12 J (z5 (fun HI=> ?_) (fun HI=> ?_))
   ·refine Z 11 J (Or.inr ⟨nofun,?_⟩)
    refine⟨.inr rfl,_,fun _ h=>(zu (zm rfl) (zu (zm rfl) (zu (zm rfl) (zu (zm rfl) qY)))),?_⟩
    rw [if_neg (by omega),if_pos HI]at Qc
    rw [e0,←Qc]
    exact⟨_,⟨_,rfl,rfl⟩,Y⟩
   refine Z 5 J (fa J Y (ld J Y J (Z 2 J (qI (w:= .bool (decide (c+1=3))) (by congr 1;rw [decide_eq_decide];omega) ?_))))
   refine Z 7 J (Z1 (dD _ _ M _) J Y (z5 (fun Gs=> ?_) (fun Gs=> ?_)))
   ·refine Z 5 J (ad J (Z 2 J ?_))
    rw [if_neg (by omega),if_neg HI,if_pos (by omega)]at Qc
    exact Or.inl ⟨rfl,_,by omega,c+1,fN x,pl++ [((8*t+i:Nat):Int)],.slice (some (i43,q43)) (pl.length+1) c43 1,decide (c+1=3),rfl,by omega,by rw [List.length_append,hlen];rfl,by omega,by rw [←Qc,show 3-(c+1)=2-c by omega],rfl,rfl,rfl,rfl,rfl,rfl,rfl,rfl,rfl,Y⟩
   refine Z 12 J (Or.inr ⟨nofun,?_⟩)
   refine⟨.inr rfl,_,fun _ h=>(zu (zm rfl) (zu (zm rfl) (zu (zm rfl) (zu (zm rfl) qY)))),?_⟩
   rw [if_neg (by omega),if_neg HI,if_neg (by omega)]at Qc
   rw [e0,←Qc]
   exact⟨_,⟨_,rfl,rfl⟩,Y⟩
  refine Z 4 J (Or.inr ⟨nofun,?_⟩)
  refine OX 5 J (Z1 (dD _ _ M _) J Y (z5 (fun h72=> ?_) (fun h72=> ?_)))
  ·refine Z 15 J (⟨.inr rfl,_,fun _ h=>(zu (zm rfl) (zu (zm rfl) (zu (zm rfl) (zu (zm rfl) qY)))),?_⟩)
   have Rp:c=3:=by omega
   subst Rp
   rw [decide_eq_true rfl]at hb
   subst hb
   have hw:M.uK pg 3 rt []=(t,true,true,pl):=by { rw [←Qc];rfl }
   rw [e0,hw]
   exact⟨_,⟨_,rfl,rfl⟩,Y⟩
  refine Z 12 J (⟨.inr rfl,_,fun _ h=>(zu (zm rfl) (zu (zm rfl) (zu (zm rfl) (zu (zm rfl) qY)))),?_⟩)
  exfalso
  omega
 refine Z 12 J (⟨.inr rfl,_,fun _ h=>(zu (zm rfl) (zu (zm rfl) (zu (zm rfl) (zu (zm rfl) qY)))),?_⟩)
 have e:M.blind root z4=(0,false,false,[]):=by { unfold zF.blind;rw [if_neg (by omega),if_neg (by omega)] }
 rw [e]
 exact⟨_,⟨_,rfl,rfl⟩,(Sub.jF (α:=Int) (en:=ye) (es:=1) (fun _=>rfl) (by decide) 0 _).trans Y⟩
end Go.Proofs.YtlhcpplnlgehbaaGreat
