/- Part of the proof: KEntry, KPool, KArea, KSwap, KSched, KPcid, KSlices, KWalk. Names and blanks are cut short to keep within the size of a claim. -/
import Derived.Test.YtlhcpplnlgehbaaGreatM4
set_option linter.unusedVariables false
set_option linter.unusedSimpArgs false
set_option maxRecDepth 100000
namespace Go.Proofs.YtlhcpplnlgehbaaGreat
open Go Go.RowKit Go.Px
def kr (b:Bool) (x:Nat):Nat:=if b then x else 0
def rawN (x:Nat):Nat:=Nat.land (x/4096) 1099511627775
theorem Jb (x:Nat):rawN x<1099511627776:=by
 have:rawN x≤1099511627775:=Nat.and_le_right
 omega
abbrev DE (p w u g:Bool) (f:Int):List AVal:= [.bool p,.bool w,.bool u,.bool g,vi f]
abbrev af (p w u g:Bool) (f:Int):AVal:= .agg (DE p w u g f)
def eN (x:Nat):Int:=if Nat.land x 1=0 then 3 else if Nat.xor x (Nat.land x 4503599627366663)≠0 then 2 else 0
def wB (x:Nat):Bool:=if eN x=0 then decide (Nat.land x 2≠0)else false
def uB (x:Nat):Bool:=if eN x=0 then decide (Nat.land x 4≠0)else false
def gB (x:Nat):Bool:=if eN x=0 then decide (Nat.land x 256≠0)else false
def fN (x:Nat):Nat:=if eN x=0 then rawN x else 0
theorem cL (x:Nat):fN x<1099511627776:=by
 unfold fN;split
 ·exact Jb x
 omega
def qq (w u g:Bool) (f:Nat):Nat:=Nat.lor (Nat.lor (Nat.lor (Nat.lor 1 (kr w 2)) (kr u 4)) (kr g 256)) (f*2^12)
theorem cu (w u g:Bool):Nat.lor (Nat.lor (Nat.lor 1 (kr w 2)) (kr u 4)) (kr g 256)<4096:=by cases w<;>cases u<;>cases g<;>decide
theorem xS (w u gl:Bool) (f:Nat) (hf:f<1099511627776):qq w u gl f≤18446744073709551615:=by
 have h1:qq w u gl f<2^52:=by
  refine Nat.or_lt_two_pow (Nat.lt_of_lt_of_le (cu w u gl) (by decide)) ?_
  omega
 omega
def JH (x:Nat) (b:Bool):Nat:=if b then Nat.xor x 4503599627366400 else x
def YR (f:Nat) (b:Bool):Nat:=JH (Nat.land f 1099511627775*2^12) b
theorem cq {a b:Nat} (ha:a≤18446744073709551615) (hb:b≤18446744073709551615):Nat.xor a b≤18446744073709551615:=by
 have:Nat.xor a b<2^64:=Nat.xor_lt_two_pow (by omega) (by omega)
 omega
theorem rh {x:Nat} (hx:x≤18446744073709551615) (b:Bool):JH x b≤18446744073709551615:=by
 unfold JH;split
 ·exact cq hx (by decide)
 exact hx
theorem UA (f:Nat) (b:Bool):YR f b≤18446744073709551615:=by
 refine rh ?_ b
 have:Nat.land f 1099511627775≤1099511627775:=Nat.and_le_right
 omega
theorem JX (R:List SP) (b:Bool) (x:Nat):zy 263 [.bool b,vu x] (R) fun v L=>v=vu (kr b x)∧L=R:=by
 refine SW.intro rfl Tryz.func263 rfl ?_
 refine O0 8 J (zN (fun h5=> ?_) (fun h5=> ?_))
 ·refine Z 8 J (zE J J J (⟨_,⟨?_,rfl⟩,Y⟩))
  simp [kr,h5]
 refine Z 8 J (zE J J J (⟨_,⟨?_,rfl⟩,Y⟩))
 simp [kr,h5]
theorem iR (R:List SP) (x:Nat) (hx:x≤18446744073709551615):zy 243 [vu x] (R) fun v L=>v=vi (rawN x:Nat)∧L=R:=by
 have hr:=Jb x
 refine SW.intro rfl Tryz.func243 rfl ?_
 refine O0 7 J (zf rfl (fun _=>zC rfl rfl rfl (b9 (b:=12) (by decide) (by decide))) ?_)
 refine zf rfl (fun _=>zC rfl rfl rfl (vb (op:= .and) (b:=1099511627775) rfl (Nat.le_trans (Nat.div_le_self _ _) hx) (by decide))) ?_
 refine zf rfl (fun _=>qT rfl rfl (wi ⟨Int.le_trans (by decide) (Int.natCast_nonneg (rawN x)),by show((rawN x:Nat):Int)≤_;omega⟩)) ?_
 exact Z 3 J (zE J J J fq)
theorem Ud (R:List SP) (x:Nat) (hx:x≤18446744073709551615):zy 242 [vu x] (R) fun v L=>v= .tuple [af (decide (eN x=0)) (wB x) (uB x) (gB x) (fN x:Nat),vi (eN x)]∧L=R:=by
 refine SW.intro rfl Tryz.func242 rfl ?_
 refine O0 2 J (zd rfl rfl rfl fun i2=> ?_)
 refine Z 6 J (zf rfl (fun _=>zC rfl rfl rfl (vb (op:= .and) (b:=1) rfl hx (by decide))) ?_)
 refine Z 1 J (z0 (fun h6=> ?_) (fun h6=> ?_))
 ·refine Z 4 J (bu [_,_,_,_,_] J Y Y J (sN J Y Y J J J (Z 3 J (⟨.inr rfl,_,fun _ h=>(zi (y8 rfl (yS rfl (Nat.le_of_ble_eq_true rfl) h)) (zi (za rfl) q7)),?_⟩))))
  refine⟨_,⟨?_,rfl⟩,Y⟩
  have e:eN x=3:=if_pos (by omega)
  unfold wB uB gB fN;rw [e];rfl
 refine Z 7 J (zf rfl (fun _=>zC rfl rfl rfl (vb (op:= .andNot) (b:=4503599627366663) rfl hx (by decide))) ?_)
 refine Z 1 J (z0 (fun h10=> ?_) (fun h10=> ?_))
 ·refine Z 4 J (bu [_,_,_,_,_] J Y Y J (sN J Y Y J J J (Z 3 J (⟨.inr rfl,_,fun _ h=>(zi (y8 rfl (yS rfl (Nat.le_of_ble_eq_true rfl) h)) (zi (za rfl) q7)),?_⟩))))
  refine⟨_,⟨?_,rfl⟩,Y⟩
  have e:eN x=2:=by { unfold eN;rw [if_neg (by omega),if_pos (by omega)] }
  unfold wB uB gB fN;rw [e];rfl
 refine Z 6 J (zf rfl (fun _=>zC rfl rfl rfl (vb (op:= .and) (b:=2) rfl hx (by decide))) ?_)
 refine Z 2 J (zf rfl (fun _=>zC rfl rfl rfl (vb (op:= .and) (b:=4) rfl hx (by decide))) ?_)
 refine Z 2 J (zf rfl (fun _=>zC rfl rfl rfl (vb (op:= .and) (b:=256) rfl hx (by decide))) ?_)
 refine Z 2 J (Z0 (iR _ _ (by omega)) J (bu [_,_,_,_,_] J Y Y J (sN J Y Y J J J (Z 3 J (⟨.inr rfl,_,fun _ h=>(zi (y8 rfl (yS rfl (Nat.le_of_ble_eq_true rfl) h)) (zi (za rfl) q7)),?_⟩)))))
 refine⟨_,⟨?_,rfl⟩,Y⟩
 have e:eN x=0:=by { unfold eN;rw [if_neg (by omega),if_neg (by omega)] }
 have hd: ∀n:Nat,decide ((n:Int)≠0)=decide (n≠0):=fun n=>by { rw [decide_eq_decide];omega }
 unfold wB uB gB fN;rw [e,←hd,←hd,←hd];rfl
theorem dO (R:List SP) (w u g:Bool) (f:Nat) (hf:f<1099511627776):zy 244 [af true w u g (f:Int)] (R) fun v L=>v= .tuple [vu (qq w u g f),vi 0]∧L=R:=by
 have hb1:kr w 2≤18446744073709551615:=by cases w<;>decide
 have hb2:Nat.lor 1 (kr w 2)≤18446744073709551615:=by cases w<;>decide
 have hb3:kr u 4≤18446744073709551615:=by cases u<;>decide
 have hb4:Nat.lor (Nat.lor 1 (kr w 2)) (kr u 4)≤18446744073709551615:=by cases w<;>cases u<;>decide
 have hb5:kr g 256≤18446744073709551615:=by cases g<;>decide
 have hb6:Nat.lor (Nat.lor (Nat.lor 1 (kr w 2)) (kr u 4)) (kr g 256)≤18446744073709551615:=by have:=cu w u g;omega
 have hb7:f*2^12≤18446744073709551615:=by omega
 refine SW.intro rfl Tryz.func244 rfl ?_
 refine O0 2 J (yW rfl rfl rfl rfl fun i1=> ?_)
 refine Z 6 J (fa J Y (ld J Y J (Z 2 J (fa J Y (ld J Y J (zf rfl (fun _=>zC rfl rfl rfl (QX rfl)) (qM (by omega) ?_)))))))
 refine Z 2 J (fa J Y (ld J Y J (zf rfl (fun _=>zC rfl rfl rfl (JL rfl)) (qM (by omega) ?_))))
 refine Z 5 J (zO [0,1,3,7,0,16,55,127,0,256,887,2047,0,4096,12288,28672,65535,131071,262143] [([0,1,4,5,8,9,12,13,14,15],[1,5,9,13,14,15],some 2),([3],[5,9,13,14,15,3],some 6),([7],[9,13,14,15,3,7],some 10),([11,16,17,18],[13,14,15,3,7,11,16],none)] (by kernel_rfl) ?_)
 refine z4 (zj J Y (ye J Y J (zj J Y (ye J Y J (zj J Y (ye J Y J (zj J Y (ye J Y J (vN rfl (fun _=>qT rfl rfl (yu (by omega))) ?_)))))))))
 refine vN rfl (fun _=>zC rfl rfl rfl (JJ (b:=12) (by decide) (by omega))) ?_
 refine z5 ⟨(y6 J Y J J J (y6 J Y J J J (y6 J Y J J J (y6 J Y J J J (vF rfl (fun _=>qT rfl rfl (yu (by omega))) rfl rfl (z3 _ rfl) (vF rfl (fun _=>zC rfl rfl rfl (JJ (b:=12) (by decide) (by omega))) rfl rfl (z3 _ rfl) z6)))))),?_⟩
 refine Z0 (JX _ w 2) J (zF (z4 (vN rfl (fun _=>zC rfl rfl rfl (vb (op:= .or) (a:=1) rfl (by decide) hb1)) ?_)))
 refine z5 ⟨(y6 J Y J J J (y6 J Y J J J (y6 J Y J J J (vF rfl (fun _=>qT rfl rfl (yu (by omega))) rfl rfl (z3 _ rfl) (vF rfl (fun _=>zC rfl rfl rfl (JJ (b:=12) (by decide) (by omega))) rfl rfl (z3 _ rfl) (vF rfl (fun _=>zC rfl rfl rfl (vb (op:= .or) (a:=1) rfl (by decide) hb1)) rfl rfl (z3 _ rfl) z6)))))),?_⟩
 refine Z0 (JX _ u 4) J (zF (z4 (vN rfl (fun _=>zC rfl rfl rfl (vb (op:= .or) rfl hb2 hb3)) ?_)))
 refine z5 ⟨(y6 J Y J J J (y6 J Y J J J (vF rfl (fun _=>qT rfl rfl (yu (by omega))) rfl rfl (z3 _ rfl) (vF rfl (fun _=>zC rfl rfl rfl (JJ (b:=12) (by decide) (by omega))) rfl rfl (z3 _ rfl) (vF rfl (fun _=>zC rfl rfl rfl (vb (op:= .or) (a:=1) rfl (by decide) hb1)) rfl rfl (z3 _ rfl) (vF rfl (fun _=>zC rfl rfl rfl (vb (op:= .or) rfl hb2 hb3)) rfl rfl (z3 _ rfl) z6)))))),?_⟩
 refine Z0 (JX _ g 256) J (zF (z4 (vN rfl (fun _=>zC rfl rfl rfl (vb (op:= .or) rfl hb4 hb5)) ?_)))
 refine vN rfl (fun _=>zC rfl rfl rfl (vb (op:= .or) rfl hb6 hb7)) ?_
 refine ZK 2 J (z5 ⟨(y6 J Y J J J (vF rfl (fun _=>qT rfl rfl (yu (by omega))) rfl rfl (z3 _ rfl) (vF rfl (fun _=>zC rfl rfl rfl (JJ (b:=12) (by decide) (by omega))) rfl rfl (z3 _ rfl) (vF rfl (fun _=>zC rfl rfl rfl (vb (op:= .or) (a:=1) rfl (by decide) hb1)) rfl rfl (z3 _ rfl) (vF rfl (fun _=>zC rfl rfl rfl (vb (op:= .or) rfl hb2 hb3)) rfl rfl (z3 _ rfl) (vF rfl (fun _=>zC rfl rfl rfl (vb (op:= .or) rfl hb4 hb5)) rfl rfl (z3 _ rfl) (vF rfl (fun _=>zC rfl rfl rfl (vb (op:= .or) rfl hb6 hb7)) rfl rfl (z3 _ rfl) z6))))))),?_⟩)
 exact OX 1 J (qO J J J J fq)
theorem Au (R:List SP) (x:Nat) (b:Bool) (hx:x≤18446744073709551615):zy 267 [vu x,.bool b] (R) fun v L=>v=vu (JH x b)∧L=R:=by
 refine SW.intro rfl Tryz.func267 rfl ?_
 refine O0 8 J (zN (fun h5=> ?_) (fun h5=> ?_))
 ·refine Z 5 J (zf rfl (fun _=>zC rfl rfl rfl (vb (op:= .xor) (b:=4503599627366400) rfl hx (by decide))) ?_)
  refine Z 3 J (zE J J J (⟨_,⟨?_,rfl⟩,Y⟩))
  simp [JH,h5]
 refine Z 9 J (zE J J J (⟨_,⟨?_,rfl⟩,Y⟩))
 simp [JH,h5]
theorem xj (R:List SP) (f:Nat) (b:Bool) (hf:f≤9223372036854775807):zy 265 [vi (f:Nat),.bool b] (R) fun v L=>v=vu (YR f b)∧L=R:=by
 have hl:Nat.land f 1099511627775≤1099511627775:=Nat.and_le_right
 refine SW.intro rfl Tryz.func265 rfl ?_
 refine O0 7 J (zf rfl (fun _=>qT rfl rfl (yu (by omega))) ?_)
 refine zf rfl (fun _=>zC rfl rfl rfl (vb (op:= .and) (b:=1099511627775) rfl (by omega) (by decide))) ?_
 refine zf rfl (fun _=>zC rfl rfl rfl (JJ (b:=12) (by decide) (by omega))) ?_
 exact Z 1 J (Z0 (Au _ _ _ (by omega)) J (Z 3 J (zE J J J fq)))
abbrev vr (l:List (Int×Int)) (z:Int):Int:=(ym l z).getD 0
theorem Y1 (l:List (Int×Int)) (z v y:Int):vr (insi l z v) y=if y=z then v else vr l y:=by
 unfold vr;rw [xH];split<;>rfl
structure J0 where
 m:Nat
 refs:List (Int×Int)
def J0.Ok (p:J0):Prop:= ∀z,0≤vr p.refs z∧vr p.refs z<4294967296
abbrev UW (a:Nat) (p:J0) (i:Nat):List SP:= [ent z8 a [vp p.m 0,.map (some i)],ent gP i p.refs]
def zX (a:Nat) (p:J0):SP:=fun h=> ∃i,p.Ok∧yd (UW a p i) h
theorem jH (a:Nat) (p:J0): ∀h,zX a p h→ ∃i,p.Ok∧yd (UW a p i) h:=fun _ h=>h
theorem qP {a i:Nat} {p:J0} (hp:p.Ok): ∀h,yd [ent z8 a [vp p.m 0,.map (some i)],ent gP i p.refs] h→zX a p h:=fun _ s=>⟨i,hp,s⟩
def zA.least (M:zA):Nat→Nat→Option Nat
 |_,0=>none
 |f,k+1=>if M.cls f=0 then some f else M.least (f+1) k
def zA.first (M:zA):Option Nat:=M.least 15 (M.n-15)
def zA.free (M:zA):Nat→Nat→Nat
 |_,0=>0
 |f,k+1=>(if M.cls f=0 then 1 else 0)+M.free (f+1) k
def zA.left (M:zA):Nat:=M.free 15 (M.n-15)
theorem zA.free_le (M:zA): ∀k f,M.free f k≤k:=by
 intro k
 induction k with
 |zero=>intro f;exact Nat.le_refl _
 |succ k ih=>
  intro f
  have:=ih (f+1)
  show(if M.cls f=0 then 1 else 0)+_≤_
  split<;>omega
theorem zA.least_bd (M:zA): ∀k f g,M.least f k=some g→f≤g∧g<f+k∧M.cls g=0:=by
 intro k
 induction k with
 |zero=>intro f g h;cases h
 |succ k ih=>
  intro f g h
  have h:(if M.cls f=0 then some f else M.least (f+1) k)=some g:=h
  by_cases e:M.cls f=0
  ·rw [if_pos e]at h;cases h;exact⟨Nat.le_refl _,by omega,e⟩
  rw [if_neg e]at h;have:=ih _ _ h;exact⟨by omega,by omega,this.2.2⟩
structure PM where
 M:zA
 R:List (Int×Int)
def PM.got (s:PM):Nat:=s.M.first.getD 0
def PM.take (s:PM) (c w:Int):PM:=match s.M.first with
 |some f=>⟨s.M.mark (f:Nat) c w,insi s.R (f:Nat) 1⟩
 |none=>s
def PM.give (s:PM) (z:Int):PM:=if vr s.R z=0 then s else⟨if vr s.R z=1 then(s.M.zero z).mark z 0 (-1)else s.M,insi s.R z (vr s.R z-1)⟩
def PM.share (s:PM) (z:Int):PM:=if vr s.R z=0 then s else⟨s.M,insi s.R z (vr s.R z+1)⟩
def oV (R:List (Int×Int)):Prop:= ∀z,0≤vr R z∧vr R z<4294967296
theorem oV.insi {R:List (Int×Int)} (h:oV R) {v:Int} (h0:0≤v) (h1:v<4294967296) (z:Int):oV (insi R z v):=fun y=>by
 rw [Y1];split
 ·exact⟨h0,h1⟩
 exact h y
theorem zA.class_nat {M:zA} {f:Nat} (h:f<M.n):M.class (f:Nat)=M.cls f:=by
 unfold zA.class;rw [if_pos (by omega)];rfl
theorem PM.got_le (s:PM):s.got≤s.M.n:=by
 unfold PM.got zA.first
 cases h:s.M.least 15 (s.M.n-15)with
 |none=>exact Nat.zero_le _
 |some f=>have:=s.M.least_bd _ _ _ h;show f≤_;omega
theorem PM.take_n (s:PM) (c w:Int):(s.take c w).M.n=s.M.n:=by unfold PM.take;split<;>first|rfl|exact zA.mark_n _ _ _ _
theorem PM.give_n (s:PM) (z:Int):(s.give z).M.n=s.M.n:=by
 unfold PM.give;split
 ·rfl
 show(if vr s.R z=1 then(s.M.zero z).mark z 0 (-1)else s.M).n=_
 split
 ·rw [zA.mark_n,zA.zero_n]
 rfl
theorem JU (R:List SP) (p m:Nat) (Rf:List (Int×Int)) (z:Int):zy 224 [vp p 0,vi z] (ent zX p ⟨m,Rf⟩::R) fun v L=>v=vi (vr Rf z)∧L=ent zX p ⟨m,Rf⟩::R:=by
 refine zS (jH p ⟨m,Rf⟩) fun i hp=> ?_
 dsimp only [UW,List.cons_append,List.nil_append]
 refine SW.intro rfl Tryz.func224 rfl ?_
 refine O0 8 J (fa J Y (ld J Y J (Z 1 J (yo rfl (fun _ h=>ua rfl rfl rfl h) ?_))))
 exact Z 3 J (zE J J J ⟨_,⟨rfl,rfl⟩,Sub.mk2 (qP (p:=⟨m,Rf⟩) hp) Y⟩)
theorem UX (R:List SP) (p m:Nat) (Rf:List (Int×Int)) (M:zA):zy 51 [vp p 0] (ent zX p ⟨m,Rf⟩::ent zQ m M::R) fun v L=>v=vi (M.left:Nat)∧L=ent zX p ⟨m,Rf⟩::ent zQ m M::R:=by
 refine zS (jH p ⟨m,Rf⟩) fun i hp=> ?_
 dsimp only [UW,List.cons_append,List.nil_append]
 refine yQ (p:=M.Ok) (qD m M) fun hM=> ?_
 have hM1:=hM.1
 have hM2:=hM.2.1
 have hfl:=M.free_le (M.n-15) 15
 refine SW.intro rfl Tryz.func51 rfl ?_
 refine O0 14 J (zl (fun j T L=> ∃(f c:Nat),(15≤f∧f≤max M.n 15)∧(c+M.free f (M.n-f)=M.left)∧(c≤f)∧j=M.n-f∧T.len=2∧Tm.get 0 T=some (vp p 0)∧Tm.get 3 T=some (vi (c:Nat))∧Tm.get 4 T=some (vi (f:Nat))∧Sub L (ent z8 p [vp m 0,.map (some i)]::ent gP i Rf::ent zQ m M::R)) (M.n-15) ⟨15,0,by omega,by simp [zA.left],by omega,by omega,rfl,rfl,rfl,rfl,Y⟩ ?_)
 rintro j T L0 ⟨f,c,hf,hc,hcf,rfl,hl,g0,g3,g4,hsb⟩
 obtain⟨tg,rfl⟩:=sA hl g0 g3 g4
 clear hl g0 g3 g4
 refine zu hsb ?_
 clear hsb L0
 refine O0 6 J (fa J Y (ld J Y J (Z1 (vk _ _ _) J Y (Z 1 J (z0 (fun h11=> ?_) (fun h11=> ?_))))))
 ·refine Z 9 J (fa J Y (ld J Y J (Z 1 J (Z1 (ke _ _ _ _) J Y (Z 1 J (z0 (fun h20=> ?_) (fun h20=> ?_)))))))
  ·refine Z 4 J (ad J (Z 4 J (ad J (Z 2 J ?_))))
   have hs:M.n-f=(M.n-(f+1))+1:=by omega
   rw [hs]at hc
   have hc:c+((if M.cls f=0 then 1 else 0)+M.free (f+1) (M.n-(f+1)))=M.left:=hc
   rw [if_pos (by rw [zA.class_nat (by omega)]at h20;exact h20)]at hc
   exact Or.inl ⟨rfl,_,by omega,f+1,c+1,by omega,by omega,by omega,rfl,rfl,rfl,rfl,rfl,Y⟩
  refine Z 5 J (ad J (Z 2 J ?_))
  have hs:M.n-f=(M.n-(f+1))+1:=by omega
  rw [hs]at hc
  have hc:c+((if M.cls f=0 then 1 else 0)+M.free (f+1) (M.n-(f+1)))=M.left:=hc
  rw [if_neg (by rw [zA.class_nat (by omega)]at h20;exact h20)]at hc
  exact Or.inl ⟨rfl,_,by omega,f+1,c,by omega,by omega,by omega,rfl,rfl,rfl,rfl,rfl,Y⟩
 refine Z 3 J (Or.inr ⟨nofun,?_⟩)
 refine OX 6 J (zE J J J ?_)
 have e:M.n-f=0:=by omega
 rw [e]at hc
 have hc:c+0=M.left:=hc
 refine⟨_,⟨?_,rfl⟩,Sub.mk2 (qP (p:=⟨m,Rf⟩) hp) Y⟩
 rw [←hc];rfl
theorem Jq (R:List SP) (p m:Nat) (Rf:List (Int×Int)) (M:zA) (c w:Int) (hc:c=1∨c=2):zy 201 [vp p 0,vi c,vi w] (ent zX p ⟨m,Rf⟩::ent zQ m M::R) fun v L=>v= .tuple [vi ((PM.got ⟨M,Rf⟩:Nat):Int),.bool M.first.isSome]∧L=ent zX p ⟨m,(PM.take ⟨M,Rf⟩ c w).R⟩::ent zQ m (PM.take ⟨M,Rf⟩ c w).M::R:=by
 refine zS (jH p ⟨m,Rf⟩) fun i hp=> ?_
 dsimp only [UW,List.cons_append,List.nil_append]
 refine yQ (p:=M.Ok) (qD m M) fun hM=> ?_
 have hM1:=hM.1
 have hM2:=hM.2.1
 refine SW.intro rfl Tryz.func201 rfl ?_
 refine O0 10 J (z0 (fun h10=> ?_) (fun h10=> ?_))
 ·refine Z 3 J (z0 (fun h13=> ?_) (fun h13=> ?_))
  ·exact Z 9 J (qO J J J J (absurd hc (by omega)))
  refine Z 10 J (zl (fun j T L=> ∃(f:Nat),(15≤f∧f≤max M.n 15)∧(M.least f (M.n-f)=M.first)∧j=M.n-f∧T.len=3∧Tm.get 0 T=some (vp p 0)∧Tm.get 1 T=some (vi c)∧Tm.get 2 T=some (vi w)∧Tm.get 8 T=some (vi (f:Nat))∧Sub L (ent z8 p [vp m 0,.map (some i)]::ent gP i Rf::ent zQ m M::R)) (M.n-15) ⟨15,by omega,rfl,by omega,rfl,rfl,rfl,rfl,rfl,Y⟩ ?_)
  rintro j T L0 ⟨f,hf,hfi,rfl,hl,g0,g1,g2,g8,hsb⟩
  obtain⟨tg,rfl⟩:=W7 hl g0 g1 g2 g8
  clear hl g0 g1 g2 g8
  refine zu hsb ?_
  clear hsb L0
  refine O0 6 J (fa J Y (ld J Y J (Z1 (vk _ _ _) J Y (Z 1 J (z0 (fun h21=> ?_) (fun h21=> ?_))))))
  ·refine Z 9 J (fa J Y (ld J Y J (Z 1 J (Z1 (ke _ _ _ _) J Y (Z 1 J (z0 (fun h30=> ?_) (fun h30=> ?_)))))))
   ·refine Z 6 J (fa J Y (ld J Y J (Z 3 J (Z1 (QA _ _ _ _ _ _) J Y (Z 5 J (fa J Y (ld J Y J (Z 1 J (ge rfl rfl rfl rfl rfl ?_)))))))))
    refine Z 8 J (Or.inr ⟨nofun,?_⟩)
    refine qO J J J J ?_
    have hs:M.n-f=(M.n-(f+1))+1:=by omega
    rw [hs]at hfi
    have hfi:(if M.cls f=0 then some f else M.least (f+1) (M.n-(f+1)))=M.first:=hfi
    rw [if_pos (by rw [zA.class_nat (by omega)]at h30;exact h30)]at hfi
    unfold PM.got PM.take;rw [←hfi]
    exact⟨_,⟨rfl,rfl⟩,Sub.mk2 (qP (p:=⟨m,insi Rf (f:Nat) 1⟩) (oV.insi hp (by decide) (by decide) _)) Y⟩
   refine Z 5 J (ad J (Z 2 J ?_))
   have hs:M.n-f=(M.n-(f+1))+1:=by omega
   rw [hs]at hfi
   have hfi:(if M.cls f=0 then some f else M.least (f+1) (M.n-(f+1)))=M.first:=hfi
   rw [if_neg (by rw [zA.class_nat (by omega)]at h30;exact h30)]at hfi
   exact Or.inl ⟨rfl,_,by omega,f+1,by omega,hfi,rfl,rfl,rfl,rfl,rfl,rfl,Y⟩
  refine Z 3 J (Or.inr ⟨nofun,?_⟩)
  refine OX 6 J (qO J J J J ?_)
  have hs:M.n-f=0:=by omega
  rw [hs]at hfi
  have hfi:none=M.first:=hfi
  unfold PM.got PM.take;rw [←hfi]
  exact⟨_,⟨rfl,rfl⟩,Sub.mk2 (qP (p:=⟨m,Rf⟩) hp) Y⟩
 refine Z 13 J (zl (fun j T L=> ∃(f:Nat),(15≤f∧f≤max M.n 15)∧(M.least f (M.n-f)=M.first)∧j=M.n-f∧T.len=3∧Tm.get 0 T=some (vp p 0)∧Tm.get 1 T=some (vi c)∧Tm.get 2 T=some (vi w)∧Tm.get 8 T=some (vi (f:Nat))∧Sub L (ent z8 p [vp m 0,.map (some i)]::ent gP i Rf::ent zQ m M::R)) (M.n-15) ⟨15,by omega,rfl,by omega,rfl,rfl,rfl,rfl,rfl,Y⟩ ?_)
 rintro j T L0 ⟨f,hf,hfi,rfl,hl,g0,g1,g2,g8,hsb⟩
 obtain⟨tg,rfl⟩:=W7 hl g0 g1 g2 g8
 clear hl g0 g1 g2 g8
 refine zu hsb ?_
 clear hsb L0
 refine O0 6 J (fa J Y (ld J Y J (Z1 (vk _ _ _) J Y (Z 1 J (z0 (fun h21=> ?_) (fun h21=> ?_))))))
 ·refine Z 9 J (fa J Y (ld J Y J (Z 1 J (Z1 (ke _ _ _ _) J Y (Z 1 J (z0 (fun h30=> ?_) (fun h30=> ?_)))))))
  ·refine Z 6 J (fa J Y (ld J Y J (Z 3 J (Z1 (QA _ _ _ _ _ _) J Y (Z 5 J (fa J Y (ld J Y J (Z 1 J (ge rfl rfl rfl rfl rfl ?_)))))))))
   refine Z 8 J (Or.inr ⟨nofun,?_⟩)
   refine qO J J J J ?_
   have hs:M.n-f=(M.n-(f+1))+1:=by omega
   rw [hs]at hfi
   have hfi:(if M.cls f=0 then some f else M.least (f+1) (M.n-(f+1)))=M.first:=hfi
   rw [if_pos (by rw [zA.class_nat (by omega)]at h30;exact h30)]at hfi
   unfold PM.got PM.take;rw [←hfi]
   exact⟨_,⟨rfl,rfl⟩,Sub.mk2 (qP (p:=⟨m,insi Rf (f:Nat) 1⟩) (oV.insi hp (by decide) (by decide) _)) Y⟩
  refine Z 5 J (ad J (Z 2 J ?_))
  have hs:M.n-f=(M.n-(f+1))+1:=by omega
  rw [hs]at hfi
  have hfi:(if M.cls f=0 then some f else M.least (f+1) (M.n-(f+1)))=M.first:=hfi
  rw [if_neg (by rw [zA.class_nat (by omega)]at h30;exact h30)]at hfi
  exact Or.inl ⟨rfl,_,by omega,f+1,by omega,hfi,rfl,rfl,rfl,rfl,rfl,rfl,Y⟩
 refine Z 3 J (Or.inr ⟨nofun,?_⟩)
 refine OX 6 J (qO J J J J ?_)
 have hs:M.n-f=0:=by omega
 rw [hs]at hfi
 have hfi:none=M.first:=hfi
 unfold PM.got PM.take;rw [←hfi]
 exact⟨_,⟨rfl,rfl⟩,Sub.mk2 (qP (p:=⟨m,Rf⟩) hp) Y⟩
theorem dT (R:List SP) (p m:Nat) (Rf:List (Int×Int)) (M:zA) (z:Int):zy 214 [vp p 0,vi z] (ent zX p ⟨m,Rf⟩::ent zQ m M::R) fun v L=>v= .bool (decide (vr Rf z≠0))∧L=ent zX p ⟨m,(PM.give ⟨M,Rf⟩ z).R⟩::ent zQ m (PM.give ⟨M,Rf⟩ z).M::R:=by
 refine zS (jH p ⟨m,Rf⟩) fun i hp=> ?_
 dsimp only [UW,List.cons_append,List.nil_append]
 have hz:=hp z
 have hz:0≤vr Rf z∧vr Rf z<4294967296:=hz
 have hc:(ym Rf z).getD 0=vr Rf z:=rfl
 have hc2: ∀v,(ym (insi Rf z v) z).getD 0=v:=fun v=>by rw [xH,if_pos rfl];rfl
 refine SW.intro rfl Tryz.func214 rfl ?_
 refine O0 9 J (fa J Y (ld J Y J (Z 1 J (yo rfl (fun _ h=>ua rfl rfl rfl h) ?_))))
 refine Z 1 J (z0 (fun h11=> ?_) (fun h11=> ?_))
 ·refine Z 7 J (zE J J J ?_)
  have e:PM.give ⟨M,Rf⟩ z=⟨M,Rf⟩:=if_pos (show vr Rf z=0 by omega)
  rw [e]
  refine⟨_,⟨yC ?_,rfl⟩,Sub.mk2 (qP (p:=⟨m,Rf⟩) hp) Y⟩
  simp;omega
 refine Z 7 J (fa J Y (ld J Y J (Z 1 J (yo rfl (fun _ h=>ua rfl rfl rfl h) ?_))))
 refine sb J (ge rfl rfl rfl rfl rfl ?_)
 refine Z 6 J (fa J Y (ld J Y J (Z 1 J (yo rfl (fun _ h=>ua rfl rfl rfl h) ?_))))
 refine Z 1 J (z0 (fun h25=> ?_) (fun h25=> ?_))
 ·refine Z 6 J (fa J Y (ld J Y J (Z 1 J (Z1 (As _ _ _ _) J Y (Z 4 J (fa J Y (ld J Y J (Z 1 J (Z1 (QA _ _ _ _ _ _) J Y (Z 6 J (zE J J J ?_)))))))))))
  have e:PM.give ⟨M,Rf⟩ z=⟨(M.zero z).mark z 0 (-1),insi Rf z (vr Rf z-1)⟩:=by { unfold PM.give;rw [if_neg (show¬vr Rf z=0 by omega),if_pos (show vr Rf z=1 by rw [hc2]at h25;omega)] }
  rw [e]
  refine⟨_,⟨yC ?_,rfl⟩,Sub.mk2 (qP (p:=⟨m,insi Rf z (vr Rf z-1)⟩) (oV.insi hp (by omega) (by omega) _)) Y⟩
  simp;omega
 refine Z 8 J (zE J J J ?_)
 have e:PM.give ⟨M,Rf⟩ z=⟨M,insi Rf z (vr Rf z-1)⟩:=by { unfold PM.give;rw [if_neg (show¬vr Rf z=0 by omega),if_neg (show¬vr Rf z=1 by rw [hc2]at h25;omega)] }
 rw [e]
 refine⟨_,⟨yC ?_,rfl⟩,Sub.mk2 (qP (p:=⟨m,insi Rf z (vr Rf z-1)⟩) (oV.insi hp (by omega) (by omega) _)) Y⟩
 simp;omega
theorem sf (R:List SP) (p m:Nat) (Rf:List (Int×Int)) (z:Int) (hb:vr Rf z<4294967295):zy 258 [vp p 0,vi z] (ent zX p ⟨m,Rf⟩::R) fun v L=>v= .bool (decide (vr Rf z≠0))∧L=ent zX p ⟨m,(if vr Rf z=0 then Rf else insi Rf z (vr Rf z+1))⟩::R:=by
 refine zS (jH p ⟨m,Rf⟩) fun i hp=> ?_
 dsimp only [UW,List.cons_append,List.nil_append]
 have hz:=hp z
 have hz:0≤vr Rf z∧vr Rf z<4294967296:=hz
 have hc:(ym Rf z).getD 0=vr Rf z:=rfl
 refine SW.intro rfl Tryz.func258 rfl ?_
 refine O0 9 J (fa J Y (ld J Y J (Z 1 J (yo rfl (fun _ h=>ua rfl rfl rfl h) ?_))))
 refine Z 1 J (z0 (fun h11=> ?_) (fun h11=> ?_))
 ·refine Z 7 J (zE J J J ?_)
  rw [if_pos (show vr Rf z=0 by omega)]
  refine⟨_,⟨yC ?_,rfl⟩,Sub.mk2 (qP (p:=⟨m,Rf⟩) hp) Y⟩
  simp;omega
 refine Z 7 J (fa J Y (ld J Y J (Z 1 J (yo rfl (fun _ h=>ua rfl rfl rfl h) ?_))))
 refine ad J (ge rfl rfl rfl rfl rfl ?_)
 refine Z 6 J (zE J J J ?_)
 rw [if_neg (show¬vr Rf z=0 by omega)]
 refine⟨_,⟨yC ?_,rfl⟩,Sub.mk2 (qP (p:=⟨m,insi Rf z (vr Rf z+1)⟩) (oV.insi hp (by omega) (by omega) _)) Y⟩
 simp;omega
theorem B6 (R:List SP) (m:Nat):zy 99 [vp m 0] (R) fun v L=> ∃p,v=vp p 0∧L=ent zX p ⟨m,[]⟩::R:=by
 refine SW.intro rfl Tryz.func99 rfl ?_
 refine O0 7 J (pu rfl rfl fun i4=> ?_)
 refine bu [_,_] J Y Y J (yW rfl rfl rfl rfl fun i6=> ?_)
 exact Z 3 J (zE J J J ⟨_,⟨i6,rfl,rfl⟩,Sub.mk2 (qP (p:=⟨m,[]⟩) (fun z=>by show 0≤(0:Int)∧(0:Int)<_;omega)) Y⟩)
def dc (A:Nat→Int):Prop:= ∀j,A j= -1∨A j=0∨A j=1∨A j=3
def rk (A:Nat→Int):Nat→AVal:=fun j=>vi (A j)
def qY (a:Nat) (A:Nat→Int):SP:=fun h=> ∃_:Unit,dc A∧yd [ent zI a (256,rk A)] h
theorem jF (a:Nat) (A:Nat→Int): ∀h,qY a A h→ ∃_:Unit,dc A∧yd [ent zI a (256,rk A)] h:=fun _ h=>h
theorem xO (a:Nat) (A:Nat→Int): ∀h,qY a A h→dc A:=fun _ ⟨_,h,_⟩=>h
theorem qj {a:Nat} {A:Nat→Int} (hA:dc A) {f:Nat→AVal} (e: ∀j,j<256→f j=vi (A j)): ∀h,yd [ent zI a (256,f)] h→qY a A h:=fun _ s=>⟨(),hA,nG s (wK e)⟩
def qA (f n:Int):Prop:=0≤f∧1≤n∧f<256∧n≤256-f
instance (f n:Int):Decidable (qA f n):=by unfold qA;infer_instance
def Q0 (r:Int):Prop:=r=0∨r=1∨r=3
instance (r:Int):Decidable (Q0 r):=by unfold Q0;infer_instance
def ZX (A:Nat→Int) (f n:Nat) (t:Bool):Bool:=(List.range n).all fun k=>decide (A (f+k)= -1) !=t
def Yz (A:Nat→Int) (f n r:Int):Nat→Int:=fun j=>if f≤j∧j<f+n then r else A j
theorem VC (A:Nat→Int) (f n:Nat) (t:Bool):ZX A f n t=true↔ ∀k,k<n→decide (A (f+k)= -1)≠t:=by simp [ZX]
theorem dc.set {A:Nat→Int} (h:dc A) {r:Int} (hr:r= -1∨Q0 r) (f n:Int):dc (Yz A f n r):=fun j=>by
 unfold Yz;split
 ·exact hr
 exact h j
def yY (A:Nat→Int) (f n r:Int):Int×(Nat→Int):=if¬qA f n∨ ¬Q0 r then(1,A)else if ZX A f.toNat n.toNat false then(0,Yz A f n r)else(4,A)
def yw (A:Nat→Int) (f n:Int):Int×(Nat→Int):=if¬qA f n then(1,A)else if ZX A f.toNat n.toNat true then(0,Yz A f n (-1))else(3,A)
def y4 (A:Nat→Int) (f n r:Int):Int×(Nat→Int):=if¬qA f n∨ ¬Q0 r then(1,A)else if ZX A f.toNat n.toNat true then(0,Yz A f n r)else(3,A)
theorem dc.add {A:Nat→Int} (h:dc A) (f n r:Int):dc (yY A f n r).2:=by
 unfold yY;split
 ·exact h
 rename_i hn
 split
 ·exact h.set (.inr (Decidable.byContradiction fun e=>hn (.inr e))) _ _
 exact h
theorem dc.cut {A:Nat→Int} (h:dc A) (f n:Int):dc (yw A f n).2:=by
 unfold yw;split
 ·exact h
 split
 ·exact h.set (.inl rfl) _ _
 exact h
def y7 (A:Nat→Int) (z:Int):Int:=if 0≤z∧z<256 then(if A z.toNat= -1 then 0 else A z.toNat)else 0
def WT (A:Nat→Int) (z:Int):Prop:=0≤z∧z<256∧A z.toNat≠ -1
instance (A:Nat→Int) (z:Int):Decidable (WT A z):=by unfold WT;infer_instance
theorem Y3 {A:Nat→Int} {z:Int} (h: ¬WT A z):y7 A z=0:=by
 unfold y7
 split
 ·split
  ·rfl
  rename_i h1 h2;exact absurd ⟨h1.1,h1.2,h2⟩ h
 rfl
def zD (A:Nat→Int) (n:Nat):List Int:=((List.range n).filter fun j=>decide (A j≠ -1)).map fun j:Nat=>(j:Int)
theorem Qp (A:Nat→Int) (n:Nat):zD A (n+1)=if A n= -1 then zD A n else zD A n++ [(n:Int)]:=by
 unfold zD
 rw [List.range_succ,List.filter_append,List.map_append]
 by_cases h:A n= -1
 ·rw [if_pos h];simp [h]
 rw [if_neg h];simp [h]
theorem gO (A:Nat→Int) (n:Nat):(zD A n).length≤n:=by
 unfold zD
 rw [List.length_map]
 exact Nat.le_trans (List.length_filter_le _ _) (by simp)
def qR:Nat→Int:=fun _=> -1
theorem f0:dc qR:=fun _=> .inl rfl
theorem bd (A:Nat→Int): ∀n k,yL (zY (rk A) k n)=true:=by
 intro n
 induction n with
 |zero=>intro k;rfl
 |succ n ih=>
  intro k
  show((rk A k).isCell && yL (zY (rk A) (k+1) n))=true
  rw [ih,Bool.and_true];rfl
theorem UO (R:List SP) (f n:Int) (hn: -9223372036854775808≤n∧n≤9223372036854775807):zy 248 [vi f,vi n] (R) fun v L=>v= .bool (decide (qA f n))∧L=R:=by
 refine SW.intro rfl Tryz.func248 rfl ?_
 refine O0 8 J (z0 (fun h6=> ?_) (fun h6=> ?_))
 ·refine Z 3 J (z0 (fun h9=> ?_) (fun h9=> ?_))
  ·refine Z 4 J (z0 (fun h13=> ?_) (fun h13=> ?_))
   ·refine Z 4 J (sb J (Z 5 J (zE J J J (⟨_,⟨yC ?_,rfl⟩,Y⟩))))
    unfold qA;first|(simp;omega)|omega
   refine Z 10 J (zE J J J (⟨_,⟨yC ?_,rfl⟩,Y⟩))
   unfold qA;first|(simp;omega)|omega
  refine Z 14 J (zE J J J (⟨_,⟨yC ?_,rfl⟩,Y⟩))
  unfold qA;first|(simp;omega)|omega
 refine Z 17 J (zE J J J (⟨_,⟨yC ?_,rfl⟩,Y⟩))
 unfold qA;first|(simp;omega)|omega
theorem iL (R:List SP) (r:Int):zy 249 [vi r] (R) fun v L=>v= .bool (decide (Q0 r))∧L=R:=by
 refine SW.intro rfl Tryz.func249 rfl ?_
 refine O0 8 J (z0 (fun h4=> ?_) (fun h4=> ?_))
 ·refine Z 11 J (zE J J J (⟨_,⟨yC ?_,rfl⟩,Y⟩))
  unfold Q0;simp;omega
 refine Z 3 J (z0 (fun h7=> ?_) (fun h7=> ?_))
 ·refine Z 8 J (zE J J J (⟨_,⟨yC ?_,rfl⟩,Y⟩))
  unfold Q0;simp;omega
 refine Z 8 J (zE J J J (⟨_,⟨yC ?_,rfl⟩,Y⟩))
 unfold Q0;simp;omega
theorem JZ (R:List SP) (a:Nat) (A:Nat→Int) (f n:Int) (hw:qA f n) (t:Bool):zy 250 [vp a 0,vi f,vi n,.bool t] (ent qY a A::R) fun v L=>v= .bool (ZX A f.toNat n.toNat t)∧L=ent qY a A::R:=by
 refine zS (jF a A) fun _ hA=> ?_
 dsimp only [List.cons_append,List.nil_append]
 obtain⟨hf0,hn1,hf1,hn2⟩:=hw
 refine SW.intro rfl Tryz.func250 rfl ?_
 refine O0 9 J (fa J Y (Z 3 J (ad J (yo rfl (fun _ h=>Jj rfl rfl rfl rfl (by omega) (by omega) (by omega) (by omega) (by omega) h) ?_))))
 refine zf rfl (fun _=>wD rfl rfl rfl rfl rfl) ?_
 refine Z 3 J (zl (fun j T L=> ∃(c:Nat),(c≤n.toNat)∧(∀k,k<c→decide (A (f.toNat+k)= -1)≠t)∧j=n.toNat-c∧T.len=2∧Tm.get 3 T=some (.bool t)∧Tm.get 18 T=some (.slice (some (a,0+f.toNat*1)) ((f+n).toNat-f.toNat) (some (256-f.toNat)) 1)∧Tm.get 19 T=some (vi (((f+n).toNat-f.toNat:Nat):Int))∧Tm.get 20 T=some (vi (c:Nat))∧Sub L (ent zI a (256,rk A)::R)) (n.toNat) ⟨0,by omega,fun k hk=>absurd hk (Nat.not_lt_zero k),by omega,rfl,rfl,rfl,rfl,rfl,Y⟩ ?_)
 rintro j T L0 ⟨c,hc,hall,rfl,hl,g3,g18,g19,g20,hsb⟩
 obtain⟨tg,rfl⟩:=W7 hl g3 g18 g19 g20
 clear hl g3 g18 g19 g20
 refine zu hsb ?_
 clear hsb L0
 refine O0 3 J (z0 (fun h21=> ?_) (fun h21=> ?_))
 ·refine Z 8 J (zf rfl (fun _=>vQ rfl rfl rfl (by omega) (by omega)) ?_)
  refine yo rfl (fun _ h=>VE rfl rfl (by omega) (rfl) h) ?_
  refine Z 7 J (zf rfl (fun _=>zC rfl rfl rfl rfl) ?_)
  refine zN (fun h27=> ?_) (fun h27=> ?_)
  ·refine Z 7 J (Or.inr ⟨nofun,?_⟩)
   refine zE J J J ?_
   have ei:(c:Int).toNat*1+(0+f.toNat*1)=f.toNat+c:=by omega
   rw [ei]at h27
   refine⟨_,⟨congrArg AVal.bool ?_,rfl⟩,Sub.mk1 (qj hA fun _ _=>rfl) Y⟩
   cases he:ZX A f.toNat n.toNat t with
   |false=>rfl
   |true=>exact absurd (eq_of_beq h27) ((VC _ _ _ _).1 he c (by omega))
  refine Z 4 J (ad J (Z 2 J ?_))
  have ei:(c:Int).toNat*1+(0+f.toNat*1)=f.toNat+c:=by omega
  rw [ei]at h27
  have hx:decide (A (f.toNat+c)= -1)≠t:=fun e=>by { rw [e]at h27;cases t<;>cases h27 }
  exact Or.inl ⟨rfl,_,by omega,c+1,by omega,fun k hk=>by { rcases Nat.lt_succ_iff_lt_or_eq.1 hk with h|h;exact hall k h;subst h;exact hx },rfl,rfl,rfl,rfl,rfl,rfl,Y⟩
 refine Z 4 J (Or.inr ⟨nofun,?_⟩)
 refine OX 5 J (zE J J J (⟨_,⟨congrArg AVal.bool ?_,rfl⟩,Sub.mk1 (qj hA fun _ _=>rfl) Y⟩))
 exact((VC _ _ _ _).2 fun k hk=>hall k (by omega)).symm
theorem JQ (R:List SP) (a:Nat) (A:Nat→Int) (f n r:Int) (hw:qA f n) (hr:r= -1∨Q0 r):zy 251 [vp a 0,vi f,vi n,vi r] (ent qY a A::R) fun v L=>v= .tuple []∧L=ent qY a (Yz A f n r)::R:=by
 refine zS (jF a A) fun _ hA=> ?_
 dsimp only [List.cons_append,List.nil_append]
 obtain⟨hf0,hn1,hf1,hn2⟩:=hw
 refine SW.intro rfl Tryz.func251 rfl ?_
 refine O0 6 J (zl (fun j T L=> ∃(c:Nat) (g:Nat→AVal),(c≤n.toNat)∧(∀j,j<256→g j=vi (if f≤(j:Int)∧(j:Int)<f+c then r else A j))∧j=n.toNat-c∧T.len=2∧Tm.get 0 T=some (vp a 0)∧Tm.get 1 T=some (vi f)∧Tm.get 3 T=some (vi r)∧Tm.get 9 T=some (vi n)∧Tm.get 10 T=some (vi (c:Nat))∧Sub L (ent zI a (256,g)::R)) (n.toNat) ⟨0,rk A,by omega,fun j _=>by rw [if_neg (by omega)];rfl,by omega,rfl,rfl,rfl,rfl,rfl,rfl,Y⟩ ?_)
 rintro j T L0 ⟨c,g,hc,hg,rfl,hl,g0,g1,g3,g9,g10,hsb⟩
 obtain⟨tg,rfl⟩:=ef hl g0 g1 g3 g9 g10
 clear hl g0 g1 g3 g9 g10
 refine zu hsb ?_
 clear hsb L0
 refine O0 3 J (z0 (fun h11=> ?_) (fun h11=> ?_))
 ·refine Z 15 J (ad J (Z 2 J (fa J Y (zf rfl (fun _=>zh rfl rfl rfl (by omega) (by omega)) ?_))))
  refine sF J Y J J (Z 2 J (ad J (Z 2 J ?_)))
  have hg2: ∀j,j<256→vK g ((f+c).toNat+0) (vi r) j=vi (if f≤(j:Int)∧(j:Int)<f+(c+1:Nat)then r else A j):=by
   intro j hj
   unfold vK
   by_cases e:j=(f+c).toNat+0
   ·rw [if_pos e,if_pos (by omega)]
   rw [if_neg e,hg j hj];congr 1;by_cases h:f≤(j:Int)∧(j:Int)<f+c
   ·rw [if_pos h,if_pos (by omega)]
   rw [if_neg h,if_neg (by omega)]
  exact Or.inl ⟨rfl,_,by omega,c+1,_,by omega,hg2,rfl,rfl,rfl,rfl,rfl,rfl,rfl,Y⟩
 refine Z 4 J (Or.inr ⟨nofun,?_⟩)
 refine qz J J (⟨_,⟨rfl,rfl⟩,Sub.mk1 (qj (hA.set hr f n) fun j hj=> ?_) Y⟩)
 rw [hg j hj];unfold Yz
 congr 1;by_cases h:f≤(j:Int)∧(j:Int)<f+n
 ·rw [if_pos (by omega),if_pos h]
 rw [if_neg (by omega),if_neg h]
theorem iD (R:List SP) (a:Nat) (A:Nat→Int) (f n r:Int) (hn: -9223372036854775808≤n∧n≤9223372036854775807):zy 218 [vp a 0,vi f,vi n,vi r] (ent qY a A::R) fun v L=>v=vi (yY A f n r).1∧L=ent qY a (yY A f n r).2::R:=by
 refine SW.intro rfl Tryz.func218 rfl ?_
 refine O0 10 J (Z0 (UO _ _ _ (by omega)) J (z0 (fun h12=> ?_) (fun h12=> ?_)))
 ·refine Z 3 J (Z0 (iL _ _) J (z0 (fun h16=> ?_) (fun h16=> ?_)))
  ·refine Z 10 J (Z1 (JZ _ _ _ _ _ (by first|assumption|omega) _) J Y (zN (fun h23=> ?_) (fun h23=> ?_)))
   ·refine Z 11 J (Z1 (JQ _ _ _ _ _ _ (by assumption) (by first|exact .inl rfl|exact .inr (by assumption))) J Y (Z 6 J (zE J J J ?_)))
    have e:yY A f n r=(0,Yz A f n r):=by { unfold yY;rw [if_neg (by rintro (h|h)<;>contradiction),if_pos h23] }
    rw [e]
    exact fq
   refine Z 9 J (zE J J J ?_)
   have e:yY A f n r=(4,A):=by { unfold yY;rw [if_neg (by rintro (h|h)<;>contradiction),if_neg (by rw [h23];nofun)] }
   rw [e]
   exact fq
  refine Z 10 J (zE J J J ?_)
  have e:yY A f n r=(1,A):=if_pos (.inr (by assumption))
  rw [e]
  exact fq
 refine Z 14 J (zE J J J ?_)
 have e:yY A f n r=(1,A):=if_pos (.inl (by assumption))
 rw [e]
 exact fq
theorem rI (R:List SP) (a:Nat) (A:Nat→Int) (f n r:Int) (hn: -9223372036854775808≤n∧n≤9223372036854775807):zy 223 [vp a 0,vi f,vi n,vi r] (ent qY a A::R) fun v L=>v=vi (y4 A f n r).1∧L=ent qY a (y4 A f n r).2::R:=by
 refine SW.intro rfl Tryz.func223 rfl ?_
 refine O0 10 J (Z0 (UO _ _ _ (by omega)) J (z0 (fun h12=> ?_) (fun h12=> ?_)))
 ·refine Z 3 J (Z0 (iL _ _) J (z0 (fun h16=> ?_) (fun h16=> ?_)))
  ·refine Z 10 J (Z1 (JZ _ _ _ _ _ (by first|assumption|omega) _) J Y (zN (fun h23=> ?_) (fun h23=> ?_)))
   ·refine Z 11 J (Z1 (JQ _ _ _ _ _ _ (by assumption) (by first|exact .inl rfl|exact .inr (by assumption))) J Y (Z 6 J (zE J J J ?_)))
    have e:y4 A f n r=(0,Yz A f n r):=by { unfold y4;rw [if_neg (by rintro (h|h)<;>contradiction),if_pos h23] }
    rw [e]
    exact fq
   refine Z 9 J (zE J J J ?_)
   have e:y4 A f n r=(3,A):=by { unfold y4;rw [if_neg (by rintro (h|h)<;>contradiction),if_neg (by rw [h23];nofun)] }
   rw [e]
   exact fq
  refine Z 10 J (zE J J J ?_)
  have e:y4 A f n r=(1,A):=if_pos (.inr (by assumption))
  rw [e]
  exact fq
 refine Z 14 J (zE J J J ?_)
 have e:y4 A f n r=(1,A):=if_pos (.inl (by assumption))
 rw [e]
 exact fq
theorem Ch (R:List SP) (a:Nat) (A:Nat→Int) (f n:Int) (hn: -9223372036854775808≤n∧n≤9223372036854775807):zy 222 [vp a 0,vi f,vi n] (ent qY a A::R) fun v L=>v=vi (yw A f n).1∧L=ent qY a (yw A f n).2::R:=by
 refine SW.intro rfl Tryz.func222 rfl ?_
 refine O0 10 J (Z0 (UO _ _ _ (by omega)) J (z0 (fun h10=> ?_) (fun h10=> ?_)))
 ·refine Z 9 J (Z1 (JZ _ _ _ _ _ (by first|assumption|omega) _) J Y (zN (fun h16=> ?_) (fun h16=> ?_)))
  ·refine Z 10 J (Z1 (JQ _ _ _ _ _ _ (by assumption) (by first|exact .inl rfl|exact .inr (by assumption))) J Y (Z 6 J (zE J J J ?_)))
   have e:yw A f n=(0,Yz A f n (-1)):=by { unfold yw;rw [if_neg (by intro h;contradiction),if_pos h16] }
   rw [e]
   exact fq
  refine Z 9 J (zE J J J ?_)
  have e:yw A f n=(3,A):=by { unfold yw;rw [if_neg (by intro h;contradiction),if_neg (by rw [h16];nofun)] }
  rw [e]
  exact fq
 refine Z 9 J (zE J J J ?_)
 have e:yw A f n=(1,A):=if_pos (by assumption)
 rw [e]
 exact fq
theorem xG (R:List SP) (a:Nat) (A:Nat→Int) (z:Int):zy 232 [vp a 0,vi z] (ent qY a A::R) fun v L=>v= .tuple [vi (y7 A z),.bool (decide (WT A z))]∧L=ent qY a A::R:=by
 refine zS (jF a A) fun _ hA=> ?_
 dsimp only [List.cons_append,List.nil_append]
 refine SW.intro rfl Tryz.func232 rfl ?_
 refine O0 10 J (z0 (fun h7=> ?_) (fun h7=> ?_))
 ·refine Z 21 J (qO J J J J ?_)
  have e2: ¬WT A z:=fun h=>by { have:=h.2.2;have:=h.1;have:=h.2.1;first|omega|contradiction }
  rw [Y3 e2,decide_eq_false e2]
  exact⟨_,⟨rfl,rfl⟩,Sub.mk1 (qj hA fun _ _=>rfl) Y⟩
 refine Z 3 J (z0 (fun h10=> ?_) (fun h10=> ?_))
 ·refine Z 18 J (qO J J J J ?_)
  have e2: ¬WT A z:=fun h=>by { have:=h.2.2;have:=h.1;have:=h.2.1;first|omega|contradiction }
  rw [Y3 e2,decide_eq_false e2]
  exact⟨_,⟨rfl,rfl⟩,Sub.mk1 (qj hA fun _ _=>rfl) Y⟩
 refine Z 5 J (fa J Y (zf rfl (fun _=>zh rfl rfl rfl (by omega) (by omega)) ?_))
 refine yo rfl (fun _ h=>VE rfl rfl (by omega) (rfl) h) ?_
 refine Z 1 J (z0 (fun h19=> ?_) (fun h19=> ?_))
 ·refine Z 9 J (qO J J J J ?_)
  have e2: ¬WT A z:=fun h=>by { have:=h.2.2;have:=h.1;have:=h.2.1;first|omega|contradiction }
  rw [Y3 e2,decide_eq_false e2]
  exact⟨_,⟨rfl,rfl⟩,Sub.mk1 (qj hA fun _ _=>rfl) Y⟩
 refine Z 9 J (fa J Y (zf rfl (fun _=>zh rfl rfl rfl (by omega) (by omega)) ?_))
 refine yo rfl (fun _ h=>VE rfl rfl (by omega) (rfl) h) ?_
 refine Z 4 J (qO J J J J ?_)
 have e1:y7 A z=A z.toNat:=by { unfold y7;rw [if_pos (by omega),if_neg (show¬A z.toNat= -1 by assumption)] }
 have e2:WT A z:=⟨by omega,by omega,by assumption⟩
 rw [e1,decide_eq_true e2]
 exact⟨_,⟨rfl,rfl⟩,Sub.mk1 (qj hA fun _ _=>rfl) Y⟩
theorem xl (R:List SP) (a:Nat) (A:Nat→Int):zy 175 [vp a 0] (ent qY a A::R) fun v L=> ∃w,v=w∧mb w (zD A 256).length 1∧L=ent (zP yK 1) w (zD A 256)::ent qY a A::R:=by
 refine zS (jF a A) fun _ hA=> ?_
 dsimp only [List.cons_append,List.nil_append]
 refine SW.intro rfl Tryz.func175 rfl ?_
 refine O0 13 J (fa J Y (yo rfl (fun _ h=>wF rfl rfl (by omega) (rfl) h) ?_))
 refine Z 3 J (zu (Sub.nilE (en:=yK) (es:=1) Zk (by decide) 0 _) ?_)
 refine zl (fun j T L=> ∃(c:Nat) (w:AVal),(c≤256)∧(mb w (zD A c).length 1)∧j=256-c∧T.len=2∧Tm.get 3 T=some (w)∧Tm.get 9 T=some (.agg (zY (rk A) (0+0) 256))∧Tm.get 10 T=some (vi (c:Nat))∧Sub L (ent (zP yK 1) w (zD A c)::ent zI a (256,rk A)::R)) (256) ⟨0,.slice none 0 (some 0) 0,by omega,mb.nil 1,by omega,rfl,rfl,rfl,rfl,Sub.refl _⟩ ?_
 rintro j T L0 ⟨c,w,hc,hv,rfl,hl,g3,g9,g10,hsb⟩
 obtain⟨tg,rfl⟩:=sA hl g3 g9 g10
 clear hl g3 g9 g10
 refine zu hsb ?_
 clear hsb L0
 refine O0 3 J (z0 (fun h11=> ?_) (fun h11=> ?_))
 ·refine Z 9 J (zf rfl (fun _=>Uq rfl rfl rfl (by omega) (by omega) (zq _ _ _ _ (by omega))) ?_)
  refine Z 7 J (z0 (fun h15=> ?_) (fun h15=> ?_))
  ·refine Z 5 J (zT (cs:= [_]) rfl rfl rfl (by decide) rfl fun i18=> ?_)
   refine kU rfl rfl rfl rfl rfl rfl rfl ([(c:Int)]) rfl rfl (by simp) (hv.nc) (by have:=gO A c;simp;omega) rfl fun i19=> ?_
   refine Z 3 J (ad J (Z 2 J ?_))
   have hs:=Qp A c
   have ei:(0+0+(c:Int).toNat)=c:=by omega
   rw [ei]at h15
   have h15:A c≠ -1:=h15
   rw [if_neg h15]at hs
   exact Or.inl ⟨rfl,_,by omega,c+1,.slice (some (i19,0)) ((zD A c).length+1) none 1,by omega,by rw [hs];exact .inr ⟨i19,by simp⟩,rfl,rfl,rfl,rfl,rfl,(by rw [hs];exact Y)⟩
  refine Z 4 J (ad J (Z 2 J ?_))
  have hs:=Qp A c
  have ei:(0+0+(c:Int).toNat)=c:=by omega
  rw [ei]at h15
  have h15: ¬A c≠ -1:=h15
  rw [if_pos (by omega)]at hs
  exact Or.inl ⟨rfl,_,by omega,c+1,w,by omega,by rw [hs];exact hv,rfl,rfl,rfl,rfl,rfl,(by rw [hs];exact Y)⟩
 refine Z 4 J (Or.inr ⟨nofun,?_⟩)
 refine OX 6 J (zE J J J ?_)
 have e:c=256:=by omega
 subst e
 exact⟨_,⟨w,rfl,hv,rfl⟩,Sub.get rfl (Sub.mk1 (qj hA fun _ _=>rfl) Y)⟩
theorem fb (R:List SP):zy 108 [] (R) fun v L=> ∃a,v=vp a 0∧L=ent qY a qR::R:=by
 refine SW.intro rfl Tryz.func108 rfl ?_
 refine O0 6 J (zf rfl (fun _=>UT rfl rfl rfl) ?_)
 refine yW rfl rfl rfl rfl fun i4=> ?_
 refine Z 8 J (zu (M:=ent zI i4 (256,fun _=>vi 0)::R) (Sub.one (wG (cs:=List.replicate 256 (vi 0)) (f:=fun _=>vi 0) fun j hj=>m5 hj)) ?_)
 refine zl (fun j T L=> ∃(c:Nat) (g:Nat→AVal),(c≤256)∧(∀j,j<c→g j=vi (-1))∧j=256-c∧T.len=1∧Tm.get 1 T=some (vp i4 0)∧Tm.get 5 T=some (vi (c:Nat))∧Sub L (ent zI i4 (256,g)::R)) (256) ⟨0,fun _=>vi 0,by omega,fun j h=>absurd h (Nat.not_lt_zero j),by omega,rfl,rfl,rfl,Y⟩ ?_
 rintro j T L0 ⟨c,g,hc,hg,rfl,hl,g1,g5,hsb⟩
 obtain⟨tg,rfl⟩:=Dj hl g1 g5
 clear hl g1 g5
 refine zu hsb ?_
 clear hsb L0
 refine O0 3 J (z0 (fun h6=> ?_) (fun h6=> ?_))
 ·refine Z 15 J (fa J Y (zf rfl (fun _=>zh rfl rfl rfl (by omega) (by omega)) ?_))
  refine sF J Y J J (Z 2 J (ad J (Z 2 J ?_)))
  have hg2: ∀j,j<c+1→vK g ((c:Int).toNat+0) (vi (-1)) j=vi (-1):=by
   intro j hj
   unfold vK
   by_cases e:j=(c:Int).toNat+0
   ·rw [if_pos e]
   rw [if_neg e];exact hg j (by omega)
  exact Or.inl ⟨rfl,_,by omega,c+1,_,by omega,hg2,rfl,rfl,rfl,rfl,Y⟩
 refine Z 4 J (Or.inr ⟨nofun,?_⟩)
 exact OX 6 J (zE J J J ⟨_,⟨i4,rfl,rfl⟩,Sub.mk1 (qj f0 fun j hj=>hg j (by omega)) Y⟩)
theorem bZ (R:List SP) (a:Nat) (A:Nat→Int):zy 217 [vp a 0] (ent qY a A::R) fun v L=> ∃b,v=vp b 0∧L=ent qY b A::ent qY a A::R:=by
 refine zS (jF a A) fun _ hA=> ?_
 dsimp only [List.cons_append,List.nil_append]
 refine SW.intro rfl Tryz.func217 rfl ?_
 refine O0 8 J (yo rfl (fun _ h=>wF rfl rfl (by omega) (rfl) h) ?_)
 refine zd rfl rfl rfl fun i3=> ?_
 refine Yn (i:=i3) (n:=256) (fun _=>vi 0) List.length_replicate (fun j hj=>m5 hj) ?_
 refine QD rfl rfl rfl rfl (zo _ _ _) (bd A _ _) (by omega) ?_
 refine Z 6 J (zE J J J (⟨_,⟨i3,rfl,rfl⟩,Sub.mk1 (qj hA fun j hj=> ?_) (Sub.mk1 (qj hA fun _ _=>rfl) Y)⟩))
 show vL _ 0 (zY (rk A) 0 256) j=_
 unfold vL
 rw [if_pos (Nat.zero_le _),zq _ _ _ _ (show j-0<256 by omega)]
 show rk A (0+(j-0))=_
 rw [show 0+(j-0)=j by omega];rfl
def c8 (w:Nat→Nat):List AVal:= [vu (w 0),vu (w 1),vu (w 2),vu (w 3),vu (w 4),vu (w 5),vu (w 6),vu (w 7)]
def e8 (w:Nat→Nat):AVal:= .agg (c8 w)
theorem oz (w:Nat→Nat) (j:Nat) (h:j<8):(c8 w)[j]? =some (vu (w j)):=by
 rcases(by omega:j=0∨j=1∨j=2∨j=3∨j=4∨j=5∨j=6∨j=7)with rfl|rfl|rfl|rfl|rfl|rfl|rfl|rfl<;>rfl
theorem xi {g:Nat→AVal} {w:Nat→Nat} (h: ∀j,j<8→g j=vu (w j)):zY g 0 8=c8 w:=by
 apply List.ext_getElem?
 intro i
 by_cases hi:i<8
 ·rw [zq _ _ _ _ hi,Nat.zero_add,oz _ _ hi,h i hi]
 rw [List.getElem?_eq_none (by rw [zo];omega),List.getElem?_eq_none (by show 8≤i;omega)]
abbrev jt:=List (Int×(Nat→Nat))
def U6 (W:jt):Prop:= ∀p,p ∈ W→ ∀o,p.2 o≤18446744073709551615
abbrev Gt (s:Nat) (W:jt) (i:Nat):List SP:= [ent z8 s [.map (some i)],ent (cM e8) i W]
def y5 (s:Nat) (W:jt):SP:=fun h=> ∃i,U6 W∧yd (Gt s W i) h
theorem Za (s:Nat) (W:jt): ∀h,y5 s W h→ ∃i,U6 W∧yd (Gt s W i) h:=fun _ h=>h
theorem qy {s i:Nat} {W:jt} (h:U6 W): ∀f,yd [ent z8 s [.map (some i)],ent (cM e8) i W] f→y5 s W f:=fun _ x=>⟨i,h,x⟩
theorem U6.get {W:jt} (h:U6 W) (z:Int) (o:Nat):(VX W z).getD (fun _=>0) o≤18446744073709551615:=by
 cases e:VX W z with
 |none=>exact Nat.zero_le _
 |some w=>exact h _ (o7 e) o
theorem U6.del {W:jt} (h:U6 W) (z:Int):U6 (WE W z):=fun p hp=>h p (rx hp)
theorem U6.ins {W:jt} (h:U6 W) (z:Int) {w:Nat→Nat} (hw: ∀o,w o≤18446744073709551615):U6 (GW W z w):=fun p hp=>by
 rcases lT hp with rfl|hp
 ·exact hw
 exact h p hp
def ZM (W:jt):Nat→Nat→Option Nat
 |_,0=>none
 |s,k+1=>if(VX W (s:Int)).isSome then ZM W (s+1) k else some s
def Yl (W:jt):Option Nat:=ZM W 1 7
theorem dl (W:jt): ∀k s g,ZM W s k=some g→s≤g∧g<s+k∧(VX W (g:Int)).isSome=false:=by
 intro k
 induction k with
 |zero=>intro s g h;cases h
 |succ k ih=>
  intro s g h
  have h:(if(VX W (s:Int)).isSome then ZM W (s+1) k else some s)=some g:=h
  cases e:(VX W (s:Int)).isSome with
  |true=>rw [e,if_pos rfl]at h;have:=ih _ _ h;exact⟨by omega,by omega,this.2.2⟩
  |false=>rw [e,if_neg nofun]at h;cases h;exact⟨Nat.le_refl _,by omega,e⟩
def gY (W:jt) (M:zA) (f:Int):Option (Nat×jt):=if 0≤f∧f<M.n then(Yl W).map fun s=>(s,GW W (s:Int) (M.word f.toNat))else none
theorem zA.rd_word {M:zA} {f:Int} (hf:0≤f∧f<M.n) {o:Nat} (ho:o<8):M.rd (8*f+o)=M.word f.toNat o:=by
 unfold zA.rd zA.read
 rw [if_pos (by omega),show((8*f+o)/8).toNat=f.toNat by omega,show((8*f+o)%8).toNat=o by omega];rfl
def zA.fill (M:zA) (f:Int) (w:Nat→Nat):Nat→zA
 |0=>M
 |k+1=>(M.fill f w k).write (8*f+k) (w k)
theorem zA.fill_n (M:zA) (f:Int) (w:Nat→Nat) (k:Nat):(M.fill f w k).n=M.n:=by
 induction k with
 |zero=>rfl
 |succ k ih=>show((M.fill f w k).write _ _).n=_;rw [zA.write_n,ih]
theorem sY (R:List SP):zy 100 [] (R) fun v L=> ∃s,v=vp s 0∧L=ent y5 s []::R:=by
 refine SW.intro rfl Tryz.func100 rfl ?_
 refine O0 6 J (dq (e:=e8) rfl rfl fun i1=> ?_)
 refine bu [_] J Y Y J (yW rfl rfl rfl rfl fun i3=> ?_)
 exact Z 3 J (zE J J J ⟨_,⟨i3,rfl,rfl⟩,Sub.mk2 (qy (W:= []) (i:=i1) nofun) Y⟩)
theorem co (R:List SP) (s:Nat) (W:jt) (z:Int):zy 213 [vp s 0,vi z] (ent y5 s W::R) fun v L=>v= .bool (VX W z).isSome∧L=ent y5 s (WE W z)::R:=by
 refine zS (Za s W) fun i hW=> ?_
 dsimp only [Gt,List.cons_append,List.nil_append]
 refine SW.intro rfl Tryz.func213 rfl ?_
 refine O0 8 J (fa J Y (ld J Y J (Z 1 J (yo rfl (fun _ h=>kc (e:=e8) (fun _=>0) rfl rfl rfl rfl h) ?_))))
 refine Z 3 J (zd rfl rfl rfl fun i5=> ?_)
 refine sN J Y Y J J J (Z 6 J (fa J Y (ld J Y J (Z 1 J (mE (e:=e8) rfl rfl rfl rfl rfl rfl rfl ?_)))))
 exact Z 7 J (zE J J J ⟨_,⟨rfl,rfl⟩,Sub.mk2 (qy (hW.del z)) Y⟩)
theorem av (R:List SP) (s m:Nat) (W:jt) (M:zA) (f:Int):zy 225 [vp s 0,vp m 0,vi f] (ent y5 s W::ent zQ m M::R) fun v L=>v= .tuple [vi (((gY W M f).map fun p=>p.1).getD 0:Nat),.bool (gY W M f).isSome]∧L=ent y5 s (((gY W M f).map fun p=>p.2).getD W)::ent zQ m M::R:=by
 refine yQ (p:=M.Ok) (qD m M) fun hM=> ?_
 have hM1:=hM.1
 have hM2:=hM.2.1
 refine zS (Za s W) fun i hW=> ?_
 dsimp only [Gt,List.cons_append,List.nil_append]
 refine SW.intro rfl Tryz.func225 rfl ?_
 refine O0 10 J (z0 (fun h14=> ?_) (fun h14=> ?_))
 ·refine Z 14 J (qO J J J J ?_)
  have e:gY W M f=none:=if_neg (by omega)
  rw [e]
  exact⟨_,⟨rfl,rfl⟩,Sub.mk2 (qy hW) Y⟩
 refine Z 3 J (Z1 (vk _ _ _) J Y (Z 1 J (z0 (fun h19=> ?_) (fun h19=> ?_))))
 ·refine Z 9 J (qO J J J J ?_)
  have e:gY W M f=none:=if_neg (by omega)
  rw [e]
  exact⟨_,⟨rfl,rfl⟩,Sub.mk2 (qy hW) Y⟩
 refine Z 10 J (zl (fun j T L=> ∃(k:Nat),(1≤k∧k≤8)∧(ZM W k (8-k)=Yl W)∧j=8-k∧T.len=4∧Tm.get 0 T=some (vp s 0)∧Tm.get 1 T=some (vp m 0)∧Tm.get 2 T=some (vi f)∧Tm.get 8 T=some (vi (k:Nat))∧Sub L (ent z8 s [.map (some i)]::ent (cM e8) i W::ent zQ m M::R)) (7) ⟨1,by omega,rfl,by omega,rfl,rfl,rfl,rfl,rfl,Y⟩ ?_)
 rintro j T L0 ⟨k,hk,hl,rfl,hl,g0,g1,g2,g8,hsb⟩
 obtain⟨tg,rfl⟩:=W7 hl g0 g1 g2 g8
 clear hl g0 g1 g2 g8
 refine zu hsb ?_
 clear hsb L0
 refine O0 5 J (z0 (fun h22=> ?_) (fun h22=> ?_))
 ·refine Z 10 J (fa J Y (ld J Y J (Z 1 J (yo rfl (fun _ h=>kc (e:=e8) (fun _=>0) rfl rfl rfl rfl h) ?_))))
  refine Z 3 J (zN (fun h33=> ?_) (fun h33=> ?_))
  ·refine zd rfl rfl rfl fun i9=> ?_
   refine sN J Y Y J J J (Z 10 J (ad J (Z 2 J ?_)))
   have hs:8-k=(8-(k+1))+1:=by omega
   rw [hs]at hl
   have hl:(if(VX W (k:Int)).isSome then ZM W (k+1) (8-(k+1))else some k)=Yl W:=hl
   rw [h33,if_pos rfl]at hl
   exact Or.inl ⟨rfl,_,by omega,k+1,by omega,hl,rfl,rfl,rfl,rfl,rfl,rfl,Y⟩
  refine zd rfl rfl rfl fun i9=> ?_
  refine sN J Y Y J J J (Z 10 J (zd rfl rfl rfl fun i11=> ?_))
  refine Yn (i:=i11) (n:=8) (fun _=>vu 0) rfl (fun j hj=>m5 (n:=8) hj) ?_
  refine Z 7 J (zl (fun j T L=> ∃(c:Nat) (g:Nat→AVal),(c≤8)∧(∀j,j<c→g j=vu (M.word f.toNat j))∧j=8-c∧T.len=4∧Tm.get 0 T=some (vp s 0)∧Tm.get 1 T=some (vp m 0)∧Tm.get 2 T=some (vi f)∧Tm.get 8 T=some (vi (k:Nat))∧Tm.get 11 T=some (vp i11 0)∧Tm.get 35 T=some (vi (c:Nat))∧Sub L (ent zI i11 (8,g)::ent z8 s [.map (some i)]::ent (cM e8) i W::ent zQ m M::R)) (8) ⟨0,fun _=>vu 0,by omega,fun j h=>absurd h (Nat.not_lt_zero j),by omega,rfl,rfl,rfl,rfl,rfl,rfl,rfl,Y⟩ ?_)
  rintro j T L0 ⟨c,g,hc,hg,rfl,hl,g0,g1,g2,g8,g11,g35,hsb⟩
  obtain⟨tg,rfl⟩:=oC hl g0 g1 g2 g8 g11 g35
  clear hl g0 g1 g2 g8 g11 g35
  refine zu hsb ?_
  clear hsb L0
  refine O0 3 J (z0 (fun h36=> ?_) (fun h36=> ?_))
  ·refine Z 15 J (ml J (Z 1 J (ad J (Z1 (Wt _ _ _ _ (by omega)) J Y (Z 3 J (zf rfl (fun _=>zh rfl rfl rfl (by omega) (by omega)) ?_))))))
   refine sF J Y J J (Z 2 J (ad J (Z 2 J ?_)))
   have hg2: ∀j,j<c+1→vK g ((c:Int).toNat+0) (vu (M.rd (8*f+c))) j=vu (M.word f.toNat j):=by
    intro j hj
    unfold vK
    by_cases e:j=(c:Int).toNat+0
    ·rw [if_pos e,zA.rd_word (by omega) (by omega)];congr;omega
    rw [if_neg e];exact hg j (by omega)
   exact Or.inl ⟨rfl,_,by omega,c+1,_,by omega,hg2,rfl,rfl,rfl,rfl,rfl,rfl,rfl,rfl,Y⟩
  refine Z 4 J (Or.inr ⟨nofun,?_⟩)
  refine OX 1 J (zO [0,1,3,7,0,0,63] [([0,1,2,3,4,5],[3,5],some 6),([],[],none)] (by kernel_rfl) ?_)
  refine z4 (ZK 2 J (zj J Y (ye J Y J (ZK 1 J (uW rfl (fun _ h=>wF rfl rfl (by omega) (xi (w:=M.word f.toNat) fun j hj=>hg j (by omega)) h) ?_)))))
  refine z5 ⟨(y6 J Y J J J (wV rfl (fun _ h=>wF rfl rfl (by omega) (xi (w:=M.word f.toNat) fun j hj=>hg j (by omega)) h) rfl rfl (z3 _ rfl) z6)),?_⟩
  refine o0 (e:=e8) (y:=M.word f.toNat) rfl rfl rfl rfl rfl ?_
  refine zF (z4 (z5 ⟨z6,?_⟩))
  refine OX 7 J (Or.inr ⟨nofun,?_⟩)
  refine qO J J J J ?_
  have hs:8-k=(8-(k+1))+1:=by omega
  rw [hs]at hl
  have hl:(if(VX W (k:Int)).isSome then ZM W (k+1) (8-(k+1))else some k)=Yl W:=hl
  rw [h33,if_neg nofun]at hl
  have e:gY W M f=some (k,GW W (k:Int) (M.word f.toNat)):=by { unfold gY;rw [if_pos (by omega),←hl];rfl }
  rw [e]
  exact⟨_,⟨rfl,rfl⟩,Sub.mk2 (qy (hW.ins _ fun o=>hM.2.2 _ _)) Y⟩
 refine Z 3 J (Or.inr ⟨nofun,?_⟩)
 refine OX 6 J (qO J J J J ?_)
 have hk8:8-k=0:=by omega
 rw [hk8]at hl
 have hl:none=Yl W:=hl
 have e:gY W M f=none:=by { unfold gY;rw [←hl];split<;>rfl }
 rw [e]
 exact⟨_,⟨rfl,rfl⟩,Sub.mk2 (qy hW) Y⟩
theorem Av (R:List SP) (s m:Nat) (W:jt) (M:zA) (z f:Int) (hf:0≤f∧f<M.n) (hz:(VX W z).isSome=true):zy 261 [vp s 0,vp m 0,vi z,vi f] (ent y5 s W::ent zQ m M::R) fun v L=>v= .bool true∧L=ent y5 s (WE W z)::ent zQ m (M.fill f ((VX W z).getD fun _=>0) 8)::R:=by
 refine yQ (p:=M.Ok) (qD m M) fun hM=> ?_
 have hM1:=hM.1
 have hM2:=hM.2.1
 refine zS (Za s W) fun i hW=> ?_
 dsimp only [Gt,List.cons_append,List.nil_append]
 generalize hw:(VX W z).getD (fun _=>0)=w
 have hwk: ∀o,w o≤18446744073709551615:=fun o=>by rw [←hw];exact hW.get z o
 refine SW.intro rfl Tryz.func261 rfl ?_
 refine O0 8 J (fa J Y (ld J Y J (Z 1 J (yo rfl (fun _ h=>kc (e:=e8) (fun _=>0) rfl rfl rfl rfl h) ?_))))
 rw [hw,hz]
 refine Z 3 J (zd rfl rfl rfl fun i9=> ?_)
 refine sN J Y Y J J J (Z 9 J (zf rfl (fun _=>zC rfl rfl rfl (QX rfl)) (qM (by omega) ?_)))
 refine Z 4 J (Z1 (vk _ _ _) J Y (zf rfl (fun _=>zC rfl rfl rfl (JL rfl)) (qM (by omega) ?_)))
 refine Z 7 J (lN J Y Y J J (Z 3 J (zl (fun j T L=> ∃(c:Nat),(c≤8)∧j=8-c∧T.len=4∧Tm.get 0 T=some (vp s 0)∧Tm.get 1 T=some (vp m 0)∧Tm.get 2 T=some (vi z)∧Tm.get 3 T=some (vi f)∧Tm.get 34 T=some (e8 w)∧Tm.get 35 T=some (vi (c:Nat))∧Sub L (ent zQ m (M.fill f w c)::ent z8 s [.map (some i)]::ent (cM e8) i W::R)) (8) ⟨0,by omega,by omega,rfl,rfl,rfl,rfl,rfl,rfl,rfl,(show Sub _ (ent zQ m M::_)from Y)⟩ ?_)))
 rintro j T L0 ⟨c,hc,rfl,hl,g0,g1,g2,g3,g34,g35,hsb⟩
 obtain⟨tg,rfl⟩:=oC hl g0 g1 g2 g3 g34 g35
 clear hl g0 g1 g2 g3 g34 g35
 refine zu hsb ?_
 clear hsb L0
 refine O0 3 J (z0 (fun h36=> ?_) (fun h36=> ?_))
 ·refine Z 9 J (zf rfl (fun _=>Uq rfl rfl rfl (by omega) (by omega) (oz w _ (by omega))) ?_)
  refine Z 6 J (ml J (Z 1 J (ad J (Z 1 J (Z1 (jT _ _ (M.fill f w c) _ (by omega) _ (hwk _)) J Y (Z 2 J (ad J (Z 2 J ?_))))))))
  exact Or.inl ⟨rfl,_,by omega,c+1,by omega,rfl,rfl,rfl,rfl,rfl,rfl,rfl,rfl,(by show Sub (ent zQ m ((M.fill f w c).write (8*f+c) (w c))::_) (ent zQ m ((M.fill f w c).write (8*f+c) (w c))::_);exact Y)⟩
 refine Z 4 J (Or.inr ⟨nofun,?_⟩)
 refine OX 4 J (fa J Y (ld J Y J (Z 1 J (mE (e:=e8) rfl rfl rfl rfl rfl rfl rfl ?_))))
 refine Z 6 J (zE J J J ?_)
 have e:c=8:=by omega
 subst e
 exact⟨_,⟨rfl,rfl⟩,Sub.mk2 (qy (hW.del z)) Y⟩
structure zV where
 al:Nat→Bool
 n:Nat
 on:Nat→Int
 last:Nat→Int
abbrev zV.setAl (S:zV) (p:Nat) (b:Bool):zV:= { S with al:=fun q=>if q=p then b else S.al q }
def zV.Ok (S:zV):Prop:=1≤S.n∧S.n≤2∧(∀c,-1≤S.on c∧S.on c<4)∧ ∀c,0≤S.last c∧S.last c<4
def GO (S:zV) (a b:Nat):Nat→AVal
 |4=> .slice (some (a,0)) S.n none 1
 |5=> .slice (some (b,0)) S.n none 1
 |j=> .bool (S.al j)
theorem YX (S:zV) (a b:Nat) {j:Nat} (h:j<4):GO S a b j= .bool (S.al j):=by
 rcases(by omega:j=0∨j=1∨j=2∨j=3)with rfl|rfl|rfl|rfl<;>rfl
abbrev tl (s:Nat) (S:zV) (p:Nat×Nat):List SP:= [ent zI s (6,GO S p.1 p.2),ent zI p.1 (S.n,fun j=>vi (S.on j)),ent zI p.2 (S.n,fun j=>vi (S.last j))]
def wO (s:Nat) (S:zV):SP:=fun h=> ∃p,S.Ok∧yd (tl s S p) h
theorem Yg (s:Nat) (S:zV): ∀h,wO s S h→ ∃p,S.Ok∧yd (tl s S p) h:=fun _ h=>h
theorem qZ {s a b:Nat} {S:zV} (hS:S.Ok) {q f g:Nat→AVal} (hq: ∀j,j<6→q j=GO S a b j) (hf: ∀j,j<S.n→f j=vi (S.on j)) (hg: ∀j,j<S.n→g j=vi (S.last j)):
 ∀h,yd [ent zI s (6,q),ent zI a (S.n,f),ent zI b (S.n,g)] h→wO s S h:=
 fun _ x=>⟨(a,b),hS,nG (CU (dd x (wK hf)) (wK hg)) (wK hq)⟩
theorem xm (S:zV) (a b:Nat) {p:Nat} (hp:p<4) (v:Bool) (k:Nat) (hk:k=p): ∀j,j<6→vK (GO S a b) k (.bool v) j=GO (S.setAl p v) a b j:=by
 subst hk
 intro j hj
 unfold vK
 by_cases e:j=k
 ·rw [if_pos e,e,YX _ _ _ hp];simp [zV.setAl]
 rw [if_neg e]
 rcases(by omega:j<4∨j=4∨j=5)with h|rfl|rfl
 ·rw [YX _ _ _ h,YX _ _ _ h];simp [zV.setAl,e]
 ·rfl
 rfl
theorem oO (s:Nat) (S:zV): ∀h,wO s S h→S.Ok:=fun _ ⟨_,h,_⟩=>h
def zV.alive (S:zV) (p:Int):Bool:=decide (0≤p∧p<4) && S.al p.toNat
def zV.cpu (S:zV) (c:Int):Int:=if 0≤c∧c<S.n then S.on c.toNat else-1
def zV.find (S:zV) (p:Int):Nat→Nat→Int
 |_,0=> -1
 |c,k+1=>if S.on c=p∧0≤p∧p<4 then(c:Int)else S.find p (c+1) k
def zV.wher (S:zV) (p:Int):Int:=S.find p 0 S.n
abbrev zV.setOn (S:zV) (c:Nat) (v:Int):zV:= { S with on:=fun d=>if d=c then v else S.on d }
abbrev zV.setLast (S:zV) (c:Nat) (v:Int):zV:= { S with last:=fun d=>if d=c then v else S.last d }
def zV.wake (S:zV) (p:Int):zV:=if 0≤p∧p<4 then S.setAl p.toNat true else S
def zV.fin (S:zV) (p:Int):zV:=if S.alive p=true then(let S1:=S.setAl p.toNat false;if 0≤S1.wher p then S1.setOn (S1.wher p).toNat (-1)else S1)else S
def zV.nextUp (S:zV) (l:Int):Nat→Nat→Option Int
 |_,0=>none
 |i,k+1=>if S.al ((l+1+i)%4).toNat=true∧S.wher ((l+1+i)%4)<0 then some ((l+1+i)%4)else S.nextUp l (i+1) k
def zV.pick (S:zV) (c:Int):Int×zV:=if 0≤c∧c<S.n then(let S1:=S.setOn c.toNat (-1)
 match S1.nextUp (S.last c.toNat) 0 4 with
 |some p=>(p,(S1.setOn c.toNat p).setLast c.toNat p)
 |none=>(-1,S1))else(-1,S)
theorem zV.find_bd (S:zV) (p:Int): ∀k c,-1≤S.find p c k∧S.find p c k<(c+k:Nat):=by
 intro k
 induction k with
 |zero=>intro c;show-1≤(-1:Int)∧(-1:Int)<_;omega
 |succ k ih=>
  intro c
  have:=ih (c+1)
  show-1≤(if _ then _ else _)∧(if _ then _ else _)<_
  split<;>omega
theorem dn (S:zV) {c k:Nat} (v:Int) (hk:k=c): ∀j,j<S.n→vK (fun j=>vi (S.on j)) k (vi v) j=vi ((S.setOn c v).on j):=by
 subst hk
 intro j _
 unfold vK
 show(if j=k then vi v else vi (S.on j))=vi (if j=k then v else S.on j)
 split<;>rfl
theorem lB (S:zV) {c k:Nat} (v:Int) (hk:k=c): ∀j,j<S.n→vK (fun j=>vi (S.last j)) k (vi v) j=vi ((S.setLast c v).last j):=by
 subst hk
 intro j _
 unfold vK
 show(if j=k then vi v else vi (S.last j))=vi (if j=k then v else S.last j)
 split<;>rfl
theorem zV.wher_bd (S:zV) (p:Int): -1≤S.wher p∧S.wher p<S.n:=by
 have:=S.find_bd p S.n 0
 unfold zV.wher;omega
theorem zV.Ok.setAl {S:zV} (h:S.Ok) (p:Nat) (b:Bool):(S.setAl p b).Ok:=h
theorem zV.Ok.setOn {S:zV} (h:S.Ok) (c:Nat) {v:Int} (hv: -1≤v∧v<4):(S.setOn c v).Ok:=⟨h.1,h.2.1,fun d=>by
 show-1≤(if d=c then v else S.on d)∧(if d=c then v else S.on d)<4
 split
 ·exact hv
 exact h.2.2.1 d,h.2.2.2⟩
theorem zV.Ok.setLast {S:zV} (h:S.Ok) (c:Nat) {v:Int} (hv:0≤v∧v<4):(S.setLast c v).Ok:=⟨h.1,h.2.1,h.2.2.1,fun d=>by
 show 0≤(if d=c then v else S.last d)∧(if d=c then v else S.last d)<4
 split
 ·exact hv
 exact h.2.2.2 d⟩
theorem kg (R:List SP) (p:Int):zy 109 [vi p] (R) fun v L=>v= .bool (decide (0≤p∧p<4))∧L=R:=by
 refine SW.intro rfl Tryz.func109 rfl ?_
 refine O0 8 J (z0 (fun h4=> ?_) (fun h4=> ?_))
 ·refine Z 7 J (zE J J J (⟨_,⟨yC ?_,rfl⟩,Y⟩))
  simp;omega
 refine Z 7 J (zE J J J (⟨_,⟨yC ?_,rfl⟩,Y⟩))
 simp;omega
theorem V4 (R:List SP) (s:Nat) (S:zV) (c:Int):zy 50 [vp s 0,vi c] (ent wO s S::R) fun v L=>v=vi (S.cpu c)∧L=ent wO s S::R:=by
 refine zS (Yg s S) fun p hS=> ?_
 obtain⟨a,b⟩:=p
 dsimp only [tl,List.cons_append,List.nil_append]
 have hn1:=hS.1
 have hn2:=hS.2.1
 refine SW.intro rfl Tryz.func50 rfl ?_
 refine O0 9 J (z0 (fun h6=> ?_) (fun h6=> ?_))
 ·refine Z 16 J (zE J J J ?_)
  have e:S.cpu c= -1:=if_neg (by omega)
  rw [e]
  exact⟨_,⟨rfl,rfl⟩,Sub.mk3 (qZ hS (fun _ _=>rfl) (fun _ _=>rfl) fun _ _=>rfl) Y⟩
 refine Z 4 J (fa J Y (lf J Y J (zf rfl (fun _=>wD rfl rfl rfl rfl rfl) ?_)))
 refine Z 1 J (z0 (fun h14=> ?_) (fun h14=> ?_))
 ·refine Z 8 J (zE J J J ?_)
  have e:S.cpu c= -1:=if_neg (by omega)
  rw [e]
  exact⟨_,⟨rfl,rfl⟩,Sub.mk3 (qZ hS (fun _ _=>rfl) (fun _ _=>rfl) fun _ _=>rfl) Y⟩
 refine Z 8 J (fa J Y (lf J Y J (Z 1 J (zf rfl (fun _=>ug rfl rfl rfl (by omega) (by omega)) ?_))))
 refine lf J Y J (Z 3 J (zE J J J ?_))
 have e:S.cpu c=S.on (c.toNat+0):=by { unfold zV.cpu;rw [if_pos (by omega)];rfl }
 rw [e]
 exact⟨_,⟨rfl,rfl⟩,Sub.mk3 (qZ hS (fun _ _=>rfl) (fun _ _=>rfl) fun _ _=>rfl) Y⟩
theorem mP (R:List SP) (s:Nat) (S:zV) (p:Int) (hp:S.alive p=false):zy 70 [vp s 0,vi p] (ent wO s S::R) fun v L=>v= .bool (decide (0≤p∧p<4))∧L=ent wO s (S.wake p)::R:=by
 refine zS (Yg s S) fun p hS=> ?_
 obtain⟨a,b⟩:=p
 dsimp only [tl,List.cons_append,List.nil_append]
 have hn1:=hS.1
 have hn2:=hS.2.1
 refine SW.intro rfl Tryz.func70 rfl ?_
 refine O0 8 J (Z0 (kg _ _) J (z0 (fun h6=> ?_) (fun h6=> ?_)))
 ·refine Z 5 J (fa J Y (zf rfl (fun _=>zh rfl rfl rfl (by omega) (by omega)) ?_))
  refine lf J Y (YX S a b (by omega)) (zN (fun h14=> ?_) (fun h14=> ?_))
  ·refine Z 8 J (zE J J J ?_)
   exfalso
   unfold zV.alive at hp
   rw [decide_eq_true h6,Bool.true_and]at hp
   have h14:S.al p.toNat=true:=h14
   rw [h14]at hp;cases hp
  refine Z 9 J (fa J Y (zf rfl (fun _=>zh rfl rfl rfl (by omega) (by omega)) ?_))
  refine sF J Y J J (Z 6 J (zE J J J ?_))
  have e1:S.wake p=S.setAl p.toNat true:=if_pos h6
  rw [e1]
  refine⟨_,⟨yC ?_,rfl⟩,Sub.mk3 (qZ (S:=S.setAl p.toNat true) (hS.setAl _ _) (xm S a b (p:=p.toNat) (by omega) true _ (by omega)) (fun _ _=>rfl) fun _ _=>rfl) Y⟩
  simp;omega
 refine Z 16 J (zE J J J ?_)
 have e1:S.wake p=S:=if_neg h6
 rw [e1]
 refine⟨_,⟨yC ?_,rfl⟩,Sub.mk3 (qZ hS (fun _ _=>rfl) (fun _ _=>rfl) fun _ _=>rfl) Y⟩
 simp;omega
theorem dC (R:List SP) (s a b:Nat) (S:zV) (hn2:S.n≤2) (p:Int):zy 111 [vp s 0,vi p] (ent zI s (6,GO S a b)::ent zI a (S.n,fun j=>vi (S.on j))::R) fun v L=>v=vi (S.wher p)∧L=ent zI s (6,GO S a b)::ent zI a (S.n,fun j=>vi (S.on j))::R:=by
 refine SW.intro rfl Tryz.func111 rfl ?_
 refine O0 9 J (fa J Y (lf J Y J (zf rfl (fun _=>wD rfl rfl rfl rfl rfl) ?_)))
 refine Z 3 J (zl (fun j T L=> ∃(c:Nat),(c≤S.n)∧(S.find p c (S.n-c)=S.wher p)∧j=S.n-c∧T.len=2∧Tm.get 1 T=some (vi p)∧Tm.get 10 T=some (.slice (some (a,0)) S.n none 1)∧Tm.get 11 T=some (vi (S.n:Nat))∧Tm.get 12 T=some (vi (c:Nat))∧Sub L (ent zI s (6,GO S a b)::ent zI a (S.n,fun j=>vi (S.on j))::R)) (S.n) ⟨0,by omega,rfl,by omega,rfl,rfl,rfl,rfl,rfl,Y⟩ ?_)
 rintro j T L0 ⟨c,hc,hf,rfl,hl,g1,g10,g11,g12,hsb⟩
 obtain⟨tg,rfl⟩:=W7 hl g1 g10 g11 g12
 clear hl g1 g10 g11 g12
 refine zu hsb ?_
 clear hsb L0
 refine O0 3 J (z0 (fun h13=> ?_) (fun h13=> ?_))
 ·refine Z 9 J (zf rfl (fun _=>ug rfl rfl rfl (by omega) (by omega)) ?_)
  refine lf J Y J (Z 8 J (z0 (fun h19=> ?_) (fun h19=> ?_)))
  ·refine Z 2 J (Z0 (kg _ _) J (z0 (fun h22=> ?_) (fun h22=> ?_)))
   ·refine Z 9 J (Or.inr ⟨nofun,?_⟩)
    refine zE J J J ?_
    have hs:S.n-c=(S.n-(c+1))+1:=by omega
    rw [hs]at hf
    have hf:(if S.on c=p∧0≤p∧p<4 then(c:Int)else S.find p (c+1) (S.n-(c+1)))=S.wher p:=hf
    have h19:S.on c=p:=h19
    rw [if_pos (by omega)]at hf
    rw [←hf]
    exact fq
   refine Z 5 J (ad J (Z 2 J ?_))
   have hs:S.n-c=(S.n-(c+1))+1:=by omega
   rw [hs]at hf
   have hf:(if S.on c=p∧0≤p∧p<4 then(c:Int)else S.find p (c+1) (S.n-(c+1)))=S.wher p:=hf
   have h19:S.on c=p:=h19
   rw [if_neg (by omega)]at hf
   exact Or.inl ⟨rfl,_,by omega,c+1,by omega,hf,rfl,rfl,rfl,rfl,rfl,rfl,Y⟩
  refine Z 8 J (ad J (Z 2 J ?_))
  have hs:S.n-c=(S.n-(c+1))+1:=by omega
  rw [hs]at hf
  have hf:(if S.on c=p∧0≤p∧p<4 then(c:Int)else S.find p (c+1) (S.n-(c+1)))=S.wher p:=hf
  have h19: ¬S.on c=p:=h19
  rw [if_neg (by omega)]at hf
  exact Or.inl ⟨rfl,_,by omega,c+1,by omega,hf,rfl,rfl,rfl,rfl,rfl,rfl,Y⟩
 refine Z 4 J (Or.inr ⟨nofun,?_⟩)
 refine OX 5 J (zE J J J ?_)
 have hs:S.n-c=0:=by omega
 rw [hs]at hf
 have hf:(-1:Int)=S.wher p:=hf
 rw [←hf]
 exact fq
theorem Ab (R:List SP) (s:Nat) (S:zV) (p:Int):zy 132 [vp s 0,vi p] (ent wO s S::R) fun v L=>v= .bool (S.alive p)∧L=ent wO s (S.fin p)::R:=by
 refine zS (Yg s S) fun p hS=> ?_
 obtain⟨a,b⟩:=p
 dsimp only [tl,List.cons_append,List.nil_append]
 have hn1:=hS.1
 have hn2:=hS.2.1
 refine SW.intro rfl Tryz.func132 rfl ?_
 refine O0 8 J (Z0 (kg _ _) J (z0 (fun h7=> ?_) (fun h7=> ?_)))
 ·refine Z 5 J (fa J Y (zf rfl (fun _=>zh rfl rfl rfl (by omega) (by omega)) ?_))
  refine lf J Y (YX S a b (by omega)) (zN (fun h15=> ?_) (fun h15=> ?_))
  ·refine Z 10 J (fa J Y (zf rfl (fun _=>zh rfl rfl rfl (by omega) (by omega)) ?_))
   refine sF J Y J J (zR (Sub.one (wK (i:=s) (xm S a b (p:=p.toNat) (by omega) false _ (by omega)))) ?_)
   have hw:=(S.setAl p.toNat false).wher_bd p
   have hn9:(S.setAl p.toNat false).n=S.n:=rfl
   refine Z 6 J (Z2 (dC _ _ _ b (S.setAl p.toNat false) hn2 _) J Y Y (Z 6 J (z0 (fun h27=> ?_) (fun h27=> ?_))))
   ·refine Z 5 J (fa J Y (lf J Y J (Z 1 J (zf rfl (fun _=>ug rfl rfl rfl (by omega) (by omega)) ?_))))
    refine sF J Y J J (Z 6 J (zE J J J ?_))
    have e0:S.alive p=true:=by { unfold zV.alive;rw [decide_eq_true h7];exact h15 }
    have e1:S.fin p=(S.setAl p.toNat false).setOn ((S.setAl p.toNat false).wher p).toNat (-1):=by { unfold zV.fin;rw [if_pos e0];exact if_pos h27 }
    rw [e0,e1]
    exact⟨_,⟨rfl,rfl⟩,Sub.mk3 (qZ (S:=(S.setAl p.toNat false).setOn ((S.setAl p.toNat false).wher p).toNat (-1)) ((hS.setAl _ _).setOn _ (by omega)) (fun _ _=>rfl) (dn (S.setAl p.toNat false) (-1) (by omega)) fun _ _=>rfl) Y⟩
   refine Z 8 J (zE J J J ?_)
   have e0:S.alive p=true:=by { unfold zV.alive;rw [decide_eq_true h7];exact h15 }
   have e1:S.fin p=(S.setAl p.toNat false):=by { unfold zV.fin;rw [if_pos e0];exact if_neg h27 }
   rw [e0,e1]
   exact⟨_,⟨rfl,rfl⟩,Sub.mk3 (qZ (S:=(S.setAl p.toNat false)) (hS.setAl _ _) (fun _ _=>rfl) (fun _ _=>rfl) fun _ _=>rfl) Y⟩
  refine Z 9 J (zE J J J ?_)
  have e0:S.alive p=false:=by { unfold zV.alive;rw [decide_eq_true h7];exact h15 }
  have e1:S.fin p=S:=if_neg (by rw [e0];nofun)
  rw [e0,e1]
  exact⟨_,⟨rfl,rfl⟩,Sub.mk3 (qZ hS (fun _ _=>rfl) (fun _ _=>rfl) fun _ _=>rfl) Y⟩
 refine Z 17 J (zE J J J ?_)
 have e0:S.alive p=false:=by { unfold zV.alive;rw [decide_eq_false h7];rfl }
 have e1:S.fin p=S:=if_neg (by rw [e0];nofun)
 rw [e0,e1]
 exact⟨_,⟨rfl,rfl⟩,Sub.mk3 (qZ hS (fun _ _=>rfl) (fun _ _=>rfl) fun _ _=>rfl) Y⟩
theorem Qv (R:List SP) (s:Nat) (S:zV) (c:Int):zy 72 [vp s 0,vi c] (ent wO s S::R) fun v L=>v=vi (S.pick c).1∧L=ent wO s (S.pick c).2::R:=by
 refine zS (Yg s S) fun p hS=> ?_
 obtain⟨a,b⟩:=p
 dsimp only [tl,List.cons_append,List.nil_append]
 have hn1:=hS.1
 have hn2:=hS.2.1
 refine SW.intro rfl Tryz.func72 rfl ?_
 refine O0 9 J (z0 (fun h8=> ?_) (fun h8=> ?_))
 ·refine Z 16 J (zE J J J ?_)
  have e1:S.pick c=(-1,S):=if_neg (by omega)
  rw [e1]
  exact⟨_,⟨rfl,rfl⟩,Sub.mk3 (qZ hS (fun _ _=>rfl) (fun _ _=>rfl) fun _ _=>rfl) Y⟩
 refine Z 4 J (fa J Y (lf J Y J (zf rfl (fun _=>wD rfl rfl rfl rfl rfl) ?_)))
 refine Z 1 J (z0 (fun h16=> ?_) (fun h16=> ?_))
 ·refine Z 8 J (zE J J J ?_)
  have e1:S.pick c=(-1,S):=if_neg (by omega)
  rw [e1]
  exact⟨_,⟨rfl,rfl⟩,Sub.mk3 (qZ hS (fun _ _=>rfl) (fun _ _=>rfl) fun _ _=>rfl) Y⟩
 refine Z 8 J (fa J Y (lf J Y J (Z 1 J (zf rfl (fun _=>ug rfl rfl rfl (by omega) (by omega)) ?_))))
 refine sF J Y J J (zR (Sub.one (wK (i:=a) (dn S (c:=c.toNat) (-1) (by omega)))) ?_)
 refine Z 7 J (zl (fun j T L=> ∃(i:Nat),(i≤4)∧((S.setOn c.toNat (-1)).nextUp (S.last c.toNat) i (4-i)=(S.setOn c.toNat (-1)).nextUp (S.last c.toNat) 0 4)∧j=4-i∧T.len=5∧Tm.get 0 T=some (vp s 0)∧Tm.get 1 T=some (vi c)∧Tm.get 24 T=some (vi (i:Nat))∧Sub L (ent zI s (6,GO S a b)::ent zI a (S.n,fun j=>vi ((S.setOn c.toNat (-1)).on j))::ent zI b (S.n,fun j=>vi (S.last j))::R)) (4) ⟨0,by omega,rfl,by omega,rfl,rfl,rfl,rfl,Y⟩ ?_)
 rintro j T L0 ⟨i,hi,hnx,rfl,hl,g0,g1,g24,hsb⟩
 obtain⟨tg,rfl⟩:=sA hl g0 g1 g24
 clear hl g0 g1 g24
 refine zu hsb ?_
 clear hsb L0
 refine O0 3 J (z0 (fun h25=> ?_) (fun h25=> ?_))
 ·refine Z 15 J (fa J Y (lf J Y J (Z 1 J (zf rfl (fun _=>ug rfl rfl rfl (by omega) (by omega)) ?_))))
  refine lf J Y J (zf rfl (fun _=>zC rfl rfl rfl (vj (by have:=hS.2.2.2 (c.toNat+0);omega))) ?_)
  refine Z 1 J (zf rfl (fun _=>zC rfl rfl rfl (vj (by have:=hS.2.2.2 (c.toNat+0);omega))) ?_)
  refine zf rfl (fun _=>zC rfl rfl rfl (bF (by have:=hS.2.2.2 (c.toNat+0);omega) (by omega))) ?_
  have hl0:=hS.2.2.2 c.toNat
  have hq0:0≤(S.last c.toNat+1+(i:Int))%4∧(S.last c.toNat+1+(i:Int))%4<4:=by omega
  refine yn (w:=vi ((S.last c.toNat+1+i)%4)) rfl ?_
  have hn9:(S.setOn c.toNat (-1)).n=S.n:=rfl
  generalize hqq:(S.last c.toNat+1+(i:Int))%4=q at hq0 ⊢
  refine Z 7 J (fa J Y (zf rfl (fun _=>zh rfl rfl rfl (by omega) (by omega)) ?_))
  refine lf J Y (YX S a b (by omega)) (zN (fun h43=> ?_) (fun h43=> ?_))
  ·refine Z 3 J (Z2 (dC _ _ _ b (S.setOn c.toNat (-1)) hn2 _) J Y Y (Z 1 J (z0 (fun h48=> ?_) (fun h48=> ?_))))
   ·refine Z 4 J (zO [0,1,3,7,0,0,32,96,224,0,0,0,1535,5631,16383,32767] [([0,1,2,3,4,5,6,7,8,9,10,11,12],[3,8],some 13),([14],[],some 15),([],[],none)] (by kernel_rfl) ?_)
    refine z4 (ZK 2 J (zj J Y (jS J Y J (ZK 3 J (zj J Y (jS J Y J (ZK 3 J (vN rfl (fun _=>ug rfl rfl rfl (by omega) (by omega)) ?_))))))))
    refine z5 ⟨(uY J Y J J (z3 _ rfl) (uY J Y J J (z3 _ rfl) z6)),?_⟩
    refine sF J Y J J (zF (z4 (vN rfl (fun _=>ug rfl rfl rfl (by omega) (by omega)) ?_)))
    refine z5 ⟨z6,?_⟩
    refine sF J Y J J (zF (z4 (z5 ⟨z6,?_⟩)))
    refine OX 6 J (Or.inr ⟨nofun,?_⟩)
    refine zE J J J ?_
    have hs:4-i=(4-(i+1))+1:=by omega
    rw [hs]at hnx
    have hnx:(if(S.setOn c.toNat (-1)).al ((S.last c.toNat+1+i)%4).toNat=true∧(S.setOn c.toNat (-1)).wher ((S.last c.toNat+1+i)%4)<0 then some ((S.last c.toNat+1+i)%4)else(S.setOn c.toNat (-1)).nextUp (S.last c.toNat) (i+1) (4-(i+1)))=(S.setOn c.toNat (-1)).nextUp (S.last c.toNat) 0 4:=hnx
    rw [hqq]at hnx
    have h43:S.al q.toNat=true:=h43
    rw [if_pos ⟨h43,h48⟩]at hnx
    have e1:S.pick c=(q,((S.setOn c.toNat (-1)).setOn c.toNat q).setLast c.toNat q):=by { unfold zV.pick;rw [if_pos (by omega)];dsimp only;rw [←hnx] }
    rw [e1]
    exact⟨_,⟨rfl,rfl⟩,Sub.mk3 (qZ (S:=((S.setOn c.toNat (-1)).setOn c.toNat q).setLast c.toNat q) (((hS.setOn _ (by omega)).setOn _ (by omega)).setLast _ hq0) (fun _ _=>rfl) (dn (S.setOn c.toNat (-1)) q (by omega)) (lB S q (by omega))) Y⟩
   refine Z 5 J (ad J (Z 2 J ?_))
   have hs:4-i=(4-(i+1))+1:=by omega
   rw [hs]at hnx
   have hnx:(if(S.setOn c.toNat (-1)).al ((S.last c.toNat+1+i)%4).toNat=true∧(S.setOn c.toNat (-1)).wher ((S.last c.toNat+1+i)%4)<0 then some ((S.last c.toNat+1+i)%4)else(S.setOn c.toNat (-1)).nextUp (S.last c.toNat) (i+1) (4-(i+1)))=(S.setOn c.toNat (-1)).nextUp (S.last c.toNat) 0 4:=hnx
   rw [hqq]at hnx
   have h43:S.al q.toNat=true:=h43
   rw [if_neg (by rintro ⟨_,h⟩;exact h48 h)]at hnx
   exact Or.inl ⟨rfl,_,by omega,i+1,by omega,hnx,rfl,rfl,rfl,rfl,rfl,(by first|exact Y|exact Sub.refl _)⟩
  refine Z 10 J (ad J (Z 2 J ?_))
  have hs:4-i=(4-(i+1))+1:=by omega
  rw [hs]at hnx
  have hnx:(if(S.setOn c.toNat (-1)).al ((S.last c.toNat+1+i)%4).toNat=true∧(S.setOn c.toNat (-1)).wher ((S.last c.toNat+1+i)%4)<0 then some ((S.last c.toNat+1+i)%4)else(S.setOn c.toNat (-1)).nextUp (S.last c.toNat) (i+1) (4-(i+1)))=(S.setOn c.toNat (-1)).nextUp (S.last c.toNat) 0 4:=hnx
  rw [hqq]at hnx
  have h43:S.al q.toNat=false:=h43
  rw [if_neg (by rintro ⟨h,_⟩;have h:S.al q.toNat=true:=h;rw [h43]at h;cases h)]at hnx
  exact Or.inl ⟨rfl,_,by omega,i+1,by omega,hnx,rfl,rfl,rfl,rfl,rfl,(by first|exact Y|exact Sub.refl _)⟩
 refine Z 4 J (Or.inr ⟨nofun,?_⟩)
 refine OX 5 J (zE J J J ?_)
 have hs:4-i=0:=by omega
 rw [hs]at hnx
 have hnx:none=(S.setOn c.toNat (-1)).nextUp (S.last c.toNat) 0 4:=hnx
 have e1:S.pick c=(-1,(S.setOn c.toNat (-1))):=by { unfold zV.pick;rw [if_pos (by omega)];dsimp only;rw [←hnx] }
 rw [e1]
 exact⟨_,⟨rfl,rfl⟩,Sub.mk3 (qZ (S:=(S.setOn c.toNat (-1))) (hS.setOn _ (by omega)) (fun _ _=>rfl) (fun _ _=>rfl) fun _ _=>rfl) Y⟩
def zV.new (n:Nat):zV:=⟨fun _=>false,n,fun _=> -1,fun _=>3⟩
theorem an {n j:Nat} {z:Int} (h:j<n):ul ((List.replicate n z).flatMap yK) j=vi z:=by
 have h1:(List.replicate n z)[j]? =some z:=by rw [List.getElem?_replicate,if_pos h]
 have:=j0 (en:=yK) (es:=1) Zk _ j 0 z h1 (by omega)
 unfold ul
 rw [show j=j*1+0 by omega,this];rfl
theorem oI {s a b n:Nat} (h1:1≤n) (h2:n≤2): ∀h,yd [ent z8 s [.bool false,.bool false,.bool false,.bool false,.slice (some (a,0)) n none 1,.slice (some (b,0)) n none 1],ent (zP yK 1) (.slice (some (a,0)) n none 1) (List.replicate n (-1)),ent (zP yK 1) (.slice (some (b,0)) n none 1) (List.replicate n 3)] h→wO s (zV.new n) h:=by
 intro h x
 have e: ∀ {i:Nat} {z:Int} (f:yc),zP yK 1 (.slice (some (i,0)) n none 1) (List.replicate n z) f→zI i (n,fun _=>vi z) f:=by
  intro i z f hf
  have hl:(List.replicate n z).length=n:=by simp
  have:=xp (en:=yK) (es:=1) (xs:=List.replicate n z) (i:=i) f (by rw [hl];exact hf)
  rw [hl,Nat.mul_one]at this
  exact wK (fun j hj=>an hj) f this
 refine⟨(a,b),⟨h1,h2,fun _=>by show-1≤(-1:Int)∧(-1:Int)<4;omega,fun _=>by show 0≤(3:Int)∧(3:Int)<4;omega⟩,?_⟩
 refine nG (CU (dd x e) e) fun f hf=> ?_
 exact wG (f:=GO (zV.new n) a b) (fun j hj=>by
  rcases(by have:j<6:=hj;omega:j=0∨j=1∨j=2∨j=3∨j=4∨j=5)with rfl|rfl|rfl|rfl|rfl|rfl<;>rfl) f hf
theorem BA (R:List SP) (z:Int):zy 66 [vi z] (R) fun v L=> ∃s,v=vp s 0∧L=ent wO s (zV.new (min (max 1 z) 2).toNat)::R:=by
 refine SW.intro rfl Tryz.func66 rfl ?_
 refine O0 6 J (bu [_,_,_,_,_,_] J Y Y J (yW rfl rfl rfl rfl fun i5=> ?_))
 refine Z 6 J (zf rfl (fun _=>Js rfl rfl rfl rfl rfl) ?_)
 refine zf rfl (fun _=>Jv rfl rfl rfl rfl rfl) ?_
 refine Z 3 J (zu (Sub.nilE (en:=yK) (es:=1) Zk (by decide) 0 _) ?_)
 refine zu (Sub.nilE (en:=yK) (es:=1) Zk (by decide) 0 _) ?_
 refine zl (fun j T L=> ∃(k:Nat) (v w:AVal),(mb v k 1)∧(mb w k 1)∧(k≤(min (max 1 z) 2).toNat)∧j=(min (max 1 z) 2).toNat-k∧T.len=2∧Tm.get 3 T=some (vp i5 0)∧Tm.get 8 T=some (vi (min (max 1 z) 2))∧Tm.get 9 T=some (vi (k:Nat))∧Sub L (ent (zP yK 1) v (List.replicate k (-1))::ent (zP yK 1) w (List.replicate k 3)::ent z8 i5 [.bool false,.bool false,.bool false,.bool false,v,w]::R)) ((min (max 1 z) 2).toNat) ⟨0,.slice none 0 (some 0) 0,.slice none 0 (some 0) 0,mb.nil 1,mb.nil 1,by omega,by omega,rfl,rfl,rfl,rfl,Sub.refl _⟩ ?_
 rintro j T L0 ⟨k,v,w,hv,hw,hk,rfl,hl,g3,g8,g9,hsb⟩
 obtain⟨tg,rfl⟩:=sA hl g3 g8 g9
 clear hl g3 g8 g9
 refine zu hsb ?_
 clear hsb L0
 refine O0 3 J (z0 (fun h10=> ?_) (fun h10=> ?_))
 ·refine Z 11 J (fa J Y (ld J Y J (zT (cs:= [_]) rfl rfl rfl (by decide) rfl fun i16=> ?_)))
  refine kU rfl rfl rfl rfl rfl rfl rfl ([-1]) rfl rfl (by simp) (hv.nc) (by simp;omega) rfl fun i17=> ?_
  refine Z 1 J (fa J Y (sO J Y J J J (Z 5 J (fa J Y (ld J Y J (zT (cs:= [_]) rfl rfl rfl (by decide) rfl fun i25=> ?_))))))
  refine kU rfl rfl rfl rfl rfl rfl rfl ([3]) rfl rfl (by simp) (hw.nc) (by simp;omega) rfl fun i26=> ?_
  refine Z 1 J (fa J Y (sO J Y J J J (Z 2 J (ad J (Z 2 J ?_)))))
  exact Or.inl ⟨rfl,_,by omega,k+1,.slice (some (i17,0)) ((List.replicate k (-1:Int)).length+1) none 1,.slice (some (i26,0)) ((List.replicate k (3:Int)).length+1) none 1,.inr ⟨i17,by simp⟩,.inr ⟨i26,by simp⟩,by omega,rfl,rfl,rfl,rfl,rfl,(by rw [List.replicate_succ',List.replicate_succ'];exact Y)⟩
 refine Z 4 J (Or.inr ⟨nofun,?_⟩)
 refine OX 6 J (zE J J J ?_)
 have e:(min (max 1 z) 2).toNat=k:=by omega
 rcases hv with⟨_,h0⟩|⟨i,rfl⟩
 ·omega
 rcases hw with⟨_,h0⟩|⟨j,rfl⟩
 ·omega
 refine⟨_,⟨i5,rfl,rfl⟩,?_⟩
 rw [e]
 exact Sub.mk3 (oI (by omega) (by omega)) Y
structure zW where
 prs:Nat→Int
 n:Nat
 must:Nat→Nat→Bool
 gen:Int
def zW.Ok (S:zW):Prop:=1≤S.n∧S.n≤2∧(∀p,0≤S.prs p∧S.prs p≤3)∧0≤S.gen∧S.gen≤4611686018427387904
def GI (S:zW) (b:Nat):Nat→AVal
 |4=> .slice (some (b,0)) S.n (some S.n) 4
 |5=>vi S.gen
 |j=>vi (S.prs j)
def fP (S:zW) (j:Nat):AVal:= .bool (S.must (j/4) (j%4))
theorem Q9 (S:zW) (b:Nat) {j:Nat} (h:j<4):GI S b j=vi (S.prs j):=by
 rcases(by omega:j=0∨j=1∨j=2∨j=3)with rfl|rfl|rfl|rfl<;>rfl
theorem iw (S:zW) {c p k:Nat} (hp:p<4) (hk:k=c*4+p):fP S k= .bool (S.must c p):=by
 subst hk;unfold fP
 rw [show(c*4+p)/4=c by omega,show(c*4+p)%4=p by omega]
abbrev Jp (a:Nat) (S:zW) (b:Nat):List SP:= [ent zI a (6,GI S b),ent zI b (S.n*4,fP S)]
def qm (a:Nat) (S:zW):SP:=fun h=> ∃b,S.Ok∧yd (Jp a S b) h
theorem ub (a:Nat) (S:zW): ∀h,qm a S h→ ∃b,S.Ok∧yd (Jp a S b) h:=fun _ h=>h
theorem mI (a:Nat) (S:zW): ∀h,qm a S h→S.Ok:=fun _ ⟨_,h,_⟩=>h
theorem q9 {a b:Nat} {S:zW} (hS:S.Ok) {f g:Nat→AVal} (hf: ∀j,j<6→f j=GI S b j) (hg: ∀j,j<S.n*4→g j=fP S j): ∀h,yd [ent zI a (6,f),ent zI b (S.n*4,g)] h→qm a S h:=
 fun _ x=>⟨b,hS,nG (dd x (wK hg)) (wK hf)⟩
abbrev zW.setOf (S:zW) (p:Nat) (v:Int):zW:= { S with prs:=fun q=>if q=p then v else S.prs q }
abbrev zW.setMust (S:zW) (c p:Nat) (b:Bool):zW:= { S with must:=fun d q=>if d=c∧q=p then b else S.must d q }
def zW.pair (S:zW) (p:Int):Int:=if 0≤p∧p<4 then S.prs p.toNat else 0
def zW.had (S:zW) (v:Int):Bool:=decide (S.prs 0=v)||decide (S.prs 1=v)||decide (S.prs 2=v)||decide (S.prs 3=v)
def zW.mustAll (S:zW) (v:Int):zW:=if 1≤v∧v≤3 then { S with must:=fun d q=>if d<S.n∧q=v.toNat then true else S.must d q } else S
def zW.drop (S:zW) (p:Int):zW:=if 0≤p∧p<4 then(S.mustAll (S.prs p.toNat)).setOf p.toNat 0 else S
def zW.fresh (S:zW):zW:= { S with prs:=fun _=>0,must:=fun _ _=>false,gen:=S.gen+1 }
def zW.least (S:zW):Option Int:=if S.had 1=false then some 1 else if S.had 2=false then some 2 else if S.had 3=false then some 3 else none
def zW.ask (S:zW) (p:Int):Int×Bool×zW:=if 0≤p∧p<4 then(if 0<S.prs p.toNat then(S.prs p.toNat,false,S)else match S.least with
 |some v=>(v,false,S.setOf p.toNat v)
 |none=>(1,true,S.fresh.setOf p.toNat 1))else(0,false,S)
def zW.take (S:zW) (c v:Int):Bool×zW:=if(0≤c∧c<S.n)∧1≤v∧v≤3 then(S.must c.toNat v.toNat,S.setMust c.toNat v.toNat false)else(false,S)
theorem zW.Ok.setOf {S:zW} (h:S.Ok) (p:Nat) {v:Int} (hv:0≤v∧v≤3):(S.setOf p v).Ok:=⟨h.1,h.2.1,fun q=>by
 show 0≤(if q=p then v else S.prs q)∧(if q=p then v else S.prs q)≤3
 split
 ·exact hv
 exact h.2.2.1 q,h.2.2.2⟩
theorem zW.Ok.setMust {S:zW} (h:S.Ok) (c p:Nat) (b:Bool):(S.setMust c p b).Ok:=h
theorem zW.Ok.mustAll {S:zW} (h:S.Ok) (v:Int):(S.mustAll v).Ok:=by unfold zW.mustAll;split<;>exact h
theorem px (S:zW) (b:Nat) {p:Nat} (hp:p<4) (v:Int) {k:Nat} (hk:k=p): ∀j,j<6→vK (GI S b) k (vi v) j=GI (S.setOf p v) b j:=by
 subst hk
 intro j hj
 unfold vK
 by_cases e:j=k
 ·rw [if_pos e,e,Q9 _ _ hp];show vi v=vi (if k=k then v else _);rw [if_pos rfl]
 rw [if_neg e]
 rcases(by omega:j<4∨j=4∨j=5)with h|rfl|rfl
 ·rw [Q9 _ _ h,Q9 _ _ h];show _=vi (if j=k then v else _);rw [if_neg e]
 ·rfl
 rfl
theorem r5 (S:zW) {c p k:Nat} (hp:p<4) (b:Bool) (hk:k=c*4+p): ∀j,j<S.n*4→vK (fP S) k (.bool b) j=fP (S.setMust c p b) j:=by
 subst hk
 intro j hj
 unfold vK fP
 show(if j=c*4+p then AVal.bool b else .bool (S.must (j/4) (j%4)))= .bool (if j/4=c∧j%4=p then b else S.must (j/4) (j%4))
 by_cases e:j=c*4+p
 ·rw [if_pos e,if_pos (by omega)]
 rw [if_neg e,if_neg (by omega)]
theorem kO (R:List SP) (p:Int):zy 178 [vi p] (R) fun v L=>v= .bool (decide (0≤p∧p<4))∧L=R:=by
 refine SW.intro rfl Tryz.func178 rfl ?_
 refine O0 8 J (z0 (fun h4=> ?_) (fun h4=> ?_))
 ·refine Z 7 J (zE J J J (⟨_,⟨yC ?_,rfl⟩,Y⟩))
  simp;omega
 refine Z 7 J (zE J J J (⟨_,⟨yC ?_,rfl⟩,Y⟩))
 simp;omega
theorem U7 (R:List SP) (p:Int):zy 203 [vi p] (R) fun v L=>v= .bool (decide (1≤p∧p≤3))∧L=R:=by
 refine SW.intro rfl Tryz.func203 rfl ?_
 refine O0 8 J (z0 (fun h4=> ?_) (fun h4=> ?_))
 ·refine Z 7 J (zE J J J (⟨_,⟨yC ?_,rfl⟩,Y⟩))
  simp;omega
 refine Z 7 J (zE J J J (⟨_,⟨yC ?_,rfl⟩,Y⟩))
 simp;omega
theorem tE (R:List SP) (a:Nat) (S:zW) (p:Int):zy 195 [vp a 0,vi p] (ent qm a S::R) fun w L=>w=vi (S.pair p)∧L=ent qm a S::R:=by
 refine zS (ub a S) fun b hS=> ?_
 dsimp only [Jp,List.cons_append,List.nil_append]
 have hn1:=hS.1
 have hn2:=hS.2.1
 refine SW.intro rfl Tryz.func195 rfl ?_
 refine O0 8 J (Z0 (kO _ _) J (z0 (fun h6=> ?_) (fun h6=> ?_)))
 ·refine Z 9 J (fa J Y (zf rfl (fun _=>zh rfl rfl rfl (by omega) (by omega)) ?_))
  refine lf J Y (Q9 S b (by omega)) (Z 3 J (zE J J J ?_))
  have e:S.pair p=S.prs (p.toNat+(0+0)):=if_pos (by omega)
  rw [e]
  exact⟨_,⟨rfl,rfl⟩,Sub.mk2 (q9 hS (fun _ _=>rfl) fun _ _=>rfl) Y⟩
 refine Z 8 J (zE J J J ?_)
 have e:S.pair p=0:=if_neg (by omega)
 rw [e]
 exact⟨_,⟨rfl,rfl⟩,Sub.mk2 (q9 hS (fun _ _=>rfl) fun _ _=>rfl) Y⟩
theorem A4 (R:List SP) (a:Nat) (S:zW):zy 38 [vp a 0] (ent qm a S::R) fun w L=>w=vi S.gen∧L=ent qm a S::R:=by
 refine zS (ub a S) fun b hS=> ?_
 dsimp only [Jp,List.cons_append,List.nil_append]
 have hn1:=hS.1
 have hn2:=hS.2.1
 refine SW.intro rfl Tryz.func38 rfl ?_
 exact O0 8 J (fa J Y (lf J Y J (Z 3 J (zE J J J ⟨_,⟨rfl,rfl⟩,Sub.mk2 (q9 hS (fun _ _=>rfl) fun _ _=>rfl) Y⟩))))
def zW.must1 (S:zW) (c v:Int):zW:=if(0≤c∧c<S.n)∧1≤v∧v≤3 then S.setMust c.toNat v.toNat true else S
theorem aG (R:List SP) (a b:Nat) (S:zW) (hn2:S.n≤2) (c v:Int):zy 215 [vp a 0,vi c,vi v] (ent zI a (6,GI S b)::ent zI b (S.n*4,fP S)::R) fun w L=>w= .tuple []∧L=ent zI a (6,GI S b)::ent zI b (S.n*4,fP (S.must1 c v))::R:=by
 refine SW.intro rfl Tryz.func215 rfl ?_
 refine O0 4 J (z0 (fun h7=> ?_) (fun h7=> ?_))
 ·refine Z 4 J (fa J Y (lf J Y J (zf rfl (fun _=>wD rfl rfl rfl rfl rfl) ?_)))
  refine Z 1 J (z0 (fun h15=> ?_) (fun h15=> ?_))
  ·refine Z 3 J (Z0 (U7 _ _) J (z0 (fun h19=> ?_) (fun h19=> ?_)))
   ·refine Z 6 J (fa J Y (lf J Y J (Z 2 J (zf rfl (fun _=>vQ rfl rfl rfl (by omega) (by omega)) ?_))))
    refine zf rfl (fun _=>zh rfl rfl rfl (by omega) (by omega)) ?_
    refine sF J Y J J (Z 1 J (qz J J ?_))
    have e:S.must1 c v=S.setMust c.toNat v.toNat true:=if_pos (by omega)
    rw [e]
    exact⟨_,⟨rfl,rfl⟩,(Sub.one (wK (i:=b) (r5 S (c:=c.toNat) (p:=v.toNat) (by omega) true (by omega)))).trans Y⟩
   refine Z 4 J (qz J J ?_)
   have e:S.must1 c v=S:=if_neg (by omega)
   rw [e]
   exact fq
  refine Z 8 J (qz J J ?_)
  have e:S.must1 c v=S:=if_neg (by omega)
  rw [e]
  exact fq
 refine Z 16 J (qz J J ?_)
 have e:S.must1 c v=S:=if_neg (by omega)
 rw [e]
 exact fq
def zW.mustTo (S:zW) (v:Int) (c:Nat):zW:=if 1≤v∧v≤3 then { S with must:=fun d q=>if d<c∧q=v.toNat then true else S.must d q } else S
theorem zW.mustTo_zero (S:zW) (v:Int):S.mustTo v 0=S:=by
 unfold zW.mustTo;split
 ·have:(fun(d q:Nat)=>if d<0∧q=v.toNat then true else S.must d q)=S.must:=by funext d q;rw [if_neg (by omega)]
  rw [this]
 rfl
theorem zW.mustTo_step (S:zW) (v:Int) (c:Nat) (hc:c<S.n):(S.mustTo v c).must1 c v=S.mustTo v (c+1):=by
 unfold zW.mustTo zW.must1
 by_cases h:1≤v∧v≤3
 ·rw [if_pos h,if_pos h,if_pos ⟨⟨Int.natCast_nonneg c,Int.ofNat_lt.2 hc⟩,h⟩]
  have:(fun(d q:Nat)=>if d=(c:Int).toNat∧q=v.toNat then true else if d<c∧q=v.toNat then true else S.must d q)=fun d q=>if d<c+1∧q=v.toNat then true else S.must d q:=by
   funext d q
   by_cases h1:d<c+1∧q=v.toNat
   ·rw [if_pos h1]
    by_cases h2:d=(c:Int).toNat∧q=v.toNat
    ·rw [if_pos h2]
    rw [if_neg h2,if_pos (by omega)]
   rw [if_neg h1,if_neg (by omega),if_neg (by omega)]
  show({ S with must:=_ } :zW)=_
  rw [←this]
 rw [if_neg h,if_neg h,if_neg (fun e=>h e.2)]
theorem zW.mustTo_n (S:zW) (v:Int) (c:Nat):(S.mustTo v c).n=S.n∧(S.mustTo v c).prs=S.prs∧(S.mustTo v c).gen=S.gen:=by unfold zW.mustTo;split<;>exact⟨rfl,rfl,rfl⟩
theorem nq {S S':zW} (h1:S'.n=S.n) (h2:S'.prs=S.prs) (h3:S'.gen=S.gen) (b j:Nat):GI S' b j=GI S b j:=by
 unfold GI;split<;>simp [h1,h2,h3]
theorem zW.must1_n (S:zW) (c v:Int):(S.must1 c v).n=S.n∧(S.must1 c v).prs=S.prs∧(S.must1 c v).gen=S.gen:=by unfold zW.must1;split<;>exact⟨rfl,rfl,rfl⟩
theorem zW.mustTo_all (S:zW) (v:Int):S.mustTo v S.n=S.mustAll v:=rfl
theorem Uo (R:List SP) (a:Nat) (S:zW) (v:Int):zy 179 [vp a 0,vi v] (ent qm a S::R) fun w L=>w= .tuple []∧L=ent qm a (S.mustAll v)::R:=by
 refine zS (ub a S) fun b hS=> ?_
 dsimp only [Jp,List.cons_append,List.nil_append]
 have hn1:=hS.1
 have hn2:=hS.2.1
 refine SW.intro rfl Tryz.func179 rfl ?_
 refine O0 4 J (fa J Y (lf J Y J (zf rfl (fun _=>wD rfl rfl rfl rfl rfl) ?_)))
 refine Z 3 J (zl (fun j T L=> ∃(c:Nat),(c≤S.n)∧j=S.n-c∧T.len=2∧Tm.get 0 T=some (vp a 0)∧Tm.get 1 T=some (vi v)∧Tm.get 9 T=some (vi (S.n:Nat))∧Tm.get 10 T=some (vi (c:Nat))∧Sub L (ent zI a (6,GI (S.mustTo v c) b)::ent zI b ((S.mustTo v c).n*4,fP (S.mustTo v c))::R)) (S.n) ⟨0,by omega,by omega,rfl,rfl,rfl,rfl,rfl,(by rw [S.mustTo_zero];exact Sub.refl _)⟩ ?_)
 rintro j T L0 ⟨c,hc,rfl,hl,g0,g1,g9,g10,hsb⟩
 obtain⟨tg,rfl⟩:=W7 hl g0 g1 g9 g10
 clear hl g0 g1 g9 g10
 refine zu hsb ?_
 clear hsb L0
 refine O0 3 J (z0 (fun h11=> ?_) (fun h11=> ?_))
 ·refine Z 15 J ?_
  have hN:=S.mustTo_n v c
  refine Z2 (aG _ _ b (S.mustTo v c) (by omega) _ _) J Y Y (Z 2 J (ad J (Z 2 J ?_)))
  exact Or.inl ⟨rfl,_,by omega,c+1,by omega,rfl,rfl,rfl,rfl,rfl,rfl,(by have h1:=(S.mustTo v c).must1_n c v;rw [←S.mustTo_step v c (by omega),h1.1];exact(Sub.one (wK (i:=a) (f:=GI (S.mustTo v c) b) (g:=GI ((S.mustTo v c).must1 c v) b) fun j _=>(nq h1.1 h1.2.1 h1.2.2 b j).symm)).trans Y)⟩
 refine Z 4 J (Or.inr ⟨nofun,?_⟩)
 refine qz J J ?_
 have e:c=S.n:=by omega
 subst e
 rw [S.mustTo_all]
 exact⟨_,⟨rfl,rfl⟩,Sub.mk2 (q9 (hS.mustAll v) (fun _ _=>rfl) fun _ _=>rfl) Y⟩
theorem aV (R:List SP) (a:Nat) (S:zW) (p:Int):zy 131 [vp a 0,vi p] (ent qm a S::R) fun w L=>w= .tuple []∧L=ent qm a (S.drop p)::R:=by
 refine zS (ub a S) fun b hS=> ?_
 dsimp only [Jp,List.cons_append,List.nil_append]
 have hn1:=hS.1
 have hn2:=hS.2.1
 refine SW.intro rfl Tryz.func131 rfl ?_
 refine O0 4 J (Z0 (kO _ _) J (z0 (fun h5=> ?_) (fun h5=> ?_)))
 ·refine Z 10 J (fa J Y (zf rfl (fun _=>zh rfl rfl rfl (by omega) (by omega)) ?_))
  refine lf J Y (Q9 S b (by omega)) (zR (M:=ent qm a S::R) (Sub.mk2 (q9 hS (fun _ _=>rfl) fun _ _=>rfl) Y) ?_)
  refine Z1 (Uo _ _ _ _) J Y (qw (ub a (S.mustAll (S.prs (p.toNat+(0+0))))) fun b hS2=> ?_)
  dsimp only [Jp,List.cons_append,List.nil_append]
  refine Z 5 J (fa J Y (zf rfl (fun _=>zh rfl rfl rfl (by omega) (by omega)) ?_))
  refine sF J Y J J (Z 1 J (qz J J ?_))
  have e1:S.drop p=(S.mustAll (S.prs p.toNat)).setOf p.toNat 0:=if_pos h5
  rw [e1]
  exact⟨_,⟨rfl,rfl⟩,Sub.mk2 (q9 (hS2.setOf p.toNat (v:=0) (by omega)) (px _ b (p:=p.toNat) (by omega) 0 (by omega)) fun _ _=>rfl) Y⟩
 refine Z 4 J (qz J J ?_)
 have e1:S.drop p=S:=if_neg h5
 rw [e1]
 exact⟨_,⟨rfl,rfl⟩,Sub.mk2 (q9 hS (fun _ _=>rfl) fun _ _=>rfl) Y⟩
theorem D7 (S:zW) (c:Nat) (h:c<4): [vi (S.prs 0),vi (S.prs 1),vi (S.prs 2),vi (S.prs 3)][((c:Int)).toNat]? =some (vi (S.prs c)):=by
 rcases(by omega:c=0∨c=1∨c=2∨c=3)with rfl|rfl|rfl|rfl<;>rfl
def zW.tried (S:zW) (v:Int):Prop:=(1<v→S.had 1=true)∧(2<v→S.had 2=true)∧(3<v→S.had 3=true)
theorem zW.least_some {S:zW} {v:Int} (h1:1≤v∧v≤3) (ht:S.tried v) (hv:S.had v=false):S.least=some v:=by
 obtain⟨a,b,_⟩:=ht
 unfold zW.least
 rcases(by omega:v=1∨v=2∨v=3)with rfl|rfl|rfl
 ·rw [if_pos hv]
 ·rw [if_neg (by rw [a (by omega)];nofun),if_pos hv]
 rw [if_neg (by rw [a (by omega)];nofun),if_neg (by rw [b (by omega)];nofun),if_pos hv]
theorem zW.least_none {S:zW} (ht:S.tried 4):S.least=none:=by
 obtain⟨a,b,c⟩:=ht
 unfold zW.least
 rw [if_neg (by rw [a (by omega)];nofun),if_neg (by rw [b (by omega)];nofun),if_neg (by rw [c (by omega)];nofun)]
theorem zW.tried_next {S:zW} {v:Int} (ht:S.tried v) (h1:1≤v) (h:S.had v=true):S.tried (v+1):=by
 obtain⟨t1,t2,t3⟩:=ht
 refine⟨fun _=> ?_,fun _=> ?_,fun _=> ?_⟩
 ·rcases(by omega:v=1∨1<v)with rfl|e
  ·exact h
  exact t1 e
 ·rcases(by omega:v=2∨2<v)with rfl|e
  ·exact h
  exact t2 e
 rcases(by omega:v=3∨3<v)with rfl|e
 ·exact h
 exact t3 e
theorem ln {g:Nat→AVal} {c:Nat} (hg: ∀j,j<c*4→g j= .bool false): ∀j,j<(c+1)*4→vL g (c*4+0) [.bool false,.bool false,.bool false,.bool false] j= .bool false:=by
 intro j hj
 unfold vL
 by_cases h:c*4≤j
 ·rcases(by omega:j=c*4∨j=c*4+1∨j=c*4+2∨j=c*4+3)with rfl|rfl|rfl|rfl<;>simp
 rw [if_neg (by omega)];exact hg j (by omega)
theorem sL (S:zW) (b:Nat) {f:Nat→AVal} (hf: ∀j,4≤j→j<6→f j=GI S.fresh b j): ∀j,j<6→vL f 0 [vi 0,vi 0,vi 0,vi 0] j=GI S.fresh b j:=by
 intro j hj
 rcases(by omega:j=0∨j=1∨j=2∨j=3∨4≤j)with rfl|rfl|rfl|rfl|h
 ·rfl
 ·rfl
 ·rfl
 ·rfl
 unfold vL
 rw [if_pos (Nat.zero_le _),List.getElem?_eq_none (by show 4≤j-0;omega)]
 exact hf j h hj
theorem BC (R:List SP) (a b:Nat) (S:zW) (v:Int):zy 202 [vp a 0,vi v] (ent zI a (6,GI S b)::R) fun w L=>w= .bool (S.had v)∧L=ent zI a (6,GI S b)::R:=by
 refine SW.intro rfl Tryz.func202 rfl ?_
 refine O0 9 J (fa J Y (yo rfl (fun _ h=>wF (vs:= [vi (S.prs 0),vi (S.prs 1),vi (S.prs 2),vi (S.prs 3)]) rfl rfl (by omega) rfl h) ?_))
 refine Z 3 J (zl (fun j T L=> ∃(c:Nat),(c≤4)∧(∀q,q<c→S.prs q≠v)∧j=4-c∧T.len=2∧Tm.get 1 T=some (vi v)∧Tm.get 10 T=some (.agg [vi (S.prs 0),vi (S.prs 1),vi (S.prs 2),vi (S.prs 3)])∧Tm.get 11 T=some (vi (c:Nat))∧Sub L (ent zI a (6,GI S b)::R)) (4) ⟨0,by omega,fun q h=>absurd h (Nat.not_lt_zero q),by omega,rfl,rfl,rfl,rfl,Y⟩ ?_)
 rintro j T L0 ⟨c,hc,hno,rfl,hl,g1,g10,g11,hsb⟩
 obtain⟨tg,rfl⟩:=sA hl g1 g10 g11
 clear hl g1 g10 g11
 refine zu hsb ?_
 clear hsb L0
 refine O0 3 J (z0 (fun h12=> ?_) (fun h12=> ?_))
 ·refine Z 8 J (zf rfl (fun _=>Uq (v:=vi (S.prs c)) rfl rfl rfl (by omega) (by omega) (D7 S c (by omega))) ?_)
  refine Z 7 J (z0 (fun h16=> ?_) (fun h16=> ?_))
  ·refine Z 7 J (Or.inr ⟨nofun,?_⟩)
   refine zE J J J (⟨_,⟨congrArg AVal.bool ?_,rfl⟩,Y⟩)
   unfold zW.had
   rcases(by omega:c=0∨c=1∨c=2∨c=3)with rfl|rfl|rfl|rfl<;>simp [h16]
  refine Z 4 J (ad J (Z 2 J ?_))
  exact Or.inl ⟨rfl,_,by omega,c+1,by omega,fun q h=>by { rcases Nat.lt_succ_iff_lt_or_eq.1 h with h|h;exact hno q h;subst h;exact h16 },rfl,rfl,rfl,rfl,rfl,Y⟩
 refine Z 4 J (Or.inr ⟨nofun,?_⟩)
 refine OX 5 J (zE J J J (⟨_,⟨congrArg AVal.bool ?_,rfl⟩,Y⟩))
 have hc4:c=4:=by omega
 subst hc4
 unfold zW.had
 simp [hno 0 (by omega),hno 1 (by omega),hno 2 (by omega),hno 3 (by omega)]
theorem eT (R:List SP) (a:Nat) (S:zW) (c v:Int):zy 159 [vp a 0,vi c,vi v] (ent qm a S::R) fun w L=>w= .bool (S.take c v).1∧L=ent qm a (S.take c v).2::R:=by
 refine zS (ub a S) fun b hS=> ?_
 dsimp only [Jp,List.cons_append,List.nil_append]
 have hn1:=hS.1
 have hn2:=hS.2.1
 refine SW.intro rfl Tryz.func159 rfl ?_
 refine O0 9 J (z0 (fun h9=> ?_) (fun h9=> ?_))
 ·refine Z 21 J (zE J J J ?_)
  have e:S.take c v=(false,S):=if_neg (by omega)
  rw [e]
  exact⟨_,⟨rfl,rfl⟩,Sub.mk2 (q9 hS (fun _ _=>rfl) fun _ _=>rfl) Y⟩
 refine Z 4 J (fa J Y (lf J Y J (zf rfl (fun _=>wD rfl rfl rfl rfl rfl) ?_)))
 refine Z 1 J (z0 (fun h17=> ?_) (fun h17=> ?_))
 ·refine Z 13 J (zE J J J ?_)
  have e:S.take c v=(false,S):=if_neg (by omega)
  rw [e]
  exact⟨_,⟨rfl,rfl⟩,Sub.mk2 (q9 hS (fun _ _=>rfl) fun _ _=>rfl) Y⟩
 refine Z 3 J (Z0 (U7 _ _) J (z0 (fun h21=> ?_) (fun h21=> ?_)))
 ·refine Z 9 J (fa J Y (lf J Y J (Z 2 J (zf rfl (fun _=>vQ rfl rfl rfl (by omega) (by omega)) ?_))))
  refine zf rfl (fun _=>zh rfl rfl rfl (by omega) (by omega)) ?_
  refine lf J Y (iw S (c:=c.toNat) (p:=v.toNat) (by omega) (by omega)) (Z 6 J (fa J Y (lf J Y J (Z 2 J (zf rfl (fun _=>vQ rfl rfl rfl (by omega) (by omega)) ?_)))))
  refine zf rfl (fun _=>zh rfl rfl rfl (by omega) (by omega)) ?_
  refine sF J Y J J (Z 7 J (zE J J J ?_))
  have e:S.take c v=(S.must c.toNat v.toNat,S.setMust c.toNat v.toNat false):=if_pos (by omega)
  rw [e]
  exact⟨_,⟨rfl,rfl⟩,Sub.mk2 (q9 (S:=S.setMust c.toNat v.toNat false) (hS.setMust _ _ _) (fun _ _=>rfl) (r5 S (c:=c.toNat) (p:=v.toNat) (by omega) false (by omega))) Y⟩
 refine Z 9 J (zE J J J ?_)
 have e:S.take c v=(false,S):=if_neg (by omega)
 rw [e]
 exact⟨_,⟨rfl,rfl⟩,Sub.mk2 (q9 hS (fun _ _=>rfl) fun _ _=>rfl) Y⟩
theorem iv (R:List SP) (a:Nat) (S:zW) (p:Int) (hg:S.gen≤4611686018427387903):zy 158 [vp a 0,vi p] (ent qm a S::R) fun w L=>w= .tuple [vi (S.ask p).1,.bool (S.ask p).2.1]∧L=ent qm a (S.ask p).2.2::R:=by
 refine zS (ub a S) fun b hS=> ?_
 dsimp only [Jp,List.cons_append,List.nil_append]
 have hn1:=hS.1
 have hn2:=hS.2.1
 have hgl:=hS.2.2.2.1
 refine SW.intro rfl Tryz.func158 rfl ?_
 refine O0 9 J (Z0 (kO _ _) J (z0 (fun h9=> ?_) (fun h9=> ?_)))
 ·refine Z 10 J (fa J Y (zf rfl (fun _=>zh rfl rfl rfl (by omega) (by omega)) ?_))
  refine lf J Y (Q9 S b (by omega)) (Z 1 J (z0 (fun h17=> ?_) (fun h17=> ?_)))
  ·refine Z 7 J (fa J Y (zf rfl (fun _=>zh rfl rfl rfl (by omega) (by omega)) ?_))
   refine lf J Y (Q9 S b (by omega)) (Z 4 J (qO J J J J ?_))
   have e:S.ask p=(S.prs p.toNat,false,S):=by { unfold zW.ask;rw [if_pos h9];exact if_pos h17 }
   rw [e]
   exact⟨_,⟨rfl,rfl⟩,Sub.mk2 (q9 hS (fun _ _=>rfl) fun _ _=>rfl) Y⟩
  refine Z 9 J (zl (fun j T L=> ∃(v:Int),(1≤v∧v≤4)∧(S.tried v)∧j=(4-v).toNat∧T.len=5∧Tm.get 0 T=some (vp a 0)∧Tm.get 1 T=some (vi p)∧Tm.get 6 T=some (vi v)∧Sub L (ent zI a (6,GI S b)::ent zI b (S.n*4,fP S)::R)) (3) ⟨1,by omega,⟨by omega,by omega,by omega⟩,by omega,rfl,rfl,rfl,rfl,Y⟩ ?_)
  rintro j T L0 ⟨v,hv,ht,rfl,hl,g0,g1,g6,hsb⟩
  obtain⟨tg,rfl⟩:=sA hl g0 g1 g6
  clear hl g0 g1 g6
  refine zu hsb ?_
  clear hsb L0
  refine O0 5 J (z0 (fun h25=> ?_) (fun h25=> ?_))
  ·refine Z 9 J (Z1 (BC _ _ b S _) J Y (zN (fun h30=> ?_) (fun h30=> ?_)))
   ·refine Z 6 J (ad J (Z 2 J ?_))
    exact Or.inl ⟨rfl,_,by omega,v+1,by omega,zW.tried_next ht (by omega) h30,rfl,rfl,rfl,rfl,rfl,Y⟩
   refine Z 9 J (fa J Y (zf rfl (fun _=>zh rfl rfl rfl (by omega) (by omega)) ?_))
   refine sF J Y J J (Z 8 J (Or.inr ⟨nofun,?_⟩))
   refine qO J J J J ?_
   have hl:=zW.least_some (by omega) ht h30
   have e:S.ask p=(v,false,S.setOf p.toNat v):=by { unfold zW.ask;rw [if_pos h9];exact(if_neg h17).trans (by rw [hl]) }
   rw [e]
   exact⟨_,⟨rfl,rfl⟩,Sub.mk2 (q9 (hS.setOf p.toNat (v:=v) (by omega)) (px S b (p:=p.toNat) (by omega) v (by omega)) fun _ _=>rfl) Y⟩
  refine Z 3 J (Or.inr ⟨nofun,?_⟩)
  refine OX 4 J (fa J Y (lf J Y J (ad J (Z 1 J (fa J Y (sF J Y J J (Z 4 J (zf rfl (fun _=>GB (cs:= [vi 0,vi 0,vi 0,vi 0]) rfl rfl rfl) ?_))))))))
  refine Z 1 J (fa J Y (QD rfl rfl rfl rfl rfl rfl (by show 0+0+4≤6;omega) ?_))
  refine Z 6 J (fa J Y (lf J Y J (zf rfl (fun _=>wD rfl rfl rfl rfl rfl) ?_)))
  refine Z 3 J ?_
  have hv4:v=4:=by omega
  subst hv4
  refine zl (fun j T L=> ∃(c:Nat) (f g:Nat→AVal),(c≤S.n)∧(∀j,j<6→f j=GI S.fresh b j)∧(∀j,j<c*4→g j= .bool false)∧j=S.n-c∧T.len=5∧Tm.get 0 T=some (vp a 0)∧Tm.get 1 T=some (vi p)∧Tm.get 54 T=some (vi (S.n:Nat))∧Tm.get 55 T=some (vi (c:Nat))∧Sub L (ent zI a (6,f)::ent zI b (S.n*4,g)::R)) (S.n) ⟨0,vL (vK (GI S b) 5 (vi (S.gen+1))) 0 [vi 0,vi 0,vi 0,vi 0],fP S,by omega,sL S b fun j h1 h2=>by { rcases(by omega:j=4∨j=5)with rfl|rfl<;>rfl },fun j h=>by omega,by omega,rfl,rfl,rfl,rfl,rfl,Sub.refl _⟩ ?_
  rintro j T L0 ⟨c,f,g,hc,hf,hg,rfl,hl,g0,g1,g54,g55,hsb⟩
  obtain⟨tg,rfl⟩:=W7 hl g0 g1 g54 g55
  clear hl g0 g1 g54 g55
  refine zu hsb ?_
  clear hsb L0
  refine O0 3 J (z0 (fun h56=> ?_) (fun h56=> ?_))
  ·refine Z 14 J (fa J Y ?_)
   have hfn:S.fresh.n=S.n:=rfl
   refine lf J Y (hf _ (by omega)) (Z 1 J (zf rfl (fun _=>GB (cs:= [.bool false,.bool false,.bool false,.bool false]) rfl rfl rfl) ?_))
   refine zf rfl (fun _=>vQ rfl rfl rfl (by omega) (by omega)) ?_
   refine QD rfl rfl rfl rfl rfl rfl (by show c*4+4≤S.n*4;omega) ?_
   refine Z 2 J (ad J (Z 2 J ?_))
   exact Or.inl ⟨rfl,_,by omega,c+1,f,vL g ((c:Int).toNat*4+0) (AVal.agg [.bool false,.bool false,.bool false,.bool false]).cells,by omega,hf,ln hg,rfl,rfl,rfl,rfl,rfl,rfl,Y⟩
  refine Z 4 J (Or.inr ⟨nofun,?_⟩)
  refine OX 5 J (fa J Y (zf rfl (fun _=>zh rfl rfl rfl (by omega) (by omega)) ?_))
  refine sF J Y J J (Z 7 J (qO J J J J ?_))
  have hl:=zW.least_none ht
  have e:S.ask p=(1,true,S.fresh.setOf p.toNat 1):=by { unfold zW.ask;rw [if_pos h9];exact(if_neg h17).trans (by rw [hl]) }
  rw [e]
  have hSf:S.fresh.Ok:=⟨hS.1,hS.2.1,fun _=>by { show 0≤(0:Int)∧(0:Int)≤3;omega },by { show 0≤S.gen+1;omega },by { show S.gen+1≤_;omega }⟩
  have hcn:c=S.n:=by omega
  subst hcn
  refine⟨_,⟨rfl,rfl⟩,Sub.mk2 (q9 (b:=b) (hSf.setOf p.toNat (v:=1) (by omega)) (f:=vK f (p.toNat+(0+0)) (vi 1)) (fun j hj=> ?_) (fun j hj=> ?_)) Y⟩
  ·have:=px S.fresh b (p:=p.toNat) (by omega) 1 (k:=p.toNat+(0+0)) (by omega) j hj
   rw [←this];unfold vK;split;rfl;exact hf j hj
  exact(hg j hj).trans rfl
 refine Z 9 J (qO J J J J ?_)
 have e:S.ask p=(0,false,S):=if_neg h9
 rw [e]
 exact⟨_,⟨rfl,rfl⟩,Sub.mk2 (q9 hS (fun _ _=>rfl) fun _ _=>rfl) Y⟩
theorem AK (R:List SP) (z:Int):zy 64 [vi z] (R) fun v L=> ∃a,v=vp a 0∧L=ent qm a ⟨fun _=>0,(min (max 1 z) 2).toNat,fun _ _=>false,0⟩::R:=by
 refine SW.intro rfl Tryz.func64 rfl ?_
 refine O0 7 J (zf rfl (fun _=>Js rfl rfl rfl rfl rfl) ?_)
 refine zf rfl (fun _=>Jv rfl rfl rfl rfl rfl) ?_
 refine US (n:=(min (max 1 z) 2).toNat) (.bool false) (by simp [AVal.cells]) rfl rfl rfl rfl (by omega) (by omega) (by omega) fun i6=> ?_
 refine bu [_,_,_,_,_,_] J Y Y J (yW rfl rfl rfl rfl fun i8=> ?_)
 refine Z 3 J (zE J J J (⟨_,⟨i8,rfl,rfl⟩,?_⟩))
 refine Sub.mk2 (K1:=z8) (K2:=zI) (a1:=i8) (a2:=i6) (x1:=_) (x2:=_) (fun h x=> ?_) Y
 refine⟨i6,⟨by show 1≤(min (max 1 z) 2).toNat;omega,by show(min (max 1 z) 2).toNat≤2;omega,fun _=>by show 0≤(0:Int)∧(0:Int)≤3;omega,by show(0:Int)≤0;omega,by show(0:Int)≤_;omega⟩,nG (dd x (wK fun j _=>rfl)) fun f hf=> ?_⟩
 exact wG (f:=GI _ i6) (fun j hj=>by
  rcases(by have:j<6:=hj;omega:j=0∨j=1∨j=2∨j=3∨j=4∨j=5)with rfl|rfl|rfl|rfl|rfl|rfl<;>rfl) f hf
structure yl where
 op:Int
 a:Int
 b:Int
 n:Int
abbrev qN (x:yl):List AVal:= [vi x.op,vi x.a,vi x.b,vi x.n]
structure vB where
 pcid:Int
 page:Int
 frame:Int
 write:Bool
 user:Bool
 glob:Bool
abbrev u6 (x:vB):List AVal:= [vi x.pcid,vi x.page,vi x.frame,.bool x.write,.bool x.user,.bool x.glob]
abbrev vd (v:AVal):List AVal:= [v]
def W9 {α:Type} (p:α→Bool) (xs:List α):Int:=match xs.findIdx? p with
 |some i=>(i:Nat)
 |none=> -1
theorem Yf {α:Type} {p:α→Bool} {xs:List α} (h: ∀(k:Nat) (x:α),xs[k]? =some x→p x=false):W9 p xs= -1:=by
 unfold W9
 rw [List.findIdx?_eq_none_iff.2 fun x hx=>by obtain⟨i,hi⟩:=List.mem_iff_getElem?.1 hx;exact h i x hi]
theorem Yq {α:Type} {p:α→Bool} {xs:List α} {c:Nat} {x:α} (hx:xs[c]? =some x) (hp:p x=true) (h: ∀(k:Nat) (x:α),k<c→xs[k]? =some x→p x=false):W9 p xs=(c:Nat):=by
 have hc:c<xs.length:=by
  rcases Nat.lt_or_ge c xs.length with h|h
  ·exact h
  rw [List.getElem?_eq_none h]at hx;cases hx
 unfold W9
 rw [List.findIdx?_eq_some_iff_getElem.2 ⟨hc,by rw [List.getElem?_eq_getElem hc]at hx;cases hx;exact hp,fun j hj=>by rw [h j xs[j] hj (List.getElem?_eq_getElem (by omega))];nofun⟩]
theorem u5 {α:Type} (p:α→Bool) (xs:List α):(W9 p xs= -1∧ ∀x,x ∈ xs→p x=false)∨ ∃c x,W9 p xs=(c:Nat)∧c<xs.length∧xs[c]? =some x∧p x=true∧ ∀(k:Nat) (y:α),k<c→xs[k]? =some y→p y=false:=by
 cases e:xs.findIdx? p with
 |none=>
  refine .inl ⟨by unfold W9;rw [e],fun x hx=>List.findIdx?_eq_none_iff.1 e x hx⟩
 |some c=>
  obtain⟨hc,h1,h2⟩:=List.findIdx?_eq_some_iff_getElem.1 e
  refine .inr ⟨c,xs[c],by unfold W9;rw [e],hc,List.getElem?_eq_getElem hc,h1,fun k y hk hy=> ?_⟩
  have:=h2 k hk
  rw [List.getElem?_eq_getElem (by omega)]at hy
  cases hy
  simpa using this
theorem bg {α:Type} (p:α→Bool) (xs:List α):decide ((0:Int)≤W9 p xs)=xs.any p:=by
 rcases u5 p xs with⟨h,h2⟩|⟨c,x,h,h2,h3,h4,h5⟩
 ·rw [h,Eq.comm,List.any_eq_false.2 fun x hx=>by rw [h2 x hx];nofun];rfl
 rw [h,decide_eq_true (Int.natCast_nonneg c),Eq.comm,List.any_eq_true];exact⟨x,List.mem_iff_getElem?.2 ⟨c,h3⟩,h4⟩
theorem Qr {α:Type} {p:α→Bool} {xs:List α} {c:Nat} {x:α} (hx:xs[c]? =some x) (hp:p x=true) (h: ∀(k:Nat) (y:α),k<c→xs[k]? =some y→p y=false):(xs.take (c+1)).filter (fun x=> !p x)=xs.take c:=by
 rw [List.take_add_one,hx,List.filter_append]
 simp only [Option.toList,List.filter_cons,hp,List.filter_nil]
 simp only [Bool.not_true,Bool.false_eq_true,if_false,List.append_nil]
 refine List.filter_eq_self.2 fun y hy=> ?_
 obtain⟨k,hk⟩:=List.mem_iff_getElem?.1 hy
 rw [List.getElem?_take]at hk
 split at hk
 ·rw [h k y ‹_› hk];rfl
 cases hk
theorem gF {α:Type} {p:α→Bool} {xs:List α} {c:Nat} {x:α} (hx:xs[c]? =some x):(xs.take (c+1)).filter (fun x=> !p x)=(xs.take c).filter (fun x=> !p x)++if p x then []else [x]:=by
 rw [List.take_add_one,hx,List.filter_append]
 congr 1
 cases e:p x<;>simp [e]
theorem xf (E R:List SP) (v:AVal) (xs:List vB) (hn:xs.length≤1000000) (p:vB→Bool) (f:FuncId) (a b:List AVal) (hf: ∀x,x ∈ xs→ ∀R',zy f (a++ [.agg (u6 x)]++b) (E++R') fun w L=>w= .bool (p x)∧L=E++R'):zy 237 [v,.func f a b] (ent (zP u6 6) v xs::(E++R)) fun w L=>w=vi (W9 p xs)∧L=ent (zP u6 6) v xs::(E++R):=by
 refine SW.intro rfl Tryz.func237 rfl ?_
 refine O0 8 J (yo rfl (fun _ h=>y0 rfl rfl rfl rfl rfl h) ?_)
 refine Z 3 J (zl (fun j T L=> ∃(c:Nat),(c≤xs.length)∧(∀(k:Nat) (x:vB),k<c→xs[k]? =some x→p x=false)∧j=xs.length-c∧T.len=2∧Tm.get 0 T=some (v)∧Tm.get 1 T=some (.func f a b)∧Tm.get 7 T=some (vi (xs.length:Nat))∧Tm.get 8 T=some (vi (c:Nat))∧Sub L (ent (zP u6 6) v xs::(E++R))) (xs.length) ⟨0,by omega,fun k x h=>absurd h (Nat.not_lt_zero k),by omega,rfl,rfl,rfl,rfl,rfl,Y⟩ ?_)
 rintro j T L0 ⟨c,hc,hno,rfl,hl,g0,g1,g7,g8,hsb⟩
 obtain⟨tg,rfl⟩:=W7 hl g0 g1 g7 g8
 clear hl g0 g1 g7 g8
 refine zu hsb ?_
 clear hsb L0
 refine O0 3 J (z0 (fun h9=> ?_) (fun h9=> ?_))
 ·refine Z 16 J ?_
  obtain⟨x,hx⟩: ∃x,xs[c]? =some x:=⟨xs[c]'(by omega),List.getElem?_eq_getElem (by omega)⟩
  refine yo rfl (fun _ h=>yM rfl rfl rfl (by omega) (by omega) h) ?_
  refine yo rfl (fun _ h=>Wo rfl rfl rfl hx h) ?_
  refine zR (jn (ent (zP u6 6) v xs) E R) ?_
  refine Z0 (hf x (List.mem_iff_getElem?.2 ⟨_,hx⟩) (ent (zP u6 6) v xs::R)) J (zR (uu (ent (zP u6 6) v xs) E R) ?_)
  refine zN (fun h16=> ?_) (fun h16=> ?_)
  ·refine Z 8 J (Or.inr ⟨nofun,?_⟩)
   exact zE J J J ⟨_,⟨congrArg vi (Yq hx h16 hno).symm,rfl⟩,Y⟩
  refine Z 4 J (ad J (Z 2 J ?_))
  exact Or.inl ⟨rfl,_,by omega,c+1,by omega,fun k y hk hy=>by { rcases Nat.lt_succ_iff_lt_or_eq.1 hk with hk|rfl;exact hno k y hk hy;rw [hx]at hy;cases hy;exact h16 },rfl,rfl,rfl,rfl,rfl,rfl,Y⟩
 refine Z 4 J (Or.inr ⟨nofun,?_⟩)
 exact OX 5 J (zE J J J ⟨_,⟨congrArg vi (Yf fun k x hk=>hno k x (by { have:=(List.getElem?_eq_some_iff.1 hk).1;omega }) hk).symm,rfl⟩,Y⟩)
theorem tP (E R:List SP) (v:AVal) (xs:List yl) (hn:xs.length≤1000000) (p:yl→Bool) (f:FuncId) (a b:List AVal) (hf: ∀x,x ∈ xs→ ∀R',zy f (a++ [.agg (qN x)]++b) (E++R') fun w L=>w= .bool (p x)∧L=E++R'):zy 152 [v,.func f a b] (ent (zP qN 4) v xs::(E++R)) fun w L=>w=vi (W9 p xs)∧L=ent (zP qN 4) v xs::(E++R):=by
 refine SW.intro rfl Tryz.func152 rfl ?_
 refine O0 8 J (yo rfl (fun _ h=>y0 rfl rfl rfl rfl rfl h) ?_)
 refine Z 3 J (zl (fun j T L=> ∃(c:Nat),(c≤xs.length)∧(∀(k:Nat) (x:yl),k<c→xs[k]? =some x→p x=false)∧j=xs.length-c∧T.len=2∧Tm.get 0 T=some (v)∧Tm.get 1 T=some (.func f a b)∧Tm.get 7 T=some (vi (xs.length:Nat))∧Tm.get 8 T=some (vi (c:Nat))∧Sub L (ent (zP qN 4) v xs::(E++R))) (xs.length) ⟨0,by omega,fun k x h=>absurd h (Nat.not_lt_zero k),by omega,rfl,rfl,rfl,rfl,rfl,Y⟩ ?_)
 rintro j T L0 ⟨c,hc,hno,rfl,hl,g0,g1,g7,g8,hsb⟩
 obtain⟨tg,rfl⟩:=W7 hl g0 g1 g7 g8
 clear hl g0 g1 g7 g8
 refine zu hsb ?_
 clear hsb L0
 refine O0 3 J (z0 (fun h9=> ?_) (fun h9=> ?_))
 ·refine Z 16 J ?_
  obtain⟨x,hx⟩: ∃x,xs[c]? =some x:=⟨xs[c]'(by omega),List.getElem?_eq_getElem (by omega)⟩
  refine yo rfl (fun _ h=>yM rfl rfl rfl (by omega) (by omega) h) ?_
  refine yo rfl (fun _ h=>Wo rfl rfl rfl hx h) ?_
  refine zR (jn (ent (zP qN 4) v xs) E R) ?_
  refine Z0 (hf x (List.mem_iff_getElem?.2 ⟨_,hx⟩) (ent (zP qN 4) v xs::R)) J (zR (uu (ent (zP qN 4) v xs) E R) ?_)
  refine zN (fun h16=> ?_) (fun h16=> ?_)
  ·refine Z 8 J (Or.inr ⟨nofun,?_⟩)
   exact zE J J J ⟨_,⟨congrArg vi (Yq hx h16 hno).symm,rfl⟩,Y⟩
  refine Z 4 J (ad J (Z 2 J ?_))
  exact Or.inl ⟨rfl,_,by omega,c+1,by omega,fun k y hk hy=>by { rcases Nat.lt_succ_iff_lt_or_eq.1 hk with hk|rfl;exact hno k y hk hy;rw [hx]at hy;cases hy;exact h16 },rfl,rfl,rfl,rfl,rfl,rfl,Y⟩
 refine Z 4 J (Or.inr ⟨nofun,?_⟩)
 exact OX 5 J (zE J J J ⟨_,⟨congrArg vi (Yf fun k x hk=>hno k x (by { have:=(List.getElem?_eq_some_iff.1 hk).1;omega }) hk).symm,rfl⟩,Y⟩)
theorem fv (E R:List SP) (v:AVal) (xs:List Int) (hn:xs.length≤1000000) (p:Int→Bool) (f:FuncId) (a b:List AVal) (hf: ∀x,x ∈ xs→ ∀R',zy f (a++ [vi x]++b) (E++R') fun w L=>w= .bool (p x)∧L=E++R'):zy 197 [v,.func f a b] (ent (zP yK 1) v xs::(E++R)) fun w L=>w=vi (W9 p xs)∧L=ent (zP yK 1) v xs::(E++R):=by
 refine SW.intro rfl Tryz.func197 rfl ?_
 refine O0 8 J (yo rfl (fun _ h=>y0 rfl rfl rfl rfl rfl h) ?_)
 refine Z 3 J (zl (fun j T L=> ∃(c:Nat),(c≤xs.length)∧(∀(k:Nat) (x:Int),k<c→xs[k]? =some x→p x=false)∧j=xs.length-c∧T.len=2∧Tm.get 0 T=some (v)∧Tm.get 1 T=some (.func f a b)∧Tm.get 7 T=some (vi (xs.length:Nat))∧Tm.get 8 T=some (vi (c:Nat))∧Sub L (ent (zP yK 1) v xs::(E++R))) (xs.length) ⟨0,by omega,fun k x h=>absurd h (Nat.not_lt_zero k),by omega,rfl,rfl,rfl,rfl,rfl,Y⟩ ?_)
 rintro j T L0 ⟨c,hc,hno,rfl,hl,g0,g1,g7,g8,hsb⟩
 obtain⟨tg,rfl⟩:=W7 hl g0 g1 g7 g8
 clear hl g0 g1 g7 g8
 refine zu hsb ?_
 clear hsb L0
 refine O0 3 J (z0 (fun h9=> ?_) (fun h9=> ?_))
 ·refine Z 16 J ?_
  obtain⟨x,hx⟩: ∃x,xs[c]? =some x:=⟨xs[c]'(by omega),List.getElem?_eq_getElem (by omega)⟩
  refine yo rfl (fun _ h=>yM rfl rfl rfl (by omega) (by omega) h) ?_
  refine lE 0 J Y J hx J (zR (jn (ent (zP yK 1) v xs) E R) ?_)
  refine Z0 (hf x (List.mem_iff_getElem?.2 ⟨_,hx⟩) (ent (zP yK 1) v xs::R)) J (zR (uu (ent (zP yK 1) v xs) E R) ?_)
  refine zN (fun h16=> ?_) (fun h16=> ?_)
  ·refine Z 8 J (Or.inr ⟨nofun,?_⟩)
   exact zE J J J ⟨_,⟨congrArg vi (Yq hx h16 hno).symm,rfl⟩,Y⟩
  refine Z 4 J (ad J (Z 2 J ?_))
  exact Or.inl ⟨rfl,_,by omega,c+1,by omega,fun k y hk hy=>by { rcases Nat.lt_succ_iff_lt_or_eq.1 hk with hk|rfl;exact hno k y hk hy;rw [hx]at hy;cases hy;exact h16 },rfl,rfl,rfl,rfl,rfl,rfl,Y⟩
 refine Z 4 J (Or.inr ⟨nofun,?_⟩)
 exact OX 5 J (zE J J J ⟨_,⟨congrArg vi (Yf fun k x hk=>hno k x (by { have:=(List.getElem?_eq_some_iff.1 hk).1;omega }) hk).symm,rfl⟩,Y⟩)
theorem nv (E R:List SP) (v:AVal) (xs:List yl) (hn:xs.length≤1000000) (p:yl→Bool) (f:FuncId) (a b:List AVal) (hf: ∀x,x ∈ xs→ ∀R',zy f (a++ [.agg (qN x)]++b) (E++R') fun w L=>w= .bool (p x)∧L=E++R'):zy 102 [v,.func f a b] (ent (zP qN 4) v xs::(E++R)) fun w L=>w= .bool (xs.any p)∧L=ent (zP qN 4) v xs::(E++R):=by
 refine SW.intro rfl Tryz.func102 rfl ?_
 exact O0 8 J (Z0 (tP _ _ _ _ hn p f a b hf) J (Z 4 J (zE J J J ⟨_,⟨congrArg AVal.bool (bg p xs),rfl⟩,Y⟩)))
theorem cN (R:List SP) (v:AVal) (xs:List Int) (hn:xs.length≤1000000) (z:Int):zy 236 [v,vi z] (ent (zP yK 1) v xs::R) fun w L=>w=vi (W9 (fun x=>decide (x=z)) xs)∧L=ent (zP yK 1) v xs::R:=by
 refine SW.intro rfl Tryz.func236 rfl ?_
 refine O0 8 J (yo rfl (fun _ h=>y0 rfl rfl rfl rfl rfl h) ?_)
 refine Z 3 J (zl (fun j T L=> ∃(c:Nat),(c≤xs.length)∧(∀(k:Nat) (x:Int),k<c→xs[k]? =some x→decide (x=z)=false)∧j=xs.length-c∧T.len=2∧Tm.get 0 T=some (v)∧Tm.get 1 T=some (vi z)∧Tm.get 7 T=some (vi (xs.length:Nat))∧Tm.get 8 T=some (vi (c:Nat))∧Sub L (ent (zP yK 1) v xs::R)) (xs.length) ⟨0,by omega,fun k x h=>absurd h (Nat.not_lt_zero k),by omega,rfl,rfl,rfl,rfl,rfl,Y⟩ ?_)
 rintro j T L0 ⟨c,hc,hno,rfl,hl,g0,g1,g7,g8,hsb⟩
 obtain⟨tg,rfl⟩:=W7 hl g0 g1 g7 g8
 clear hl g0 g1 g7 g8
 refine zu hsb ?_
 clear hsb L0
 refine O0 3 J (z0 (fun h9=> ?_) (fun h9=> ?_))
 ·refine Z 16 J ?_
  obtain⟨x,hx⟩: ∃x,xs[c]? =some x:=⟨xs[c]'(by omega),List.getElem?_eq_getElem (by omega)⟩
  refine yo rfl (fun _ h=>yM rfl rfl rfl (by omega) (by omega) h) ?_
  refine lE 0 J Y J hx J (Z 1 J (z0 (fun h16=> ?_) (fun h16=> ?_)))
  ·refine Z 8 J (Or.inr ⟨nofun,?_⟩)
   exact zE J J J ⟨_,⟨congrArg vi (Yq (p:=fun x=>decide (x=z)) hx (decide_eq_true h16.symm) hno).symm,rfl⟩,Y⟩
  refine Z 4 J (ad J (Z 2 J ?_))
  exact Or.inl ⟨rfl,_,by omega,c+1,by omega,fun k y hk hy=>by { rcases Nat.lt_succ_iff_lt_or_eq.1 hk with hk|rfl;exact hno k y hk hy;rw [hx]at hy;cases hy;exact decide_eq_false fun e=>h16 e.symm },rfl,rfl,rfl,rfl,rfl,rfl,Y⟩
 refine Z 4 J (Or.inr ⟨nofun,?_⟩)
 exact OX 5 J (zE J J J ⟨_,⟨congrArg vi (Yf fun k x hk=>hno k x (by { have:=(List.getElem?_eq_some_iff.1 hk).1;omega }) hk).symm,rfl⟩,Y⟩)
theorem fl (R:List SP) (v:AVal) (xs:List Int) (hn:xs.length≤1000000) (z:Int):zy 196 [v,vi z] (ent (zP yK 1) v xs::R) fun w L=>w= .bool (xs.any fun x=>decide (x=z))∧L=ent (zP yK 1) v xs::R:=by
 refine SW.intro rfl Tryz.func196 rfl ?_
 exact O0 8 J (Z1 (cN _ _ _ (by omega) _) J Y (Z 4 J (zE J J J ⟨_,⟨congrArg AVal.bool (bg _ xs),rfl⟩,Y⟩)))
theorem rj (R:List SP) (v:AVal) (xs:List vB) (hn:xs.length≤1000000):zy 52 [v] (ent (zP u6 6) v xs::R) fun w L=>L=ent (zP u6 6) w xs::ent (zP u6 6) v xs::R:=by
 refine SW.intro rfl Tryz.func52 rfl ?_
 refine YO (v:=v) fun a c e hv hz=> ?_
 subst hv
 cases a with
 |none=>
  have hx:=(hz rfl).1
  subst hx
  refine c_seq (uU (zf rfl (fun _=>rfl) (zF (c_seq (c_seq (uU (zf rfl (fun _=>rfl) ?_)))))))
  refine zf rfl (fun _=>zC rfl rfl rfl rfl) ?_
  refine zF (Jz rfl (c_seq (uU (zf rfl (fun _=>rfl) (zF (UV ?_))))))
  refine⟨.inr rfl,_,fun _ h=>(zi (za rfl) q7),?_⟩
  exact⟨_,rfl,Sub.nilE (en:=u6) (es:=6) (fun _=>rfl) (by decide) 0 _⟩
 |some p=>
  refine c_seq (uU (zf rfl (fun _=>rfl) (zF (c_seq (c_seq (uU (zf rfl (fun _=>rfl) ?_)))))))
  refine zf rfl (fun _=>zC rfl rfl rfl rfl) ?_
  refine zF (Vf rfl (kV (c_seq (uU ?_))))
  refine zT (cs:= []) rfl rfl rfl (by decide) rfl fun i5=> ?_
  refine zR (Sub.empE (en:=u6) (es:=6) (fun _=>rfl) (by decide) i5 0 _) ?_
  refine zf rfl (fun _=>rfl) ?_
  refine kG rfl rfl rfl rfl rfl rfl rfl (by simp;omega) (fun _=>rfl) fun a7 c7 e7=> ?_
  refine zf rfl (fun _=>rfl) (zF (UV ?_))
  refine⟨.inr rfl,_,fun _ h=>(zi (za rfl) q7),?_⟩
  refine⟨_,rfl,?_⟩
  simp only [List.nil_append,List.length_nil,Nat.zero_add]
  exact Y
theorem Wq (R:List SP) (v:AVal) (xs:List yl) (hn:xs.length≤1000000):zy 69 [v] (ent (zP qN 4) v xs::R) fun w L=>L=ent (zP qN 4) w xs::ent (zP qN 4) v xs::R:=by
 refine SW.intro rfl Tryz.func69 rfl ?_
 refine YO (v:=v) fun a c e hv hz=> ?_
 subst hv
 cases a with
 |none=>
  have hx:=(hz rfl).1
  subst hx
  refine c_seq (uU (zf rfl (fun _=>rfl) (zF (c_seq (c_seq (uU (zf rfl (fun _=>rfl) ?_)))))))
  refine zf rfl (fun _=>zC rfl rfl rfl rfl) ?_
  refine zF (Jz rfl (c_seq (uU (zf rfl (fun _=>rfl) (zF (UV ?_))))))
  refine⟨.inr rfl,_,fun _ h=>(zi (za rfl) q7),?_⟩
  exact⟨_,rfl,Sub.nilE (en:=qN) (es:=4) (fun _=>rfl) (by decide) 0 _⟩
 |some p=>
  refine c_seq (uU (zf rfl (fun _=>rfl) (zF (c_seq (c_seq (uU (zf rfl (fun _=>rfl) ?_)))))))
  refine zf rfl (fun _=>zC rfl rfl rfl rfl) ?_
  refine zF (Vf rfl (kV (c_seq (uU ?_))))
  refine zT (cs:= []) rfl rfl rfl (by decide) rfl fun i5=> ?_
  refine zR (Sub.empE (en:=qN) (es:=4) (fun _=>rfl) (by decide) i5 0 _) ?_
  refine zf rfl (fun _=>rfl) ?_
  refine kG rfl rfl rfl rfl rfl rfl rfl (by simp;omega) (fun _=>rfl) fun a7 c7 e7=> ?_
  refine zf rfl (fun _=>rfl) (zF (UV ?_))
  refine⟨.inr rfl,_,fun _ h=>(zi (za rfl) q7),?_⟩
  refine⟨_,rfl,?_⟩
  simp only [List.nil_append,List.length_nil,Nat.zero_add]
  exact Y
theorem l0 (R:List SP) (v:AVal) (xs:List Int) (hn:xs.length≤1000000):zy 145 [v] (ent (zP yK 1) v xs::R) fun w L=>L=ent (zP yK 1) w xs::ent (zP yK 1) v xs::R:=by
 refine SW.intro rfl Tryz.func145 rfl ?_
 refine YO (v:=v) fun a c e hv hz=> ?_
 subst hv
 cases a with
 |none=>
  have hx:=(hz rfl).1
  subst hx
  refine c_seq (uU (zf rfl (fun _=>rfl) (zF (c_seq (c_seq (uU (zf rfl (fun _=>rfl) ?_)))))))
  refine zf rfl (fun _=>zC rfl rfl rfl rfl) ?_
  refine zF (Jz rfl (c_seq (uU (zf rfl (fun _=>rfl) (zF (UV ?_))))))
  refine⟨.inr rfl,_,fun _ h=>(zi (za rfl) q7),?_⟩
  exact⟨_,rfl,Sub.nilE (en:=yK) (es:=1) (fun _=>rfl) (by decide) 0 _⟩
 |some p=>
  refine c_seq (uU (zf rfl (fun _=>rfl) (zF (c_seq (c_seq (uU (zf rfl (fun _=>rfl) ?_)))))))
  refine zf rfl (fun _=>zC rfl rfl rfl rfl) ?_
  refine zF (Vf rfl (kV (c_seq (uU ?_))))
  refine zT (cs:= []) rfl rfl rfl (by decide) rfl fun i5=> ?_
  refine zR (Sub.empE (en:=yK) (es:=1) (fun _=>rfl) (by decide) i5 0 _) ?_
  refine zf rfl (fun _=>rfl) ?_
  refine kG rfl rfl rfl rfl rfl rfl rfl (by simp;omega) (fun _=>rfl) fun a7 c7 e7=> ?_
  refine zf rfl (fun _=>rfl) (zF (UV ?_))
  refine⟨.inr rfl,_,fun _ h=>(zi (za rfl) q7),?_⟩
  refine⟨_,rfl,?_⟩
  simp only [List.nil_append,List.length_nil,Nat.zero_add]
  exact Y
theorem rP (E R:List SP) (v:AVal) (xs:List vB) (hn:xs.length≤1000000) (p:vB→Bool) (f:FuncId) (a b:List AVal) (hf: ∀x,x ∈ xs→ ∀R',zy f (a++ [.agg (u6 x)]++b) (E++R') fun w L=>w= .bool (p x)∧L=E++R'):zy 245 [v,.func f a b] (ent (zP u6 6) v xs::(E++R)) fun w L=>L=ent (zP u6 6) w (xs.filter fun x=> !p x)::(E++R):=by
 refine SW.intro rfl Tryz.func245 rfl ?_
 refine O0 8 J (Z0 (xf _ _ _ _ hn p f a b hf) J (Z 7 J (z0 (fun h12=> ?_) (fun h12=> ?_))))
 ·refine Z 8 J (zE J J J ?_)
  have e:(xs.filter fun x=> !p x)=xs:=List.filter_eq_self.2 fun x hx=>by
   rcases u5 p xs with⟨_,h2⟩|⟨c,x0,hc0,_⟩
   ·rw [h2 x hx];rfl
   omega
  rw [e]
  exact⟨_,rfl,Y⟩
 obtain⟨c,x0,hc0,hcl,hx0,hp0,hno0⟩:=(u5 p xs).resolve_left (fun e=>h12 e.1)
 rw [hc0]
 clear h12 hc0
 refine mZ (v:=v) (fun e=>by rw [e]at hcl;exact absurd hcl (Nat.not_lt_zero _)) fun i off cp n g0 hv hr hg hen hes=> ?_
 subst hv
 have hr1:=hr.1
 refine Z 7 J (ad J (Z 3 J (zl (fun j T L=> ∃(d t:Nat) (g:Nat→AVal),(d<t)∧(t≤xs.length)∧(((xs.take t).filter fun x=> !p x).length=d)∧(zY g off (d*6)=((xs.take t).filter fun x=> !p x).flatMap u6)∧(∀(k:Nat) (x:vB),t≤k→xs[k]? =some x→zY g (k*6+off) 6=u6 x)∧j=xs.length-t∧T.len=3∧Tm.get 0 T=some (.slice (some (i,off)) xs.length cp 6)∧Tm.get 1 T=some (.func f a b)∧Tm.get 5 T=some (vi (d:Nat))∧Tm.get 6 T=some (vi (t:Nat))∧Sub L (ent zI i (n,g)::(E++R))) (xs.length-(c+1)) ⟨c,c+1,g0,by omega,by omega,by rw [Qr hx0 hp0 hno0,List.length_take];omega,by rw [Qr hx0 hp0 hno0,Gi (en:=u6) (es:=6) (fun _=>rfl),←hg,Qx _ _ _ _ (Nat.mul_le_mul_right _ (by omega))],fun k x _ h2=>iV hen hg h2,by omega,rfl,rfl,rfl,rfl,rfl,Y⟩ ?_)))
 rintro j T L0 ⟨d,t,g,hd,ht,hk,hkc,hre,rfl,hl,g0,g1,g5,g6,hsb⟩
 obtain⟨tg,rfl⟩:=W7 hl g0 g1 g5 g6
 clear hl g0 g1 g5 g6
 refine zu hsb ?_
 clear hsb L0
 refine O0 5 J (zf rfl (fun _=>wD rfl rfl rfl rfl rfl) ?_)
 refine Z 1 J (z0 (fun h19=> ?_) (fun h19=> ?_))
 ·refine Z 9 J ?_
  obtain⟨x,hx⟩: ∃x,xs[t]? =some x:=⟨xs[t]'(by omega),List.getElem?_eq_getElem (by omega)⟩
  have hc:=hre t x (Nat.le_refl _) hx
  refine zf rfl (fun _=>vQ rfl rfl rfl (by omega) (by omega)) ?_
  refine yo rfl (fun _ h=>wF (vs:=u6 x) rfl rfl (by omega) (by exact hc) h) ?_
  refine zd rfl rfl rfl fun i7=> ?_
  refine sN J Y Y J J J (Z 4 J (lN J Y Y J J (zR (tC _ _ E R) ?_)))
  refine Z0 (hf x (List.mem_iff_getElem?.2 ⟨_,hx⟩) _) J (zR (bE _ _ E R) ?_)
  refine zN (fun h28=> ?_) (fun h28=> ?_)
  ·refine Z 6 J (ad J (Z 2 J ?_))
   exact Or.inl ⟨rfl,_,by omega,d,t+1,g,by omega,by omega,by rw [gF hx,h28,if_pos rfl,List.append_nil];exact hk,by rw [gF hx,h28,if_pos rfl,List.append_nil];exact hkc,fun k y h1 h2=>hre k y (by omega) h2,rfl,rfl,rfl,rfl,rfl,rfl,Y⟩
  refine Z 7 J (lN J Y Y J J (zf rfl (fun _=>vQ rfl rfl rfl (by omega) (by omega)) ?_))
  refine QD rfl rfl rfl rfl (by rfl) rfl (by show _+6≤n;omega) ?_
  refine Z 3 J (ad J (Z 4 J (ad J (Z 2 J ?_))))
  exact Or.inl ⟨rfl,_,by omega,d+1,t+1,vL g (d*6+off) (u6 x),by omega,by omega,by rw [gF hx,h28,List.length_append,hk];rfl,by rw [gF hx,h28,List.flatMap_append,←hkc,Nat.add_comm (d*6) off,Nat.add_mul,Zc _ _ _ _ _ (by rfl)];rfl,fun k y h1 h2=>by { rw [ut _ _ _ _ _ (.inr (by show _+6≤_;omega))];exact hre k y (by omega) h2 },rfl,rfl,rfl,rfl,rfl,rfl,(show Sub (ent zI i (n,vL g (d*6+off) (u6 x))::ent z8 i7 (u6 x)::(E++R)) (ent zI i (n,vL g (d*6+off) (u6 x))::(E++R))from Y)⟩
 refine Z 3 J (Or.inr ⟨nofun,?_⟩)
 refine OX 4 J (zf rfl (fun _=>rU rfl rfl rfl (by omega) (by omega) (fun k hk=>(hr.2 k hk).2)) ?_)
 refine bp rfl rfl rfl rfl rfl rfl rfl (by omega) fun zs hzs=> ?_
 refine Z 5 J (zf rfl (fun _=>UI rfl rfl rfl (by omega) (by omega) (fun k hk=>(hr.2 k hk).2)) ?_)
 refine Z 3 J (zE J J J ?_)
 have ht2:t=xs.length:=by omega
 subst ht2
 rw [List.take_length]at hk hkc
 refine⟨_,rfl,Sub.one fun h s=>el_close (en:=u6) (es:=6) (fun _=>rfl) (by decide) hk.symm ⟨?_,fun k hk=>⟨(hr.2 k hk).1,?_⟩⟩ ?_ h s⟩
 ·show off+d*_≤n;omega
 ·have:=(hr.2 k hk).2;show d≤k;omega
 show zY _ off (d*6)=_
 rw [←hkc];exact ut _ _ _ _ _ (.inl (by show off+d*6≤off+d*6;exact Nat.le_refl _))
theorem li (E R:List SP) (v:AVal) (xs:List Int) (hn:xs.length≤1000000) (p:Int→Bool) (f:FuncId) (a b:List AVal) (hf: ∀x,x ∈ xs→ ∀R',zy f (a++ [vi x]++b) (E++R') fun w L=>w= .bool (p x)∧L=E++R'):zy 144 [v,.func f a b] (ent (zP yK 1) v xs::(E++R)) fun w L=>L=ent (zP yK 1) w (xs.filter fun x=> !p x)::(E++R):=by
 refine SW.intro rfl Tryz.func144 rfl ?_
 refine O0 8 J (Z0 (fv _ _ _ _ hn p f a b hf) J (Z 7 J (z0 (fun h12=> ?_) (fun h12=> ?_))))
 ·refine Z 8 J (zE J J J ?_)
  have e:(xs.filter fun x=> !p x)=xs:=List.filter_eq_self.2 fun x hx=>by
   rcases u5 p xs with⟨_,h2⟩|⟨c,x0,hc0,_⟩
   ·rw [h2 x hx];rfl
   omega
  rw [e]
  exact⟨_,rfl,Y⟩
 obtain⟨c,x0,hc0,hcl,hx0,hp0,hno0⟩:=(u5 p xs).resolve_left (fun e=>h12 e.1)
 rw [hc0]
 clear h12 hc0
 refine mZ (v:=v) (fun e=>by rw [e]at hcl;exact absurd hcl (Nat.not_lt_zero _)) fun i off cp n g0 hv hr hg hen hes=> ?_
 subst hv
 have hr1:=hr.1
 refine Z 7 J (ad J (Z 3 J (zl (fun j T L=> ∃(d t:Nat) (g:Nat→AVal),(d<t)∧(t≤xs.length)∧(((xs.take t).filter fun x=> !p x).length=d)∧(zY g off (d*1)=((xs.take t).filter fun x=> !p x).flatMap yK)∧(∀(k:Nat) (x:Int),t≤k→xs[k]? =some x→zY g (k*1+off) 1=yK x)∧j=xs.length-t∧T.len=3∧Tm.get 0 T=some (.slice (some (i,off)) xs.length cp 1)∧Tm.get 1 T=some (.func f a b)∧Tm.get 5 T=some (vi (d:Nat))∧Tm.get 6 T=some (vi (t:Nat))∧Sub L (ent zI i (n,g)::(E++R))) (xs.length-(c+1)) ⟨c,c+1,g0,by omega,by omega,by rw [Qr hx0 hp0 hno0,List.length_take];omega,by rw [Qr hx0 hp0 hno0,Gi (en:=yK) (es:=1) (fun _=>rfl),←hg,Qx _ _ _ _ (Nat.mul_le_mul_right _ (by omega))],fun k x _ h2=>iV hen hg h2,by omega,rfl,rfl,rfl,rfl,rfl,Y⟩ ?_)))
 rintro j T L0 ⟨d,t,g,hd,ht,hk,hkc,hre,rfl,hl,g0,g1,g5,g6,hsb⟩
 obtain⟨tg,rfl⟩:=W7 hl g0 g1 g5 g6
 clear hl g0 g1 g5 g6
 refine zu hsb ?_
 clear hsb L0
 refine O0 5 J (zf rfl (fun _=>wD rfl rfl rfl rfl rfl) ?_)
 refine Z 1 J (z0 (fun h19=> ?_) (fun h19=> ?_))
 ·refine Z 9 J ?_
  obtain⟨x,hx⟩: ∃x,xs[t]? =some x:=⟨xs[t]'(by omega),List.getElem?_eq_getElem (by omega)⟩
  have hc:=hre t x (Nat.le_refl _) hx
  have hc1:g (t+off)=vi x:=by { have h1:zY g (t*1+off) 1= [vi x]:=hc;rw [Nat.mul_one]at h1;exact(List.cons.inj h1).1 }
  refine zf rfl (fun _=>ug rfl rfl rfl (by omega) (by omega)) ?_
  refine lf J Y hc1 (Z 6 J (zR (jn _ E R) ?_))
  refine Z0 (hf x (List.mem_iff_getElem?.2 ⟨_,hx⟩) _) J (zR (uu _ E R) ?_)
  refine zN (fun h28=> ?_) (fun h28=> ?_)
  ·refine Z 6 J (ad J (Z 2 J ?_))
   exact Or.inl ⟨rfl,_,by omega,d,t+1,g,by omega,by omega,by rw [gF hx,h28,if_pos rfl,List.append_nil];exact hk,by rw [gF hx,h28,if_pos rfl,List.append_nil];exact hkc,fun k y h1 h2=>hre k y (by omega) h2,rfl,rfl,rfl,rfl,rfl,rfl,Y⟩
  refine Z 8 J (zf rfl (fun _=>ug rfl rfl rfl (by omega) (by omega)) ?_)
  refine sF J Y J J (Z 3 J (ad J (Z 4 J (ad J (Z 2 J ?_)))))
  have hu:vK g (d+off) (vi x)=vL g (d*1+off) (yK x):=by rw [Nat.mul_one];exact lK _ _ _
  exact Or.inl ⟨rfl,_,by omega,d+1,t+1,vK g (d+off) (vi x),by omega,by omega,by rw [gF hx,h28,List.length_append,hk];rfl,by rw [hu];rw [gF hx,h28,List.flatMap_append,←hkc,Nat.add_comm (d*1) off,Nat.add_mul,Zc _ _ _ _ _ (by rfl)];rfl,fun k y h1 h2=>by { rw [hu];rw [ut _ _ _ _ _ (.inr (by show _+1≤_;omega))];exact hre k y (by omega) h2 },rfl,rfl,rfl,rfl,rfl,rfl,(show Sub (ent zI i (n,vK g (d+off) (vi x))::(E++R)) (ent zI i (n,vK g (d+off) (vi x))::(E++R))from Y)⟩
 refine Z 3 J (Or.inr ⟨nofun,?_⟩)
 refine OX 4 J (zf rfl (fun _=>rU rfl rfl rfl (by omega) (by omega) (fun k hk=>(hr.2 k hk).2)) ?_)
 refine bp rfl rfl rfl rfl rfl rfl rfl (by omega) fun zs hzs=> ?_
 refine Z 5 J (zf rfl (fun _=>UI rfl rfl rfl (by omega) (by omega) (fun k hk=>(hr.2 k hk).2)) ?_)
 refine Z 3 J (zE J J J ?_)
 have ht2:t=xs.length:=by omega
 subst ht2
 rw [List.take_length]at hk hkc
 refine⟨_,rfl,Sub.one fun h s=>el_close (en:=yK) (es:=1) (fun _=>rfl) (by decide) hk.symm ⟨?_,fun k hk=>⟨(hr.2 k hk).1,?_⟩⟩ ?_ h s⟩
 ·show off+d*_≤n;omega
 ·have:=(hr.2 k hk).2;show d≤k;omega
 show zY _ off (d*1)=_
 rw [←hkc];exact ut _ _ _ _ _ (.inl (by show off+d*1≤off+d*1;exact Nat.le_refl _))
def idxN (page level:Nat):Nat:=page/2^(3*(2-level))%8
theorem qV (page level:Nat):idxN page level<8:=Nat.mod_lt _ (by decide)
def zA.wordAt (M:zA) (t i:Nat):Nat:=M.rd ((8*t+i:Nat):Int)
theorem zA.rd_le {M:zA} (h:M.Ok) (z:Int):M.rd z≤18446744073709551615:=by
 unfold zA.rd zA.read
 split
 ·exact h.2.2 _ _
 exact Nat.zero_le _
structure gE where
 pl:List Int
 bits:Nat
 w:Bool
 u:Bool
 g:Bool
 fr:Nat
abbrev iJ (pv:AVal) (s:gE):List AVal:= [pv,vu s.bits,.bool s.w,.bool s.u,.bool s.g,vi (s.fr:Nat)]
def gE.Right (s:gE) (user write:Bool):Int:=if(user=true∧s.u=false)∨(write=true∧s.w=false)then 2 else 0
def zA.walk (M:zA) (page:Nat):Nat→gE→gE×Int
 |0,s=>(s,0)
 |k+1,s=>
  let i:=idxN page (2-k)
  let x:=M.wordAt s.fr i
  let pl:=s.pl++ [((8*s.fr+i:Nat):Int)]
  if eN x≠0 then(⟨pl,x,false,false,false,0⟩,if eN x=3 then 1 else 4)
  else if fN x<M.n then M.walk page k ⟨pl,x,s.w && wB x,s.u && uB x,gB x,fN x⟩
  else(⟨pl,x,false,false,false,0⟩,4)
def zA.walkTo (M:zA) (root page:Int):gE×Int:=if page<0∨512≤page then(⟨[],0,false,false,false,0⟩,3)
 else if 0≤root∧root<M.n then M.walk page.toNat 3 ⟨[],0,true,true,false,root.toNat⟩
 else(⟨[],0,false,false,false,0⟩,4)
def zA.blindFrom (M:zA) (page:Nat):Nat→Nat→List Int→Nat×Bool×Bool×List Int
 |0,t,pl=>(t,true,true,pl)
 |k+1,t,pl=>
  let i:=idxN page (2-k)
  let x:=M.wordAt t i
  let pl':=pl++ [((8*t+i:Nat):Int)]
  if eN x=3∧k=0 then(if rawN x<M.n then(rawN x,false,true,pl')else(0,false,false,pl'))
  else if eN x≠0 then(0,false,false,pl')
  else if fN x<M.n then M.blindFrom page k (fN x) pl' else(0,false,false,pl')
def zA.blind (M:zA) (root page:Int):Nat×Bool×Bool×List Int:=if page<0∨512≤page then(0,false,false,[])else if 0≤root∧root<M.n then M.blindFrom page.toNat 3 root.toNat []else(0,false,false,[])
theorem Wg (M:zA) (page k:Nat) (s:gE) (x:Nat) (i:Nat) (hi:i=idxN page (2-k)) (hx:x=M.wordAt s.fr i):M.walk page (k+1) s=if eN x≠0 then(⟨s.pl++ [((8*s.fr+i:Nat):Int)],x,false,false,false,0⟩,if eN x=3 then 1 else 4)
 else if fN x<M.n then M.walk page k ⟨s.pl++ [((8*s.fr+i:Nat):Int)],x,s.w && wB x,s.u && uB x,gB x,fN x⟩
 else(⟨s.pl++ [((8*s.fr+i:Nat):Int)],x,false,false,false,0⟩,4):=by
 subst hi hx;rfl
theorem U1 (M:zA) (page k t:Nat) (pl:List Int) (x:Nat) (i:Nat) (hi:i=idxN page (2-k)) (hx:x=M.wordAt t i):M.blindFrom page (k+1) t pl=if eN x=3∧k=0 then(if rawN x<M.n then(rawN x,false,true,pl++ [((8*t+i:Nat):Int)])else(0,false,false,pl++ [((8*t+i:Nat):Int)]))
 else if eN x≠0 then(0,false,false,pl++ [((8*t+i:Nat):Int)])
 else if fN x<M.n then M.blindFrom page k (fN x) (pl++ [((8*t+i:Nat):Int)])else(0,false,false,pl++ [((8*t+i:Nat):Int)]):=by
 subst hi hx;rfl
theorem oH (p c:Nat):((p/2^(3*(2-c)):Nat):Int)%8=((idxN p c:Nat):Int):=by unfold idxN;rw [Int.natCast_emod];rfl
theorem vR (R:List SP) (p c:Nat) (hp:p<512) (hc:c<3):zy 253 [vi p,vi c] (R) fun v L=>v=vi (idxN p c:Nat)∧L=R:=by
 refine SW.intro rfl Tryz.func253 rfl ?_
 refine O0 8 J (zf rfl (fun _=>zC rfl rfl rfl (QX rfl)) (qM (by omega) ?_))
 refine Z 2 J (zf rfl (fun _=>zC rfl rfl rfl (JL rfl)) (qM (by omega) ?_))
 refine Z 3 J (zf rfl (fun _=>zC rfl rfl rfl (QX rfl)) (qM (by omega) ?_))
 refine Z 3 J (zf rfl (fun _=>zC rfl rfl rfl (JL rfl)) (qM (by omega) ?_))
 refine Z 8 J (sb J (ml J (yn (w:=vi ((3*(2-c):Nat):Int)) (by congr 2;omega) ?_)))
 refine zf rfl (fun _=>zC rfl rfl rfl (b9 (a:=p) (b:=3*(2-c)) (by omega) (by show _≤64;omega))) ?_
 refine zf rfl (fun _=>zC rfl rfl rfl (bF (Int.natCast_nonneg _) (by decide))) ?_
 refine yn (congrArg vi (oH p c)) ?_
 exact Z 3 J (zE J J J fq)
theorem Us (R:List SP) (m:Nat) (M:zA) (z:Int):zy 240 [vp m 0,vi z] (ent zQ m M::R) fun v L=>v= .bool (decide (0≤z∧z<M.n))∧L=ent zQ m M::R:=by
 refine SW.intro rfl Tryz.func240 rfl ?_
 refine O0 8 J (z0 (fun h6=> ?_) (fun h6=> ?_))
 ·refine Z 3 J (Z1 (vk _ _ _) J Y (Z 5 J (zE J J J (⟨_,⟨yC ?_,rfl⟩,Y⟩))))
  simp;omega
 refine Z 9 J (zE J J J (⟨_,⟨yC ?_,rfl⟩,Y⟩))
 simp;omega
theorem tF (R:List SP) (m:Nat) (M:zA) (t p c:Nat) (ht:t<1099511627776) (hp:p<512) (hc:c<3):zy 241 [vp m 0,vi t,vi p,vi c] (ent zQ m M::R) fun v L=>v= .tuple [vu (M.wordAt t (idxN p c)),vi ((8*t+idxN p c:Nat):Int)]∧L=ent zQ m M::R:=by
 refine SW.intro rfl Tryz.func241 rfl ?_
 refine O0 8 J (ml J (Z 2 J ?_))
 have hi:=qV p c
 exact Z0 (vR _ _ _ (by omega) (by omega)) J (ad J (Z 6 J (Z1 (Wt _ _ _ _ (by omega)) J Y (Z 13 J (qO J J J J fq)))))
theorem rn (R:List SP) (e:Int):zy 259 [vi e] (R) fun v L=>v=vi (if e=3 then 1 else 4)∧L=R:=by
 refine SW.intro rfl Tryz.func259 rfl ?_
 refine O0 9 J (z0 (fun h4=> ?_) (fun h4=> ?_))
 ·refine Z 7 J (zE J J J ?_)
  rw [if_pos h4]
  exact fq
 refine Z 8 J (zE J J J ?_)
 rw [if_neg h4]
 exact fq
theorem bT (R:List SP) (pv:AVal) (s:gE) (user write:Bool):zy 230 [.agg (iJ pv s),.bool user,.bool write] (R) fun v L=>v=vi (s.Right user write)∧L=R:=by
 refine SW.intro rfl Tryz.func230 rfl ?_
 refine O0 2 J (yW rfl rfl rfl rfl fun i3=> ?_)
 refine Z 6 J (zN (fun h7=> ?_) (fun h7=> ?_))
 ·refine Z 1 J (fa J Y (ld J Y J (zN (fun h10=> ?_) (fun h10=> ?_))))
  ·refine Z 4 J (zN (fun h14=> ?_) (fun h14=> ?_))
   ·refine Z 1 J (fa J Y (ld J Y J (zN (fun h17=> ?_) (fun h17=> ?_))))
    ·refine Z 11 J (zE J J J (⟨_,⟨congrArg vi ?_,rfl⟩,Y⟩))
     unfold gE.Right
     simp [h7,h10,h14,h17]
    refine Z 10 J (zE J J J (⟨_,⟨congrArg vi ?_,rfl⟩,Y⟩))
    unfold gE.Right
    simp [h7,h10,h14,h17]
   refine Z 14 J (zE J J J (⟨_,⟨congrArg vi ?_,rfl⟩,Y⟩))
   unfold gE.Right
   simp [h7,h10,h14]
  refine Z 17 J (zE J J J (⟨_,⟨congrArg vi ?_,rfl⟩,Y⟩))
  unfold gE.Right
  simp [h7,h10]
 refine Z 7 J (zN (fun h14=> ?_) (fun h14=> ?_))
 ·refine Z 1 J (fa J Y (ld J Y J (zN (fun h17=> ?_) (fun h17=> ?_))))
  ·refine Z 11 J (zE J J J (⟨_,⟨congrArg vi ?_,rfl⟩,Y⟩))
   unfold gE.Right
   simp [h7,h14,h17]
  refine Z 10 J (zE J J J (⟨_,⟨congrArg vi ?_,rfl⟩,Y⟩))
  unfold gE.Right
  simp [h7,h14,h17]
 refine Z 14 J (zE J J J (⟨_,⟨congrArg vi ?_,rfl⟩,Y⟩))
 unfold gE.Right
 simp [h7,h14]
theorem iU (R:List SP) (m:Nat) (M:zA) (root page:Int):zy 229 [vp m 0,vi root,vi page] (ent zQ m M::R) fun w L=> ∃pv,w= .tuple [.agg (iJ pv (M.walkTo root page).1),vi (M.walkTo root page).2]∧L=ent (zP yK 1) pv (M.walkTo root page).1.pl::ent zQ m M::R:=by
 refine yQ (qD m M) fun hM=> ?_
 have hn:=hM.2.1
 refine SW.intro rfl Tryz.func229 rfl ?_
 refine O0 2 J (zd rfl rfl rfl fun i6=> ?_)
 refine Z 7 J (z0 (fun h15=> ?_) (fun h15=> ?_))
 ·refine Z 8 J (bu [_,_,_,_,_,_] J Y Y J (sN J Y Y J J J (Z 3 J (⟨.inr rfl,_,fun _ h=>(zi (y8 rfl (yS rfl (Nat.le_of_ble_eq_true rfl) h)) (zi (za rfl) q7)),?_⟩))))
  have e:M.walkTo root page=(⟨[],0,false,false,false,0⟩,3):=by { unfold zA.walkTo;rw [if_pos (by omega)] }
  rw [e]
  exact⟨_,⟨_,rfl,rfl⟩,(Sub.nilE (α:=Int) (en:=yK) (es:=1) (fun _=>rfl) (by decide) 0 _).trans Y⟩
 refine Z 3 J (z0 (fun h18=> ?_) (fun h18=> ?_))
 ·refine Z 5 J (bu [_,_,_,_,_,_] J Y Y J (sN J Y Y J J J (Z 3 J (⟨.inr rfl,_,fun _ h=>(zi (y8 rfl (yS rfl (Nat.le_of_ble_eq_true rfl) h)) (zi (za rfl) q7)),?_⟩))))
  have e:M.walkTo root page=(⟨[],0,false,false,false,0⟩,3):=by { unfold zA.walkTo;rw [if_pos (by omega)] }
  rw [e]
  exact⟨_,⟨_,rfl,rfl⟩,(Sub.nilE (α:=Int) (en:=yK) (es:=1) (fun _=>rfl) (by decide) 0 _).trans Y⟩
 refine Z 9 J (Z1 (Us _ _ M _) J Y (z0 (fun h23=> ?_) (fun h23=> ?_)))
 ·refine Z 7 J (bu [_,_,_,_,_,_] J Y Y J (zd rfl rfl rfl fun i8=> ?_))
  refine sN J Y Y J J J (Z 7 J ?_)
  obtain⟨pg,rfl⟩: ∃pg:Nat,page=pg:=⟨page.toNat,by omega⟩
  have e0:M.walkTo root pg=M.walk pg 3 ⟨[],0,true,true,false,root.toNat⟩:=by { unfold zA.walkTo;rw [if_neg (by omega),if_pos (by omega)];rfl }
  refine zl (fun j T L=> ∃(c:Nat) (s:gE) (pv:AVal),(c≤3)∧(s.pl.length=c)∧(s.fr<M.n)∧(M.walk pg (3-c) s=M.walk pg 3 ⟨[],0,true,true,false,root.toNat⟩)∧j=3-c∧T.len=6∧Tm.get 0 T=some (vp m 0)∧Tm.get 2 T=some (vi (pg:Nat))∧Tm.get 6 T=some (vp i6 0)∧Tm.get 8 T=some (vp i8 0)∧Tm.get 28 T=some (vi (c:Nat))∧Sub L (ent z8 i8 (iJ pv s)::ent z8 i6 (iJ (.slice none 0 (some 0) 0) ⟨[],0,false,false,false,0⟩)::ent (zP yK 1) pv s.pl::ent zQ m M::R)) (3) ⟨0,⟨[],0,true,true,false,root.toNat⟩,.slice none 0 (some 0) 0,by omega,rfl,by show root.toNat<M.n;omega,rfl,by omega,rfl,rfl,rfl,rfl,rfl,rfl,((Sub.nilE (α:=Int) (en:=yK) (es:=1) (fun _=>rfl) (by decide) 0 _).trans (by have e:vi root=vi ((root.toNat:Nat):Int):=(by rw [Int.toNat_of_nonneg (by omega)]);rw [e];exact(show Sub _ (ent z8 i8 [.slice none 0 (some 0) 0,.int .u64 (.lit 0),.bool true,.bool true,.bool false,vi ((root.toNat:Nat):Int)]::ent z8 i6 (AVal.agg [.slice none 0 (some 0) 0,.int .u64 (.lit 0),.bool false,.bool false,.bool false,.int .i64 (.lit 0)]).cells::ent (zP yK 1) (.slice none 0 (some 0) 0) []::ent zQ m M::R)from Y)))⟩ ?_
  rintro j T L0 ⟨c,s,pv,hc,hlen,hfr,hwk,rfl,hl,g0,g2,g6,g8,g28,hsb⟩
  obtain⟨tg,rfl⟩:=ef hl g0 g2 g6 g8 g28
  clear hl g0 g2 g6 g8 g28
  refine zu hsb ?_
  clear hsb L0
  refine YO (v:=pv) fun a1 c1 e1 hv hz=> ?_
  subst hv
  refine O0 3 J (z0 (fun h29=> ?_) (fun h29=> ?_))
  ·refine Z 14 J (fa J Y (ld J Y J (Z 2 J (Z1 (tF _ _ M _ _ _ (by omega) (by omega) (by omega)) J Y ?_))))
   generalize hi:idxN pg c=i
   generalize hx:M.wordAt s.fr i=x
   have hxl:x≤18446744073709551615:=by { rw [←hx];exact zA.rd_le hM _ }
   have hi8:i<8:=by { rw [←hi];exact qV _ _ }
   rw [show 3-c=(2-c)+1 by omega,Wg M pg (2-c) s x i (by rw [←hi,show 2-(2-c)=c by omega]) hx.symm]at hwk
   refine Z 8 J (fa J Y (ld J Y J (Z 1 J (zT (cs:= [_]) rfl rfl rfl (by decide) rfl fun i43=> ?_))))
   refine gV rfl rfl rfl rfl rfl rfl rfl ([((8*s.fr+i:Nat):Int)]) rfl rfl (by simp) (by show _+1≤_;omega) rfl fun i44 q44 c44=> ?_
   refine Z 1 J (fa J Y (sO J Y J J J (fa J Y (sO J Y J J J (Z 4 J (Z0 (Ud _ x hxl) J (Z 3 J (zd rfl rfl rfl fun i12=> ?_))))))))
   refine sN J Y Y J J J (Z 6 J ?_)
   have hf8:=cL x
   refine Z 1 J (z0 (fun h54=> ?_) (fun h54=> ?_))
   ·refine Z 3 J (zO [0,1,0,7,0,16,63,127] [([0,1,2,3,4],[1],some 5),([],[1],some 6),([7],[],none)] (by kernel_rfl) ?_)
    refine z4 (zj J Y (ye J Y J (ZK 1 J (p7 [_,_,_,_,_,_] J Y Y J (ZK 1 J (z5 ⟨(y6 J Y J J J z6),?_⟩))))))
    refine Z0 (rn _ _) J (zF (z4 (z5 ⟨(y6 J Y J J J z6),?_⟩)))
    refine sN J Y Y J J J (zF (z4 (ZK 1 J (z5 ⟨z6,?_⟩))))
    refine OX 1 J (Or.inr ⟨nofun,?_⟩)
    refine⟨.inr rfl,_,fun _ h=>(zi (y8 rfl (yS rfl (Nat.le_of_ble_eq_true rfl) h)) (zi (za rfl) q7)),?_⟩
    rw [if_pos h54]at hwk
    rw [e0,←hwk]
    exact⟨_,⟨_,rfl,rfl⟩,Y⟩
   refine Z 7 J (fa J Y (ld J Y J (Z1 (Us _ _ M _) J Y (z0 (fun h64=> ?_) (fun h64=> ?_)))))
   ·refine Z 4 J (zO [0,1,3,7,15,31,0,64,199,455,967,1991,0,4096,0,16384,255,66047,200703,462847,999423,2047999,4194303,8388607] [([0,1,2,3,4,5,6,7,8,9,10,11,12,13,14,15,16],[1,4,7,10,13,15],some 17),([18],[10,13,15],some 19),([20],[13,15],some 21),([22],[15],some 23),([],[],none)] (by kernel_rfl) ?_)
    refine z4 (zj J Y (ye J Y J (uT (fun h71=> ?_) (fun h71=> ?_))))
    ·refine ZK 1 J (zj J Y (ye J Y J (ZK 1 J (js (w:= .bool (s.w && wB x)) (by rw [h71];rfl) ?_))))
     refine zj J Y (ye J Y J (uT (fun h77=> ?_) (fun h77=> ?_)))
     ·refine ZK 1 J (zj J Y (ye J Y J (ZK 1 J (js (w:= .bool (s.u && uB x)) (by rw [h77];rfl) ?_))))
      refine zj J Y (ye J Y J (zj J Y (ye J Y J (zj J Y (z5 ⟨(wV rfl (fun _ h=>Zp rfl rfl rfl h) rfl rfl (jg h71) (y6 J Y J J J (wV rfl (fun _ h=>Zp rfl rfl rfl h) rfl rfl (jg h77) (y6 J Y J J J (y6 J Y J J J (y6 J Y J J J z6)))))),?_⟩)))))
      refine sO J Y J J J (zF (z4 (zj J Y (z5 ⟨(y6 J Y J J J (y6 J Y J J J (y6 J Y J J J z6))),?_⟩))))
      refine sO J Y J J J (zF (z4 (zj J Y (z5 ⟨(y6 J Y J J J (y6 J Y J J J z6)),?_⟩))))
      refine sO J Y J J J (zF (z4 (zj J Y (z5 ⟨(y6 J Y J J J z6),?_⟩))))
      refine sO J Y J J J (zF (z4 (z5 ⟨z6,?_⟩)))
      refine OX 1 J (ad J (Z 2 J ?_))
      rw [if_neg h54,if_pos (by omega)]at hwk
      exact Or.inl ⟨rfl,_,by omega,c+1,⟨s.pl++ [((8*s.fr+i:Nat):Int)],x,s.w && wB x,s.u && uB x,gB x,fN x⟩,.slice (some (i44,q44)) (s.pl.length+1) c44 1,by omega,by show(s.pl++ [_]).length=c+1;rw [List.length_append,hlen];rfl,by show fN x<M.n;omega,by rw [←hwk,show 3-(c+1)=2-c by omega],rfl,rfl,rfl,rfl,rfl,rfl,rfl,Y⟩
     refine ZK 4 J (js (w:= .bool (s.u && uB x)) (by rw [h77];rfl) ?_)
     refine zj J Y (ye J Y J (zj J Y (ye J Y J (zj J Y (z5 ⟨(wV rfl (fun _ h=>Zp rfl rfl rfl h) rfl rfl (jg h71) (y6 J Y J J J (wV rfl (fun _ h=>Zp rfl rfl rfl h) rfl rfl (jg h77) (zx rfl (y6 J Y J J J (y6 J Y J J J z6)))))),?_⟩)))))
     refine sO J Y J J J (zF (z4 (zj J Y (z5 ⟨(zx rfl (y6 J Y J J J (y6 J Y J J J z6))),?_⟩))))
     refine sO J Y J J J (zF (z4 (zj J Y (z5 ⟨(y6 J Y J J J (y6 J Y J J J z6)),?_⟩))))
     refine sO J Y J J J (zF (z4 (zj J Y (z5 ⟨(y6 J Y J J J z6),?_⟩))))
     refine sO J Y J J J (zF (z4 (z5 ⟨z6,?_⟩)))
     refine OX 1 J (ad J (Z 2 J ?_))
     rw [if_neg h54,if_pos (by omega)]at hwk
     exact Or.inl ⟨rfl,_,by omega,c+1,⟨s.pl++ [((8*s.fr+i:Nat):Int)],x,s.w && wB x,s.u && uB x,gB x,fN x⟩,.slice (some (i44,q44)) (s.pl.length+1) c44 1,by omega,by show(s.pl++ [_]).length=c+1;rw [List.length_append,hlen];rfl,by show fN x<M.n;omega,by rw [←hwk,show 3-(c+1)=2-c by omega],rfl,rfl,rfl,rfl,rfl,rfl,rfl,Y⟩
    refine ZK 4 J (js (w:= .bool (s.w && wB x)) (by rw [h71];rfl) ?_)
    refine zj J Y (ye J Y J (uT (fun h77=> ?_) (fun h77=> ?_)))
    ·refine ZK 1 J (zj J Y (ye J Y J (ZK 1 J (js (w:= .bool (s.u && uB x)) (by rw [h77];rfl) ?_))))
     refine zj J Y (ye J Y J (zj J Y (ye J Y J (zj J Y (z5 ⟨(wV rfl (fun _ h=>Zp rfl rfl rfl h) rfl rfl (jg h71) (zx rfl (wV rfl (fun _ h=>Zp rfl rfl rfl h) rfl rfl (jg h77) (y6 J Y J J J (y6 J Y J J J (y6 J Y J J J z6)))))),?_⟩)))))
     refine sO J Y J J J (zF (z4 (zj J Y (z5 ⟨(y6 J Y J J J (y6 J Y J J J (y6 J Y J J J z6))),?_⟩))))
     refine sO J Y J J J (zF (z4 (zj J Y (z5 ⟨(y6 J Y J J J (y6 J Y J J J z6)),?_⟩))))
     refine sO J Y J J J (zF (z4 (zj J Y (z5 ⟨(y6 J Y J J J z6),?_⟩))))
     refine sO J Y J J J (zF (z4 (z5 ⟨z6,?_⟩)))
     refine OX 1 J (ad J (Z 2 J ?_))
     rw [if_neg h54,if_pos (by omega)]at hwk
     exact Or.inl ⟨rfl,_,by omega,c+1,⟨s.pl++ [((8*s.fr+i:Nat):Int)],x,s.w && wB x,s.u && uB x,gB x,fN x⟩,.slice (some (i44,q44)) (s.pl.length+1) c44 1,by omega,by show(s.pl++ [_]).length=c+1;rw [List.length_append,hlen];rfl,by show fN x<M.n;omega,by rw [←hwk,show 3-(c+1)=2-c by omega],rfl,rfl,rfl,rfl,rfl,rfl,rfl,Y⟩
    refine ZK 4 J (js (w:= .bool (s.u && uB x)) (by rw [h77];rfl) ?_)
    refine zj J Y (ye J Y J (zj J Y (ye J Y J (zj J Y (z5 ⟨(wV rfl (fun _ h=>Zp rfl rfl rfl h) rfl rfl (jg h71) (zx rfl (wV rfl (fun _ h=>Zp rfl rfl rfl h) rfl rfl (jg h77) (zx rfl (y6 J Y J J J (y6 J Y J J J z6)))))),?_⟩)))))
    refine sO J Y J J J (zF (z4 (zj J Y (z5 ⟨(zx rfl (y6 J Y J J J (y6 J Y J J J z6))),?_⟩))))
    refine sO J Y J J J (zF (z4 (zj J Y (z5 ⟨(y6 J Y J J J (y6 J Y J J J z6)),?_⟩))))
    refine sO J Y J J J (zF (z4 (zj J Y (z5 ⟨(y6 J Y J J J z6),?_⟩))))
    refine sO J Y J J J (zF (z4 (z5 ⟨z6,?_⟩)))
    refine OX 1 J (ad J (Z 2 J ?_))
    rw [if_neg h54,if_pos (by omega)]at hwk
    exact Or.inl ⟨rfl,_,by omega,c+1,⟨s.pl++ [((8*s.fr+i:Nat):Int)],x,s.w && wB x,s.u && uB x,gB x,fN x⟩,.slice (some (i44,q44)) (s.pl.length+1) c44 1,by omega,by show(s.pl++ [_]).length=c+1;rw [List.length_append,hlen];rfl,by show fN x<M.n;omega,by rw [←hwk,show 3-(c+1)=2-c by omega],rfl,rfl,rfl,rfl,rfl,rfl,rfl,Y⟩
   refine Z 5 J (fa J Y (ld J Y J (Z 1 J (bu [_,_,_,_,_,_] J Y Y J (sN J Y Y J J J (Z 3 J (Or.inr ⟨nofun,?_⟩)))))))
   refine⟨.inr rfl,_,fun _ h=>(zi (y8 rfl (yS rfl (Nat.le_of_ble_eq_true rfl) h)) (zi (za rfl) q7)),?_⟩
   rw [if_neg h54,if_neg (by omega)]at hwk
   rw [e0,←hwk]
   exact⟨_,⟨_,rfl,rfl⟩,Y⟩
  refine Z 4 J (Or.inr ⟨nofun,?_⟩)
  refine OX 2 J (lN J Y Y J J (sN J Y Y J J J (Z 3 J (⟨.inr rfl,_,fun _ h=>(zi (y8 rfl (yS rfl (Nat.le_of_ble_eq_true rfl) h)) (zi (za rfl) q7)),?_⟩))))
  have hc3:c=3:=by omega
  subst hc3
  have hw:M.walk pg 3 ⟨[],0,true,true,false,root.toNat⟩=(s,0):=by { rw [←hwk];rfl }
  rw [e0,hw]
  exact⟨_,⟨_,rfl,rfl⟩,Y⟩
 refine Z 5 J (bu [_,_,_,_,_,_] J Y Y J (sN J Y Y J J J (Z 3 J (⟨.inr rfl,_,fun _ h=>(zi (y8 rfl (yS rfl (Nat.le_of_ble_eq_true rfl) h)) (zi (za rfl) q7)),?_⟩))))
 have e:M.walkTo root page=(⟨[],0,false,false,false,0⟩,4):=by { unfold zA.walkTo;rw [if_neg (by omega),if_neg (by omega)] }
 rw [e]
 exact⟨_,⟨_,rfl,rfl⟩,(Sub.nilE (α:=Int) (en:=yK) (es:=1) (fun _=>rfl) (by decide) 0 _).trans Y⟩
theorem lX (R:List SP) (m:Nat) (M:zA) (root page:Int):zy 199 [vp m 0,vi root,vi page] (ent zQ m M::R) fun w L=> ∃pv,w= .tuple [vi ((M.blind root page).1:Nat),.bool (M.blind root page).2.1,.bool (M.blind root page).2.2.1,pv]∧L=ent (zP yK 1) pv (M.blind root page).2.2.2::ent zQ m M::R:=by
 refine yQ (qD m M) fun hM=> ?_
 have hn:=hM.2.1
 refine SW.intro rfl Tryz.func199 rfl ?_
 refine O0 12 J (z0 (fun h17=> ?_) (fun h17=> ?_))
 ·refine Z 20 J (⟨.inr rfl,_,fun _ h=>(zi (za rfl) (zi (za rfl) (zi (za rfl) (zi (za rfl) q7)))),?_⟩)
  have e:M.blind root page=(0,false,false,[]):=by { unfold zA.blind;rw [if_pos (by omega)] }
  rw [e]
  exact⟨_,⟨_,rfl,rfl⟩,(Sub.nilE (α:=Int) (en:=yK) (es:=1) (fun _=>rfl) (by decide) 0 _).trans Y⟩
 refine Z 3 J (z0 (fun h20=> ?_) (fun h20=> ?_))
 ·refine Z 17 J (⟨.inr rfl,_,fun _ h=>(zi (za rfl) (zi (za rfl) (zi (za rfl) (zi (za rfl) q7)))),?_⟩)
  have e:M.blind root page=(0,false,false,[]):=by { unfold zA.blind;rw [if_pos (by omega)] }
  rw [e]
  exact⟨_,⟨_,rfl,rfl⟩,(Sub.nilE (α:=Int) (en:=yK) (es:=1) (fun _=>rfl) (by decide) 0 _).trans Y⟩
 refine Z 4 J (Z1 (Us _ _ M _) J Y (z0 (fun h25=> ?_) (fun h25=> ?_)))
 ·refine Z 7 J ?_
  obtain⟨rt,rfl⟩: ∃rt:Nat,root=rt:=⟨root.toNat,by omega⟩
  refine Z 9 J ?_
  obtain⟨pg,rfl⟩: ∃pg:Nat,page=pg:=⟨page.toNat,by omega⟩
  have e0:M.blind rt pg=M.blindFrom pg 3 rt []:=by { unfold zA.blind;rw [if_neg (by omega),if_pos (by omega)];rfl }
  refine zl (fun j T L=> ∃(c t:Nat) (pl:List Int) (pv:AVal) (b:Bool),(b=decide (c=3))∧(c≤3)∧(pl.length=c)∧(t<M.n)∧(M.blindFrom pg (3-c) t pl=M.blindFrom pg 3 rt [])∧j=3-c∧T.len=5∧Tm.get 0 T=some (vp m 0)∧Tm.get 2 T=some (vi (pg:Nat))∧Tm.get 7 T=some (.bool b)∧Tm.get 8 T=some (.bool false)∧Tm.get 9 T=some (pv)∧Tm.get 10 T=some (vi (t:Nat))∧Tm.get 29 T=some (vi (c:Nat))∧Sub L (ent (zP yK 1) pv pl::ent zQ m M::R)) (3) ⟨0,rt,[],.slice none 0 (some 0) 0,false,rfl,by omega,rfl,by omega,rfl,by omega,rfl,rfl,rfl,rfl,rfl,rfl,rfl,rfl,(Sub.nilE (α:=Int) (en:=yK) (es:=1) (fun _=>rfl) (by decide) 0 _)⟩ ?_
  rintro j T L0 ⟨c,t,pl,pv,b,hb,hc,hlen,ht,hwk,rfl,hl,g0,g2,g7,g8,g9,g10,g29,hsb⟩
  obtain⟨tg,rfl⟩:=Cw hl g0 g2 g7 g8 g9 g10 g29
  clear hl g0 g2 g7 g8 g9 g10 g29
  refine zu hsb ?_
  clear hsb L0
  refine O0 3 J (z0 (fun h30=> ?_) (fun h30=> ?_))
  ·refine Z 17 J (Z1 (tF _ _ M t pg c (by omega) (by omega) (by omega)) J Y ?_)
   generalize hi:idxN pg c=i
   generalize hx:M.wordAt t i=x
   have hxl:x≤18446744073709551615:=by { rw [←hx];exact zA.rd_le hM _ }
   have hi8:i<8:=by { rw [←hi];exact qV _ _ }
   rw [show 3-c=(2-c)+1 by omega,U1 M pg (2-c) t pl x i (by rw [←hi,show 2-(2-c)=c by omega]) hx.symm]at hwk
   have hf8:=cL x
   have hr8:=Jb x
   refine Z 10 J (zT (cs:= [_]) rfl rfl rfl (by decide) rfl fun i42=> ?_)
   refine gV rfl rfl rfl rfl rfl rfl rfl ([((8*t+i:Nat):Int)]) rfl rfl (by simp) (by show _+1≤_;omega) rfl fun i43 q43 c43=> ?_
   refine Z 5 J (Z0 (Ud _ x hxl) J (Z 3 J (zd rfl rfl rfl fun i14=> ?_)))
   refine sN J Y Y J J J (Z 7 J (z0 (fun h50=> ?_) (fun h50=> ?_)))
   ·refine Z 3 J (z0 (fun h53=> ?_) (fun h53=> ?_))
    ·refine Z 6 J (Z0 (iR _ x hxl) J (Z 3 J (Or.inr ⟨nofun,?_⟩)))
     refine OX 5 J (Z1 (Us _ _ M _) J Y (z0 (fun h72=> ?_) (fun h72=> ?_)))
     ·refine Z 15 J (⟨.inr rfl,_,fun _ h=>(zi (za rfl) (zi (za rfl) (zi (za rfl) (zi (za rfl) q7)))),?_⟩)
      have hb2:b=false:=by { rw [hb];exact decide_eq_false (by omega) }
      subst hb2
      rw [if_pos (by omega),if_pos (by omega)]at hwk
      rw [e0,←hwk]
      exact⟨_,⟨_,rfl,rfl⟩,Y⟩
     refine Z 12 J (⟨.inr rfl,_,fun _ h=>(zi (za rfl) (zi (za rfl) (zi (za rfl) (zi (za rfl) q7)))),?_⟩)
     rw [if_pos (by omega),if_neg (by omega)]at hwk
     rw [e0,←hwk]
     exact⟨_,⟨_,rfl,rfl⟩,Y⟩
    refine Z 9 J (z0 (fun h58=> ?_) (fun h58=> ?_))
    ·refine Z 11 J (Or.inr ⟨nofun,?_⟩)
     refine⟨.inr rfl,_,fun _ h=>(zi (za rfl) (zi (za rfl) (zi (za rfl) (zi (za rfl) q7)))),?_⟩
     rw [if_neg (by omega),if_pos h58]at hwk
     rw [e0,←hwk]
     exact⟨_,⟨_,rfl,rfl⟩,Y⟩
    refine Z 5 J (fa J Y (ld J Y J (Z 2 J (yn (w:= .bool (decide (c+1=3))) (by congr 1;rw [decide_eq_decide];omega) ?_))))
    refine Z 7 J (Z1 (Us _ _ M _) J Y (z0 (fun h66=> ?_) (fun h66=> ?_)))
    ·refine Z 5 J (ad J (Z 2 J ?_))
     rw [if_neg (by omega),if_neg h58,if_pos (by omega)]at hwk
     exact Or.inl ⟨rfl,_,by omega,c+1,fN x,pl++ [((8*t+i:Nat):Int)],.slice (some (i43,q43)) (pl.length+1) c43 1,decide (c+1=3),rfl,by omega,by rw [List.length_append,hlen];rfl,by omega,by rw [←hwk,show 3-(c+1)=2-c by omega],rfl,rfl,rfl,rfl,rfl,rfl,rfl,rfl,rfl,Y⟩
    refine Z 12 J (Or.inr ⟨nofun,?_⟩)
    refine⟨.inr rfl,_,fun _ h=>(zi (za rfl) (zi (za rfl) (zi (za rfl) (zi (za rfl) q7)))),?_⟩
    rw [if_neg (by omega),if_neg h58,if_neg (by omega)]at hwk
    rw [e0,←hwk]
    exact⟨_,⟨_,rfl,rfl⟩,Y⟩
   refine Z 12 J (z0 (fun h58=> ?_) (fun h58=> ?_))
   ·refine Z 11 J (Or.inr ⟨nofun,?_⟩)
    refine⟨.inr rfl,_,fun _ h=>(zi (za rfl) (zi (za rfl) (zi (za rfl) (zi (za rfl) q7)))),?_⟩
    rw [if_neg (by omega),if_pos h58]at hwk
    rw [e0,←hwk]
    exact⟨_,⟨_,rfl,rfl⟩,Y⟩
   refine Z 5 J (fa J Y (ld J Y J (Z 2 J (yn (w:= .bool (decide (c+1=3))) (by congr 1;rw [decide_eq_decide];omega) ?_))))
   refine Z 7 J (Z1 (Us _ _ M _) J Y (z0 (fun h66=> ?_) (fun h66=> ?_)))
   ·refine Z 5 J (ad J (Z 2 J ?_))
    rw [if_neg (by omega),if_neg h58,if_pos (by omega)]at hwk
    exact Or.inl ⟨rfl,_,by omega,c+1,fN x,pl++ [((8*t+i:Nat):Int)],.slice (some (i43,q43)) (pl.length+1) c43 1,decide (c+1=3),rfl,by omega,by rw [List.length_append,hlen];rfl,by omega,by rw [←hwk,show 3-(c+1)=2-c by omega],rfl,rfl,rfl,rfl,rfl,rfl,rfl,rfl,rfl,Y⟩
   refine Z 12 J (Or.inr ⟨nofun,?_⟩)
   refine⟨.inr rfl,_,fun _ h=>(zi (za rfl) (zi (za rfl) (zi (za rfl) (zi (za rfl) q7)))),?_⟩
   rw [if_neg (by omega),if_neg h58,if_neg (by omega)]at hwk
   rw [e0,←hwk]
   exact⟨_,⟨_,rfl,rfl⟩,Y⟩
  refine Z 4 J (Or.inr ⟨nofun,?_⟩)
  refine OX 5 J (Z1 (Us _ _ M _) J Y (z0 (fun h72=> ?_) (fun h72=> ?_)))
  ·refine Z 15 J (⟨.inr rfl,_,fun _ h=>(zi (za rfl) (zi (za rfl) (zi (za rfl) (zi (za rfl) q7)))),?_⟩)
   have hc3:c=3:=by omega
   subst hc3
   rw [decide_eq_true rfl]at hb
   subst hb
   have hw:M.blindFrom pg 3 rt []=(t,true,true,pl):=by { rw [←hwk];rfl }
   rw [e0,hw]
   exact⟨_,⟨_,rfl,rfl⟩,Y⟩
  refine Z 12 J (⟨.inr rfl,_,fun _ h=>(zi (za rfl) (zi (za rfl) (zi (za rfl) (zi (za rfl) q7)))),?_⟩)
  exfalso
  omega
 refine Z 12 J (⟨.inr rfl,_,fun _ h=>(zi (za rfl) (zi (za rfl) (zi (za rfl) (zi (za rfl) q7)))),?_⟩)
 have e:M.blind root page=(0,false,false,[]):=by { unfold zA.blind;rw [if_neg (by omega),if_neg (by omega)] }
 rw [e]
 exact⟨_,⟨_,rfl,rfl⟩,(Sub.nilE (α:=Int) (en:=yK) (es:=1) (fun _=>rfl) (by decide) 0 _).trans Y⟩
end Go.Proofs.YtlhcpplnlgehbaaGreat
