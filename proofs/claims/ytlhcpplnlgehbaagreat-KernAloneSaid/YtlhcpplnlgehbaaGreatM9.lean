/- Part of the proof: KKern5, KKern6, KBootS, KBoot, KAl, PIn, KPlay, KPlay2. Names and blanks are cut short to keep within the size of a claim. -/
import Derived.Test.YtlhcpplnlgehbaaGreatM3
import Derived.Test.YtlhcpplnlgehbaaGreatM4
import Derived.Test.YtlhcpplnlgehbaaGreatM8
set_option linter.unusedVariables false
set_option linter.unusedSimpArgs false
set_option maxRecDepth 100000
namespace Go.Proofs.YtlhcpplnlgehbaaGreat
open Go Go.RowKit Go.Px
theorem bP {w:Nat→Nat} {code:List qG} {pc:Int} {i:qG} (h:wP code pc=some i) (h7:i.op≠7) (h3: ¬(i.op=3∨i.op=4∨i.op=5)): ∃w2 p2,wc w code pc=some (w2,p2):=by
 have hk:=TK (VS h)
 unfold wc
 rw [h]
 dsimp only
 by_cases e1:i.op=1
 ·rw [if_pos e1];exact⟨_,_,rfl⟩
 rw [if_neg e1]
 by_cases e2:i.op=2
 ·rw [if_pos e2];exact⟨_,_,rfl⟩
 rw [if_neg e2,if_pos (by omega)]
 split<;>exact⟨_,_,rfl⟩
theorem uN {S:KS} {c p:Nat} {x:qB} {i:qG} (hq:S.Q.zQ (c:Nat)=(p:Nat)) (hx:S.pr p=some x) (hi:wP x.code x.pc=some i):S.Qt c=(true,S.ug c p x i):=by
 unfold KS.Qt
 rw [hq,show((p:Nat):Int).toNat=p from rfl,hx]
 dsimp only
 rw [hi]
theorem pn {S:KS} {c p:Nat} {x:qB} (hq:S.Q.zQ (c:Nat)=(p:Nat)) (hx:S.pr p=some x) (hi:wP x.code x.pc=none):S.Qt c=(false,S):=by
 unfold KS.Qt
 rw [hq,show((p:Nat):Int).toNat=p from rfl,hx]
 dsimp only
 rw [hi]
theorem Dn {S:KS} {c:Nat} (hc:c<S.Q.n):(S.pick c).Q.zQ (c:Nat)=(S.Q.pick c).1:=by
 show(S.Q.pick c).2.zQ (c:Nat)=_
 unfold zg.zQ
 rw [zg.u5,if_pos (by omega)]
 exact(S.Q.GC c hc).2.1
theorem Nh (R:List SP) (k:Nat) (L:KL) (S:KS) (b:Nat) (gF:S.yv b) (hb:b≤300) (hg:S.N.gen≤900000000) (c:Nat) (hc:c<S.Q.n):yH 53 [vp k 0,vi c] (z3 yA k (L,S)::R) fun w L2=>w= .bool (S.run c).1∧L2=z3 yA k (L,(S.run c).2)::R:=by
 refine ze (yB k L S) fun y _=> ?_
 dsimp only [yV,List.cons_append,List.nil_append]
 refine SW.intro rfl Tryz.func53 rfl ?_
 refine O0 8 J (fa J Y (lf J Y UL (Z 1 J (Z1 (Jt _ _ S.Q (c:Nat)) J Y (Z 7 J (z5 (fun YM=> ?_) (fun YM=> ?_)))))))
 ·refine Z 7 J (fa J Y (lf J Y UL (Z 1 J (Z1 (GL _ _ S.Q (c:Nat)) J Y (zd (Sub.trans ?_ (uh (k:=k) (R:=R) (L:=L) (S:=S) (S':=S.pick c) (y:=y) (y':=y) (zg.u5 _ _) (fun _=>rfl) rfl rfl (show kF L S y=kF L (S.pick c) y from rfl))) ?_)))))
  ·exact Y
  have Wp:=gF.pick hc
  have kh:c<(S.pick c).Q.n:=by { show c<(S.Q.pick c).2.n;rw [zg.u5];exact hc }
  refine Z 6 J (z5 (fun Ja=> ?_) (fun Ja=> ?_))
  ·refine Z 7 J (zI J J J ?_)
   have e:S.run c=(false,S.pick c):=by { unfold KS.run;rw [if_pos YM,if_pos Ja] }
   rw [e]
   exact fq
  refine Z 6 J (Z1 (gO _ _ _ (S.pick c) c kh Wp.runs (by have:(S.pick c).N.gen=S.N.gen:=rfl;omega)) J Y ?_)
  obtain⟨SS,dM⟩: ∃SS,SS=(S.pick c).leave c:=⟨_,rfl⟩
  have XX:=jV (S.pick c) c
  have hlg:=gx Wp c
  have G3:=Wp.leave c
  rw [←dM]at XX hlg G3 ⊢
  have Ce:c<SS.Q.n:=by rw [XX.2.1];exact kh
  have HW:SS.N.gen≤1000000000:=by { have:(S.pick c).N.gen=S.N.gen:=rfl;omega }
  have Rr:SS.Q.zQ (c:Nat)=(S.Q.pick c).1:=by rw [XX.2.1,Dn hc]
  have Rd:0≤SS.Q.zQ (c:Nat):=by rw [Rr];omega
  have uZ:S.run c=SS.Qt c:=by { rw [dM];exact(if_pos YM).trans (if_neg Ja) }
  rw [←Rr]
  refine Z 3 J ?_
  obtain⟨au,x,Wr⟩:=G3.runs c Ce Rd
  obtain⟨p,YN⟩: ∃p:Nat,SS.Q.zQ (c:Nat)=p:=⟨_,(Int.toNat_of_nonneg Rd).symm⟩
  rw [YN]at au Wr
  have hp:p<4:=au
  have hx:SS.pr p=some x:=Wr
  rw [YN]
  have jy:=G3.pr p x hx
  have N8:=jy.code
  have nX:=jy.pc
  refine wj (yB k L SS) fun y2 _=> ?_
  dsimp only [yV,List.cons_append,List.nil_append]
  refine zd (Sub.trans (M:=yV k L SS y2 R) Y (Qi (y:=y2) hp hx)) ?_
  dsimp only [W8,WJ]
  refine jl (K:=zX qs 4) (qX (y2.cd p) x.code) fun Cf=> ?_
  refine Z 3 J (fa J Y (zo rfl (fun _=>zw rfl rfl rfl (by omega) (by omega)) ?_))
  refine lf J Y (qU (p:=p) (L:=L) (S:=SS) (y:=y2) hp hx) (Z 1 J (fa J Y (lN J Y Y J J (Z1 (te _ x.w (y2.cd p) x.code (by omega) x.pc) J Y (Z 3 J (zV (fun HE=> ?_) (fun HE=> ?_)))))))
  ·obtain⟨i,Gu⟩:=Option.isSome_iff_exists.1 HE
   rw [Gu]
   dsimp only [Option.getD_some]
   have hi:=VS Gu
   refine zn rfl rfl rfl fun i6=> ?_
   refine sN J Y Y J J J (Z 13 J (fa J Y (ld J Y J (Z 5 J (z5 (fun Gs=> ?_) (fun Gs=> ?_))))))
   ·refine Z 7 J (lN J Y Y J J (zd (Sub.trans ?_ (zq (k:=k) (R:=R) (L:=L) (S:=SS) (S':=SS) (y:=y2) (y':=y2) (x':=x) hp rfl (fun _=>rfl) (vC hx) (fun j _=>rfl) rfl rfl)) ?_))
    ·exact Y
    refine Z1 (eJ _ _ _ SS b G3 hb HW c p x Ce hx i) J Y (Z 6 J (zI J J J ?_))
    rw [uZ,uN YN hx Gu,show SS.ug c p x i=SS.call c p x i from if_pos Gs]
    exact fq
   refine Z 7 J (z5 (fun dn=> ?_) (fun dn=> ?_))
   ·refine Z 9 J (lN J Y Y J J (zd (Sub.trans ?_ (zq (k:=k) (R:=R) (L:=L) (S:=SS) (S':=SS) (y:=y2) (y':=y2) (x':=x) hp rfl (fun _=>rfl) (vC hx) (fun j _=>rfl) rfl rfl)) ?_))
    ·exact Y
    refine Z1 (Zk _ _ _ SS b G3 hb HW c p x Ce hx i hi) J Y (Z 6 J (zI J J J ?_))
    rw [uZ,uN YN hx Gu,show SS.ug c p x i=SS.memory c p x i from(if_neg Gs).trans (if_pos (.inl dn))]
    exact fq
   refine Z 6 J (z5 (fun Rg=> ?_) (fun Rg=> ?_))
   ·refine Z 9 J (lN J Y Y J J (zd (Sub.trans ?_ (zq (k:=k) (R:=R) (L:=L) (S:=SS) (S':=SS) (y:=y2) (y':=y2) (x':=x) hp rfl (fun _=>rfl) (vC hx) (fun j _=>rfl) rfl rfl)) ?_))
    ·exact Y
    refine Z1 (Zk _ _ _ SS b G3 hb HW c p x Ce hx i hi) J Y (Z 6 J (zI J J J ?_))
    rw [uZ,uN YN hx Gu,show SS.ug c p x i=SS.memory c p x i from(if_neg Gs).trans (if_pos (.inr (.inl Rg)))]
    exact fq
   refine Z 5 J (z5 (fun CV=> ?_) (fun CV=> ?_))
   ·refine Z 7 J (lN J Y Y J J (zd (Sub.trans ?_ (zq (k:=k) (R:=R) (L:=L) (S:=SS) (S':=SS) (y:=y2) (y':=y2) (x':=x) hp rfl (fun _=>rfl) (vC hx) (fun j _=>rfl) rfl rfl)) ?_))
    ·exact Y
    refine Z1 (Zk _ _ _ SS b G3 hb HW c p x Ce hx i hi) J Y (Z 6 J (zI J J J ?_))
    rw [uZ,uN YN hx Gu,show SS.ug c p x i=SS.memory c p x i from(if_neg Gs).trans (if_pos (.inr (.inr CV)))]
    exact fq
   refine Z 3 J (zW [0,0,1,5,15,31,0,0,64,320,960,1984,4032,8128,16320,32704,65472,131008,131008,262143,786431,1835007] [([0,1,2,3,4,5,6,7,8,9,10,11,12,13,14],[5,11,14],some 15),([16,17,18,19,20],[5],some 21),([],[],none)] (by kernel_rfl) ?_)
   refine z7 (ZK 3 J (zx J Y (uc rfl (fun _=>zw rfl rfl rfl (by omega) (by omega)) ?_)))
   refine YO J Y (qU (p:=p) (L:=L) (S:=SS) (y:=y2) hp hx) (ZK 3 J (zx J Y (uc rfl (fun _=>zw rfl rfl rfl (by omega) (by omega)) ?_)))
   refine YO J Y (qU (p:=p) (L:=L) (S:=SS) (y:=y2) hp hx) (ZK 1 J (zx J Y (kv J Y Y J J (z8 ⟨(jP J Y (qU (p:=p) (L:=L) (S:=SS) (y:=y2) hp hx) J (z6 _ rfl) (jP J Y (qU (p:=p) (L:=L) (S:=SS) (y:=y2) hp hx) J (z6 _ rfl) (Wm J Y Y J J J (z6 _ (Qx Cf)) z9))),?_⟩))))
   refine yY (rf _ x.w (y2.cd p) x.code (by omega) x.pc) rfl (fun _=>rfl) ?_
   intro u60 L60 Cr
   obtain⟨w2,p2,Ub⟩:=bP (w:=x.w) Gu Gs (by omega)
   rw [Ub]at Cr
   obtain⟨Tv,rfl,rfl⟩:=Cr
   refine yW (v:=Tv) fun ll cB cH hZ _=> ?_
   subst hZ
   refine zJ (z7 (ZK 4 J (zx J Y (z8 ⟨(jP J Y (qU (p:=p) (L:=L) (S:=SS) (y:=y2) hp hx) J (z6 _ rfl) z9),?_⟩))))
   refine sN J Y Y J J J (zJ (z7 (z8 ⟨z9,?_⟩)))
   refine OX 5 J (zI J J J ?_)
   have Mv: ¬(i.op=3∨i.op=4∨i.op=5):=by omega
   have e:SS.ug c p x i=SS.vA p (some (qB.mk w2 p2 x.code x.A x.fm x.sm x.S)):=by { unfold KS.ug;rw [if_neg Gs,if_neg Mv,Ub];rfl }
   rw [uZ,uN YN hx Gu,e]
   refine⟨_,⟨rfl,rfl⟩,Sub.trans (Sub.one (K:=zC) (a:=y2.a p) (K2:=zC) (a2:=y2.a p) (x2:=YF (w2) ((.slice ll x.code.length cB cH)) (p2)++ [vp (y2.v p) 0]) fun _ e=>e) (Sub.trans ?_ (zq (k:=k) (R:=R) (L:=L) (S:=SS) (S':=(SS.vA p (some (qB.mk w2 p2 x.code x.A x.fm x.sm x.S)))) (y:=y2) (y':=(y2.uJ p (.slice ll x.code.length cB cH))) (x':=(qB.mk w2 p2 x.code x.A x.fm x.sm x.S)) hp rfl (fun _=>rfl) YB (fun j hj=>YC hj) rfl (UM hx)))⟩
   exact Y
  refine zn rfl rfl rfl fun i6=> ?_
  refine sN J Y Y J J J (Z 14 J (zI J J J ?_))
  have Gu:wP x.code x.pc=none:=by { cases h:wP x.code x.pc with|none=>rfl|some i=>rw [h]at HE;cases HE }
  rw [uZ,pn YN hx Gu]
  refine⟨_,⟨rfl,rfl⟩,Sub.trans ?_ (zq (k:=k) (R:=R) (L:=L) (S:=SS) (S':=SS) (y:=y2) (y':=y2) (x':=x) hp rfl (fun _=>rfl) (vC hx) (fun j _=>rfl) rfl rfl)⟩
  exact Y
 refine zd (Sub.trans (M:=yV k L S y R) Y yp) ?_
 obtain⟨SS,dM⟩: ∃SS,SS=S:=⟨_,rfl⟩
 rw [←dM]at gF hc hg YM ⊢
 have G3:=gF
 have Ce:=hc
 have HW:SS.N.gen≤1000000000:=by omega
 have Rd:0≤SS.Q.zQ (c:Nat):=by omega
 have uZ:SS.run c=SS.Qt c:=if_neg YM
 refine Z 5 J ?_
 obtain⟨au,x,Wr⟩:=G3.runs c Ce Rd
 obtain⟨p,YN⟩: ∃p:Nat,SS.Q.zQ (c:Nat)=p:=⟨_,(Int.toNat_of_nonneg Rd).symm⟩
 rw [YN]at au Wr
 have hp:p<4:=au
 have hx:SS.pr p=some x:=Wr
 rw [YN]
 have jy:=G3.pr p x hx
 have N8:=jy.code
 have nX:=jy.pc
 refine wj (yB k L SS) fun y2 _=> ?_
 dsimp only [yV,List.cons_append,List.nil_append]
 refine zd (Sub.trans (M:=yV k L SS y2 R) Y (Qi (y:=y2) hp hx)) ?_
 dsimp only [W8,WJ]
 refine jl (K:=zX qs 4) (qX (y2.cd p) x.code) fun Cf=> ?_
 refine Z 3 J (fa J Y (zo rfl (fun _=>zw rfl rfl rfl (by omega) (by omega)) ?_))
 refine lf J Y (qU (p:=p) (L:=L) (S:=SS) (y:=y2) hp hx) (Z 1 J (fa J Y (lN J Y Y J J (Z1 (te _ x.w (y2.cd p) x.code (by omega) x.pc) J Y (Z 3 J (zV (fun HE=> ?_) (fun HE=> ?_)))))))
 ·obtain⟨i,Gu⟩:=Option.isSome_iff_exists.1 HE
  rw [Gu]
  dsimp only [Option.getD_some]
  have hi:=VS Gu
  refine zn rfl rfl rfl fun i6=> ?_
  refine sN J Y Y J J J (Z 13 J (fa J Y (ld J Y J (Z 5 J (z5 (fun Gs=> ?_) (fun Gs=> ?_))))))
  ·refine Z 7 J (lN J Y Y J J (zd (Sub.trans ?_ (zq (k:=k) (R:=R) (L:=L) (S:=SS) (S':=SS) (y:=y2) (y':=y2) (x':=x) hp rfl (fun _=>rfl) (vC hx) (fun j _=>rfl) rfl rfl)) ?_))
   ·exact Y
   refine Z1 (eJ _ _ _ SS b G3 hb HW c p x Ce hx i) J Y (Z 6 J (zI J J J ?_))
   rw [uZ,uN YN hx Gu,show SS.ug c p x i=SS.call c p x i from if_pos Gs]
   exact fq
  refine Z 7 J (z5 (fun dn=> ?_) (fun dn=> ?_))
  ·refine Z 9 J (lN J Y Y J J (zd (Sub.trans ?_ (zq (k:=k) (R:=R) (L:=L) (S:=SS) (S':=SS) (y:=y2) (y':=y2) (x':=x) hp rfl (fun _=>rfl) (vC hx) (fun j _=>rfl) rfl rfl)) ?_))
   ·exact Y
   refine Z1 (Zk _ _ _ SS b G3 hb HW c p x Ce hx i hi) J Y (Z 6 J (zI J J J ?_))
   rw [uZ,uN YN hx Gu,show SS.ug c p x i=SS.memory c p x i from(if_neg Gs).trans (if_pos (.inl dn))]
   exact fq
  refine Z 6 J (z5 (fun Rg=> ?_) (fun Rg=> ?_))
  ·refine Z 9 J (lN J Y Y J J (zd (Sub.trans ?_ (zq (k:=k) (R:=R) (L:=L) (S:=SS) (S':=SS) (y:=y2) (y':=y2) (x':=x) hp rfl (fun _=>rfl) (vC hx) (fun j _=>rfl) rfl rfl)) ?_))
   ·exact Y
   refine Z1 (Zk _ _ _ SS b G3 hb HW c p x Ce hx i hi) J Y (Z 6 J (zI J J J ?_))
   rw [uZ,uN YN hx Gu,show SS.ug c p x i=SS.memory c p x i from(if_neg Gs).trans (if_pos (.inr (.inl Rg)))]
   exact fq
  refine Z 5 J (z5 (fun CV=> ?_) (fun CV=> ?_))
  ·refine Z 7 J (lN J Y Y J J (zd (Sub.trans ?_ (zq (k:=k) (R:=R) (L:=L) (S:=SS) (S':=SS) (y:=y2) (y':=y2) (x':=x) hp rfl (fun _=>rfl) (vC hx) (fun j _=>rfl) rfl rfl)) ?_))
   ·exact Y
   refine Z1 (Zk _ _ _ SS b G3 hb HW c p x Ce hx i hi) J Y (Z 6 J (zI J J J ?_))
   rw [uZ,uN YN hx Gu,show SS.ug c p x i=SS.memory c p x i from(if_neg Gs).trans (if_pos (.inr (.inr CV)))]
   exact fq
  refine Z 3 J (zW [0,0,1,5,15,31,0,0,64,320,960,1984,4032,8128,16320,32704,65472,131008,131008,262143,786431,1835007] [([0,1,2,3,4,5,6,7,8,9,10,11,12,13,14],[5,11,14],some 15),([16,17,18,19,20],[5],some 21),([],[],none)] (by kernel_rfl) ?_)
  refine z7 (ZK 3 J (zx J Y (uc rfl (fun _=>zw rfl rfl rfl (by omega) (by omega)) ?_)))
  refine YO J Y (qU (p:=p) (L:=L) (S:=SS) (y:=y2) hp hx) (ZK 3 J (zx J Y (uc rfl (fun _=>zw rfl rfl rfl (by omega) (by omega)) ?_)))
  refine YO J Y (qU (p:=p) (L:=L) (S:=SS) (y:=y2) hp hx) (ZK 1 J (zx J Y (kv J Y Y J J (z8 ⟨(jP J Y (qU (p:=p) (L:=L) (S:=SS) (y:=y2) hp hx) J (z6 _ rfl) (jP J Y (qU (p:=p) (L:=L) (S:=SS) (y:=y2) hp hx) J (z6 _ rfl) (Wm J Y Y J J J (z6 _ (Qx Cf)) z9))),?_⟩))))
  refine yY (rf _ x.w (y2.cd p) x.code (by omega) x.pc) rfl (fun _=>rfl) ?_
  intro u60 L60 Cr
  obtain⟨w2,p2,Ub⟩:=bP (w:=x.w) Gu Gs (by omega)
  rw [Ub]at Cr
  obtain⟨Tv,rfl,rfl⟩:=Cr
  refine yW (v:=Tv) fun ll cB cH hZ _=> ?_
  subst hZ
  refine zJ (z7 (ZK 4 J (zx J Y (z8 ⟨(jP J Y (qU (p:=p) (L:=L) (S:=SS) (y:=y2) hp hx) J (z6 _ rfl) z9),?_⟩))))
  refine sN J Y Y J J J (zJ (z7 (z8 ⟨z9,?_⟩)))
  refine OX 5 J (zI J J J ?_)
  have Mv: ¬(i.op=3∨i.op=4∨i.op=5):=by omega
  have e:SS.ug c p x i=SS.vA p (some (qB.mk w2 p2 x.code x.A x.fm x.sm x.S)):=by { unfold KS.ug;rw [if_neg Gs,if_neg Mv,Ub];rfl }
  rw [uZ,uN YN hx Gu,e]
  refine⟨_,⟨rfl,rfl⟩,Sub.trans (Sub.one (K:=zC) (a:=y2.a p) (K2:=zC) (a2:=y2.a p) (x2:=YF (w2) ((.slice ll x.code.length cB cH)) (p2)++ [vp (y2.v p) 0]) fun _ e=>e) (Sub.trans ?_ (zq (k:=k) (R:=R) (L:=L) (S:=SS) (S':=(SS.vA p (some (qB.mk w2 p2 x.code x.A x.fm x.sm x.S)))) (y:=y2) (y':=(y2.uJ p (.slice ll x.code.length cB cH))) (x':=(qB.mk w2 p2 x.code x.A x.fm x.sm x.S)) hp rfl (fun _=>rfl) YB (fun j hj=>YC hj) rfl (UM hx)))⟩
  exact Y
 refine zn rfl rfl rfl fun i6=> ?_
 refine sN J Y Y J J J (Z 14 J (zI J J J ?_))
 have Gu:wP x.code x.pc=none:=by { cases h:wP x.code x.pc with|none=>rfl|some i=>rw [h]at HE;cases HE }
 rw [uZ,pn YN hx Gu]
 refine⟨_,⟨rfl,rfl⟩,Sub.trans ?_ (zq (k:=k) (R:=R) (L:=L) (S:=SS) (S':=SS) (y:=y2) (y':=y2) (x':=x) hp rfl (fun _=>rfl) (vC hx) (fun j _=>rfl) rfl rfl)⟩
 exact Y
theorem Hw (R:List SP) (k:Nat) (L:KL) (S:KS) (b:Nat) (gF:S.yv b) (hb:b≤300) (hg:S.N.gen≤900000000) (c:Nat) (hc:c<S.Q.n):yH 54 [vp k 0,vi c] (z3 yA k (L,S)::R) fun w L2=>w= .tuple []∧L2=z3 yA k (L,S.tick c)::R:=by
 refine ze (yB k L S) fun y _=> ?_
 dsimp only [yV,List.cons_append,List.nil_append]
 refine SW.intro rfl Tryz.func54 rfl ?_
 refine O0 4 J (fa J Y (lf J Y UL (Z 1 J (Z1 (Jt _ _ S.Q (c:Nat)) J Y (Z 6 J (fa J Y (lf J Y UL (Z 1 J (Z1 (GL _ _ S.Q (c:Nat)) J Y (zd (Sub.trans ?_ (uh (k:=k) (R:=R) (L:=L) (S:=S) (S':=S.pick c) (y:=y) (y':=y) (zg.u5 _ _) (fun _=>rfl) rfl rfl (show kF L S y=kF L (S.pick c) y from rfl))) ?_))))))))))
 ·exact Y
 have Wp:=gF.pick hc
 have kh:c<(S.pick c).Q.n:=by { show c<(S.Q.pick c).2.n;rw [zg.u5];exact hc }
 refine Z 6 J (z5 (fun lP=> ?_) (fun lP=> ?_))
 ·obtain⟨au,x,Wr⟩:=gF.runs c hc lP
  obtain⟨p,YN⟩: ∃p:Nat,S.Q.zQ (c:Nat)=p:=⟨_,(Int.toNat_of_nonneg lP).symm⟩
  rw [YN]at au Wr
  have hp:p<4:=au
  have hx:(S.pick c).pr p=some x:=Wr
  rw [YN]
  refine Z 6 J (Z1 (b8 _ _ _ (S.pick c) c p x kh hp hx) J Y ?_)
  obtain⟨ST,CY⟩: ∃ST,ST=(S.pick c).enter c p x:=⟨_,rfl⟩
  rw [←CY]
  have NK:ST.yv b:=by rw [CY];exact Wp.enter c p x
  have hcT:c<ST.Q.n:=by rw [CY];exact kh
  have hgT:ST.N.gen≤4611686018427387000:=by { have:ST.N.gen=S.N.gen:=(by rw [CY]);omega }
  have NQ:S.tick c=ST.leave c:=by { unfold KS.tick KS.vQ;rw [if_pos lP,YN,show((p:Nat):Int).toNat=p from rfl,hx,CY] }
  refine Z 4 J (Z1 (gO _ _ _ ST c hcT NK.runs hgT) J Y (Z 1 J (wq J J ?_)))
  rw [NQ]
  exact fq
 refine Z 6 J ?_
 obtain⟨ST,CY⟩: ∃ST,ST=S.pick c:=⟨_,rfl⟩
 rw [←CY]
 have NK:ST.yv b:=by rw [CY];exact Wp
 have hcT:c<ST.Q.n:=by rw [CY];exact kh
 have hgT:ST.N.gen≤4611686018427387000:=by { have:ST.N.gen=S.N.gen:=(by rw [CY]);omega }
 have NQ:S.tick c=ST.leave c:=by { unfold KS.tick;rw [if_neg lP,CY] }
 refine Z1 (gO _ _ _ ST c hcT NK.runs hgT) J Y (Z 1 J (wq J J ?_))
 rw [NQ]
 exact fq
theorem py (S:KS) (c:Nat):S.q8 c (S.U c).xs S.H=S:=by
 have e:(fun d=>if d=c then({ S.U c with xs:=(S.U c).xs } :Av)else S.U d)=S.U:=by
  funext d
  split
  ·rename_i h;rw [h]
  rfl
 show({ S with H:=S.H,U:=_ } :KS)=S
 rw [e]
theorem Ex (S:KS) (L:KL) (c:Nat) (f w:Int): ∃r xs H2,S.YH c f w=(r,S.q8 c xs H2)∧(S.zQ L c).jc S.M S.H f w=(r,(S.q8 c xs H2).zQ L c,H2):=by
 unfold KS.YH gT.jc
 obtain⟨⟨h1,h2,h3,_⟩,_,_,_,_⟩:=uq (S.mm c) S.M S.H false false (8*(256+f)+w).toNat 0
 by_cases hc:(0≤f∧f<S.M.n)∧0≤w∧w<8
 ·rw [if_pos hc,if_pos hc,pM]
  rcases hr:(S.mm c).trans S.M S.H false false (8*(256+f)+w).toNat with⟨⟨pl,ft⟩,X2,H2⟩
  rw [hr]at h1 h2 h3
  dsimp only at h1 h2 h3 ⊢
  by_cases hf:ft≠0
  ·rw [if_pos hf,if_pos hf]
   exact⟨_,X2.xs,H2,rfl,by rw [QK S L c H2 h1 h2 h3]⟩
  rw [if_neg hf,if_neg hf]
  exact⟨_,X2.xs,(H2.touch c pl).2,rfl,by rw [QK S L c (H2.touch c pl).2 h1 h2 h3]⟩
 rw [if_neg hc,if_neg hc]
 exact⟨_,(S.U c).xs,S.H,by rw [py],by rw [py]⟩
theorem Hx (R:List SP) (k:Nat) (L:KL) (S:KS) (b:Nat) (gF:S.yv b) (hb:b≤300) (hg:S.N.gen≤900000000) (c:Nat) (hc:c<S.Q.n) (f w0:Int):yH 57 [vp k 0,vi c,vi f,vi w0] (z3 yA k (L,S)::R) fun w L2=>w= .bool (S.jc c f w0).1∧L2=z3 yA k (L,(S.jc c f w0).2)::R:=by
 refine ze (yB k L S) fun y _=> ?_
 dsimp only [yV,List.cons_append,List.nil_append]
 refine SW.intro rfl Tryz.func57 rfl ?_
 refine O0 8 J (fa J Y (lf J Y UL (Z 1 J (Z1 (Jt _ _ S.Q (c:Nat)) J Y (Z 7 J (z5 (fun lP=> ?_) (fun lP=> ?_)))))))
 ·refine Z 7 J (zI J J J ?_)
  rw [show S.jc c f w0=(false,S)from if_pos lP]
  refine⟨_,⟨rfl,rfl⟩,Sub.trans (M:=yV k L S y R) Y yp⟩
 refine zd (Sub.trans (M:=yV k L S y R) Y yp) ?_
 obtain⟨au,x,Wr⟩:=gF.runs c hc (by omega)
 obtain⟨p,YN⟩: ∃p:Nat,S.Q.zQ (c:Nat)=p:=⟨_,(Int.toNat_of_nonneg (by omega)).symm⟩
 rw [YN]at au Wr
 have hp:p<4:=au
 have hx:S.pr p=some x:=Wr
 rw [YN]
 refine Z 8 J (Z1 (b8 _ _ _ S c p x hc hp hx) J Y ?_)
 obtain⟨SE,Rj⟩: ∃SE,SE=S.enter c p x:=⟨_,rfl⟩
 rw [←Rj]
 have z1O:SE.yv b:=by rw [Rj];exact gF.enter c p x
 have XM:c<SE.Q.n:=by rw [Rj];exact hc
 have hgE:SE.N.gen=S.N.gen:=by rw [Rj]
 refine wj (yB k L SE) fun y3 _=> ?_
 dsimp only [yV,List.cons_append,List.nil_append]
 have hl:((List.range SE.Q.n).map L.c).length=SE.Q.n:=by simp
 have Yi:((List.range SE.Q.n).map L.c)[c]? =some (L.c c):=gj L.c XM
 refine zd (Sub.trans (M:=yV k L SE y3 R) Y (b9 (y:=y3) XM)) ?_
 dsimp only [eK]
 refine jl (K:=zX j3 1) (qX y3.cv ((List.range SE.Q.n).map L.c)) fun j5=> ?_
 replace j5:=jH j5
 refine Z 2 J (zW [0,1,3,7,0,31,63,0,128,384,896,0,2048,6144,14336,0,0,131071,262143] [([0,1,2,3,4,5,6,7,8,9,10,11,12,13,14,15,16],[3,6,10,14],some 17),([18],[],none)] (by kernel_rfl) ?_)
 refine z7 (ZK 2 J (zx J Y (YO J Y (uI (L:=L) (S:=SE) (y:=y3)) (ZK 1 J (jM rfl (fun _ h=>yg rfl rfl rfl (by omega) (by omega) h) ?_)))))
 refine Gy 0 J Y J Yi J (ZK 2 J (zx J Y (jM rfl (fun _ h=>vB rfl rfl (by omega) (by exact T9 (L:=L) (S:=SE) (y:=y3)) h) ?_)))
 refine ZK 2 J (zx J Y (YO J Y (kI (L:=L) (S:=SE) (y:=y3)) (ZK 2 J (z8 ⟨(jP J Y (uI (L:=L) (S:=SE) (y:=y3)) J (z6 _ j5) (va rfl (fun _ h=>wX (j:=0) rfl rfl rfl Yi rfl h) rfl rfl (z6 _ rfl) (va rfl (fun _ h=>vB rfl rfl (by omega) (by exact T9 (L:=L) (S:=SE) (y:=y3)) h) rfl rfl (z6 _ rfl) (jP J Y (kI (L:=L) (S:=SE) (y:=y3)) J (z6 _ rfl) z9)))),?_⟩))))
 refine Z3 (Fz _ _ (SE.zQ L c) (SE.W L) L.h SE.M SE.H f w0) J Y Y Y ?_
 obtain⟨r,xs,H2,B1,FT⟩:=Ex SE L c f w0
 rw [FT]
 dsimp only
 refine zd (Sub.trans ?_ (qc (k:=k) (R:=R) (L:=L) (S:=SE) (S':=SE.q8 c xs H2) (y:=y3) (y':=y3) (u:=(SE.q8 c xs H2).zQ L c) XM rfl rfl (fun j hj=>GJ SE L xs H2 hj) rfl rfl (show kF L SE y3=kF L (SE.q8 c xs H2) y3 from rfl))) ?_
 ·exact Y
 have Ha:=z1O.YH c f w0
 rw [B1]at Ha
 dsimp only at Ha
 obtain⟨SW,Rk⟩: ∃SW,SW=SE.q8 c xs H2:=⟨_,rfl⟩
 rw [←Rk]
 rw [←Rk]at Ha
 have hcW:c<SW.Q.n:=by rw [Rk];exact XM
 have hgW:SW.N.gen≤4611686018427387000:=by { have:SW.N.gen=SE.N.gen:=(by rw [Rk]);omega }
 have Hl:S.jc c f w0=(r,SW.leave c):=by { unfold KS.jc KS.vQ;rw [if_neg lP,YN,show((p:Nat):Int).toNat=p from rfl,hx];dsimp only;rw [←Rj,B1,←Rk] }
 refine zJ (z7 (ZK 1 J (z8 ⟨z9,?_⟩)))
 refine OX 4 J (Z1 (gO _ _ _ SW c hcW Ha.runs hgW) J Y (Z 7 J (zI J J J ?_)))
 rw [Hl]
 exact fq
theorem AQ (S:KS) (c:Nat):S.WL c (S.U c)=S:=by
 have e:(fun d=>if d=c then S.U c else S.U d)=S.U:=by
  funext d
  split
  ·rename_i h;rw [h]
  rfl
 show({ S with U:=_ } :KS)=S
 rw [e]
theorem iI (S:KS) (c:Nat) (z:Int):S.forget c z=(decide (0≤z∧z<((S.U c).xs.length:Nat)),S.WL c { S.U c with xs:=if 0≤z∧z<((S.U c).xs.length:Nat)then(S.U c).xs.eraseIdx z.toNat else(S.U c).xs }):=by
 unfold KS.forget
 by_cases h:0≤z∧z<((S.U c).xs.length:Nat)
 ·rw [if_pos h,if_pos h,decide_eq_true h]
 rw [if_neg h,if_neg h,decide_eq_false h]
 exact congrArg (Prod.mk false) (AQ S c).symm
theorem Bm (S:KS) (L:KL) (c:Nat) (M:zF) (H:yF) (zQ:Int) (a d:Nat) (e:Int):(S.zQ L c).X.chain M H zQ a d e=(S.mm c).chain M H zQ a d e:=rfl
theorem jm {S:KS} {x:vG} {c:Nat} (h:0≤x.zQ∧x.zQ<S.Q.n) (hc:x.zQ=(c:Nat)):S.step x=S.qV c x:=by
 unfold KS.step
 rw [if_pos h,hc];rfl
theorem kx (R:List SP) (k:Nat) (L:KL) (S:KS) (b:Nat) (gF:S.yv b) (hb:b≤300) (hg:S.N.gen≤900000000) (x:vG) (hxa:x.a≤9223372036854775807) (NU:x.b≤9223372036854775807):yH 30 [vp k 0,.agg [vi x.d,vi x.zQ,vi x.a,vi x.b,vi x.c]] (z3 yA k (L,S)::R) fun w L2=>w= .bool (S.step x).1∧L2=z3 yA k (L,(S.step x).2)::R:=by
 refine ze (yB k L S) fun y _=> ?_
 dsimp only [yV,List.cons_append,List.nil_append]
 have hl:((List.range S.Q.n).map L.c).length=S.Q.n:=by simp
 refine yl (K:=zX j3 1) (qX y.cv ((List.range S.Q.n).map L.c)) fun j5=> ?_
 replace j5:=jH j5
 refine SW.intro rfl Tryz.func30 rfl ?_
 refine O0 2 J (yu rfl rfl rfl rfl fun i3=> ?_)
 refine Z 4 J (zW [0,1,3,7,15,31,15,79,207,463,975,2047,4095] [([0,1,2,3,4,5,6,7,8,9,10,11,12],[1,2,5,9,10,11],none)] (by kernel_rfl) ?_)
 refine z7 (zx J Y (q9 J Y J (ZK 1 J (ql (fun h8=> ?_) (fun h8=> ?_)))))
 ·refine ZK 10 J (z8 ⟨(yN J Y J J J (gv J J J (by rw [decide_eq_true h8];rfl) (yG rfl (yG rfl (yG rfl (yG rfl z9)))))),?_⟩)
  refine OX 6 J (zI J J J ?_)
  rw [show S.step x=(false,S)from if_neg (by omega)]
  refine⟨_,⟨rfl,rfl⟩,Sub.trans (M:=yV k L S y R) Y yp⟩
 refine ZK 1 J (zx J Y (q9 J Y J (ZK 2 J (zx J Y (YO J Y uI (jM rfl (fun _ h=>yI rfl rfl rfl rfl rfl h) ?_))))))
 refine QA (congrArg (fun n:Nat=>vi n) hl) ?_
 refine ZK 1 J (ql (fun Q9=> ?_) (fun Q9=> ?_))
 ·refine ZK 1 J (z8 ⟨(yN J Y J J J (gv J J J (by rw [decide_eq_false h8];rfl) (yN J Y J J J (jP J Y uI J (z6 _ j5) (va rfl (fun _ h=>yI rfl rfl rfl rfl rfl h) rfl rfl (by rw [hl];exact z6 _ rfl) (gv J J J (by rw [decide_eq_true Q9];rfl) z9)))))),?_⟩)
  refine OX 6 J (zI J J J ?_)
  rw [show S.step x=(false,S)from if_neg (by omega)]
  refine⟨_,⟨rfl,rfl⟩,Sub.trans (M:=yV k L S y R) Y yp⟩
 refine ZK 1 J (z8 ⟨(yN J Y J J J (gv J J J (by rw [decide_eq_false h8];rfl) (yN J Y J J J (jP J Y uI J (z6 _ j5) (va rfl (fun _ h=>yI rfl rfl rfl rfl rfl h) rfl rfl (by rw [hl];exact z6 _ rfl) (gv J J J (by rw [decide_eq_false Q9];rfl) z9)))))),?_⟩)
 refine OX 3 J ?_
 have ca:0≤x.zQ∧x.zQ<S.Q.n:=by omega
 obtain⟨c,xp⟩: ∃c:Nat,x.zQ=c:=⟨x.zQ.toNat,by omega⟩
 have hc:c<S.Q.n:=by omega
 rw [xp]
 have Yi:((List.range S.Q.n).map L.c)[c]? =some (L.c c):=gj L.c hc
 refine yE (Sub.trans (M:=yV k L S y (z3 zC i3 (z0.agg [vi x.d,vi (c:Nat),vi x.a,vi x.b,vi x.c]).cells::R)) Y (b9 (y:=y) hc)) ?_
 dsimp only [eK]
 refine zW [0,1,3,7,0,16,63,127,255,511] [([0,1,2,3,4,5,6,7],[3,5,7],some 8),([9],[],none)] (by kernel_rfl) ?_
 refine z7 (ZK 2 J (zx J Y (YO J Y uI (zx J Y (q9 J Y J (jM rfl (fun _ h=>yg rfl rfl rfl (by omega) (by omega) h) ?_))))))
 refine Gy 0 J Y J Yi J (z8 ⟨(jP J Y uI J (z6 _ j5) (yN J Y J J J (va rfl (fun _ h=>wX (j:=0) rfl rfl rfl Yi rfl h) rfl rfl (z6 _ rfl) z9))),?_⟩)
 refine Z1 (Un _ _ (S.zQ L c)) J Y (zJ (z7 (ZK 1 J (z8 ⟨z9,?_⟩))))
 refine OX 3 J (fa J Y (ld J Y J (Z 5 J (z5 (fun Vz=> ?_) (fun Vz=> ?_)))))
 ·refine Z 6 J (fa J Y (ld J Y J (zd (Sub.trans ?_ (qc (k:=k) (R:=R) (L:=L) (S:=S) (S':=S) (y:=y) (y':=y) (u:=S.zQ L c) hc rfl rfl (fun _ _=>rfl) rfl rfl rfl)) ?_)))
  ·exact Y
  refine Z1 (Nh _ _ _ S b gF hb hg c hc) J Y (Z 3 J (zI J J J ?_))
  rw [jm ca xp]
  rw [show S.qV c x=S.run c by unfold KS.qV;rw [if_pos Vz]]
  exact fq
 refine Z 6 J (z5 (fun kf=> ?_) (fun kf=> ?_))
 ·refine Z 6 J (fa J Y (ld J Y J (zd (Sub.trans ?_ (qc (k:=k) (R:=R) (L:=L) (S:=S) (S':=S) (y:=y) (y':=y) (u:=S.zQ L c) hc rfl rfl (fun _ _=>rfl) rfl rfl rfl)) ?_)))
  ·exact Y
  refine Z1 (Hw _ _ _ S b gF hb hg c hc) J Y (Z 6 J (zI J J J ?_))
  rw [jm ca xp]
  rw [show S.qV c x=(true,S.tick c)by unfold KS.qV;rw [if_neg Vz,if_pos kf]]
  exact fq
 refine Z 6 J (z5 (fun xl=> ?_) (fun xl=> ?_))
 ·refine Z 4 J (zW [0,1,3,7,0,16,0,64,255,511] [([0,1,2,3,4,5,6,7],[3,5,7],some 8),([9],[],none)] (by kernel_rfl) ?_)
  refine z7 (ZK 2 J (zx J Y (YO J Y kI (zx J Y (q9 J Y J (zx J Y (q9 J Y J (z8 ⟨(jP J Y kI J (z6 _ rfl) (yN J Y J J J (yN J Y J J J z9))),?_⟩))))))))
  refine Z1 (Bl _ _ S.H (c:Nat) x.a) J Y (zJ (z7 (ZK 1 J (z8 ⟨z9,?_⟩))))
  refine OX 1 J (zI J J J ?_)
  rw [jm ca xp]
  rw [show S.qV c x=((S.H.W5 (c:Nat) x.a).1,({ S with H:=(S.H.W5 (c:Nat) x.a).2 } :KS))by unfold KS.qV;rw [if_neg Vz,if_neg kf,if_pos xl]]
  refine⟨_,⟨rfl,rfl⟩,Sub.trans ?_ (qc (k:=k) (R:=R) (L:=L) (S:=S) (S':=({ S with H:=(S.H.W5 (c:Nat) x.a).2 } :KS)) (y:=y) (y':=y) (u:=S.zQ L c) hc rfl rfl (fun _ _=>rfl) rfl rfl (show kF L S y=kF L ({ S with H:=(S.H.W5 (c:Nat) x.a).2 } :KS) y from rfl))⟩
  exact Y
 refine Z 6 J (z5 (fun lQ=> ?_) (fun lQ=> ?_))
 ·refine Z 4 J (zW [0,1,0,4,15,31] [([0,2,3],[3],some 1),([],[3],some 4),([5],[],none)] (by kernel_rfl) ?_)
  refine z7 (ZK 1 J (zx J Y (q9 J Y J (z8 ⟨(yN J Y J J J z9),?_⟩))))
  refine wj (uL (L.c c) (S.zQ L c)) fun _ _=> ?_
  dsimp only [xU,List.cons_append,List.nil_append]
  refine Z1 (br _ _ (S.zQ L c).X) J Y (zJ (z7 (z8 ⟨(yN J Y J J J z9),?_⟩)))
  refine wj (uM (L.u c) (S.zQ L c).X) fun _ P5=> ?_
  dsimp only [kK,List.cons_append,List.nil_append]
  refine Z1 (Ac _ _ (S.U c).xs x.a) J Y (zd (Sub.qi (p:=z3 uz (L.u c) { (S.zQ L c).X with xs:=(if 0≤x.a∧x.a<((S.U c).xs.length:Nat)then(S.U c).xs.eraseIdx x.a.toNat else(S.U c).xs) }) (qF (a:=L.u c) (X:= { (S.zQ L c).X with xs:=(if 0≤x.a∧x.a<((S.U c).xs.length:Nat)then(S.U c).xs.eraseIdx x.a.toNat else(S.U c).xs) }) (by { intro z hz;refine P5 z ?_;revert hz;show z ∈ (if _ then _ else _)→_;split;exact List.mem_of_mem_eraseIdx;exact id })) (Sub.refl _)) ?_)
  refine zd (Sub.qi (p:=z3 gX (L.c c) { S.zQ L c with X:= { (S.zQ L c).X with xs:=(if 0≤x.a∧x.a<((S.U c).xs.length:Nat)then(S.U c).xs.eraseIdx x.a.toNat else(S.U c).xs) } }) (qE (C:= { S.zQ L c with X:= { (S.zQ L c).X with xs:=(if 0≤x.a∧x.a<((S.U c).xs.length:Nat)then(S.U c).xs.eraseIdx x.a.toNat else(S.U c).xs) } })) (Sub.refl _)) ?_
  refine zJ (z7 (ZK 1 J (z8 ⟨z9,?_⟩)))
  refine OX 1 J (zI J J J ?_)
  rw [jm ca xp]
  rw [show S.qV c x=S.forget c x.a by unfold KS.qV;rw [if_neg Vz,if_neg kf,if_neg xl,if_pos lQ],iI]
  refine⟨_,⟨rfl,rfl⟩,Sub.trans ?_ (qc (k:=k) (R:=R) (L:=L) (S:=S) (S':=(S.WL c { S.U c with xs:=(if 0≤x.a∧x.a<((S.U c).xs.length:Nat)then(S.U c).xs.eraseIdx x.a.toNat else(S.U c).xs) })) (y:=y) (y':=y) (u:= { S.zQ L c with X:= { (S.zQ L c).X with xs:=(if 0≤x.a∧x.a<((S.U c).xs.length:Nat)then(S.U c).xs.eraseIdx x.a.toNat else(S.U c).xs) } }) hc rfl c5 (fun j hj=>mZ hj) rfl rfl (show kF L S y=kF L (S.WL c { S.U c with xs:=(if 0≤x.a∧x.a<((S.U c).xs.length:Nat)then(S.U c).xs.eraseIdx x.a.toNat else(S.U c).xs) }) y from rfl))⟩
  exact Y
 refine Z 6 J (z5 (fun CU=> ?_) (fun CU=> ?_))
 ·refine Z 6 J (fa J Y (ld J Y J (fa J Y (ld J Y J (fa J Y (ld J Y J (zd (Sub.trans ?_ (qc (k:=k) (R:=R) (L:=L) (S:=S) (S':=S) (y:=y) (y':=y) (u:=S.zQ L c) hc rfl rfl (fun _ _=>rfl) rfl rfl rfl)) ?_)))))))
  ·exact Y
  refine Z1 (Hx _ _ _ S b gF hb hg c hc _ _) J Y (Z 3 J (zI J J J ?_))
  rw [jm ca xp]
  rw [show S.qV c x=S.jc c x.a x.b by unfold KS.qV;rw [if_neg Vz,if_neg kf,if_neg xl,if_neg lQ,if_pos CU]]
  exact fq
 refine Z 6 J (z5 (fun lR=> ?_) (fun lR=> ?_))
 ·refine Z 5 J (zW [0,1,3,7,0,16,63,127,255,511,1023,2047,4095,8191,16383,32767,65535,131071] [([0,1,2,3,4,5],[3,5],some 6),([7,8,9,10,11,12,13,14,15,16,17],[7,10,11,15,16],none)] (by kernel_rfl) ?_)
  refine z7 (ZK 2 J (zx J Y (YO J Y UL (zx J Y (q9 J Y J (z8 ⟨(jP J Y UL J (z6 _ rfl) (yN J Y J J J z9)),?_⟩))))))
  refine Z1 (Jt _ _ S.Q (c:Nat)) J Y (zJ (z7 (ZK 1 J (ql (fun mz=> ?_) (fun mz=> ?_)))))
  ·refine ZK 10 J (z8 ⟨(gv J J J (by rw [decide_eq_true mz];rfl) (yG rfl (yG rfl (yG rfl (yG rfl z9))))),?_⟩)
   refine OX 6 J (zI J J J ?_)
   rw [jm ca xp]
   rw [show S.qV c x=(false,S)by unfold KS.qV;rw [if_neg Vz,if_neg kf,if_neg xl,if_neg lQ,if_neg CU,if_pos lR];exact if_pos (by omega)]
   refine⟨_,⟨rfl,rfl⟩,Sub.trans ?_ (qc (k:=k) (R:=R) (L:=L) (S:=S) (S':=S) (y:=y) (y':=y) (u:=S.zQ L c) hc rfl rfl (fun _ _=>rfl) rfl rfl (show kF L S y=kF L S y from rfl))⟩
   exact Y
  refine ZK 1 J (zx J Y (q9 J Y J (ZK 1 J (ql (fun XI=> ?_) (fun XI=> ?_)))))
  ·refine ZK 6 J (z8 ⟨(gv J J J (by rw [decide_eq_false mz];rfl) (yN J Y J J J (gv J J J (by rw [decide_eq_true XI];rfl) (yG rfl (yG rfl z9))))),?_⟩)
   refine OX 6 J (zI J J J ?_)
   rw [jm ca xp]
   rw [show S.qV c x=(false,S)by unfold KS.qV;rw [if_neg Vz,if_neg kf,if_neg xl,if_neg lQ,if_neg CU,if_pos lR];exact if_pos (by omega)]
   refine⟨_,⟨rfl,rfl⟩,Sub.trans ?_ (qc (k:=k) (R:=R) (L:=L) (S:=S) (S':=S) (y:=y) (y':=y) (u:=S.zQ L c) hc rfl rfl (fun _ _=>rfl) rfl rfl (show kF L S y=kF L S y from rfl))⟩
   exact Y
  refine ZK 2 J (zx J Y (q9 J Y J (ZK 1 J (ql (fun h88=> ?_) (fun h88=> ?_)))))
  ·refine ZK 1 J (z8 ⟨(gv J J J (by rw [decide_eq_false mz];rfl) (yN J Y J J J (gv J J J (by rw [decide_eq_false XI];rfl) (yN J Y J J J (gv J J J (by rw [decide_eq_true h88];rfl) z9))))),?_⟩)
   refine OX 6 J (zI J J J ?_)
   rw [jm ca xp]
   rw [show S.qV c x=(false,S)by unfold KS.qV;rw [if_neg Vz,if_neg kf,if_neg xl,if_neg lQ,if_neg CU,if_pos lR];exact if_pos (by omega)]
   refine⟨_,⟨rfl,rfl⟩,Sub.trans ?_ (qc (k:=k) (R:=R) (L:=L) (S:=S) (S':=S) (y:=y) (y':=y) (u:=S.zQ L c) hc rfl rfl (fun _ _=>rfl) rfl rfl (show kF L S y=kF L S y from rfl))⟩
   exact Y
  refine ZK 1 J (z8 ⟨(gv J J J (by rw [decide_eq_false mz];rfl) (yN J Y J J J (gv J J J (by rw [decide_eq_false XI];rfl) (yN J Y J J J (gv J J J (by rw [decide_eq_false h88];rfl) z9))))),?_⟩)
  refine OX 3 J (zW [0,1,3,7,15,0,32,96,224,0,0,1024,0,4096,12288,0,32768,98304,0,262144,1048575] [([0,1,2,3,4,5,6,7,8,9,10,11,12,13,14,15,16,17,18,19],[4,8,11,13,14,16,17,19],some 20),([],[],none)] (by kernel_rfl) ?_)
  refine z7 (ZK 2 J (zx J Y (zx J Y (YO J Y r7 (ZK 2 J (zx J Y (YO J Y kI (ZK 1 J (zx J Y (q9 J Y J (zx J Y (q9 J Y J (uc rfl (fun _=>qy rfl rfl (qR (by omega))) ?_)))))))))))))
  refine QA (JH (by omega)) ?_
  refine zx J Y (q9 J Y J (uc rfl (fun _=>qy rfl rfl (qR (by omega))) ?_))
  refine QA (JH (by omega)) ?_
  refine zx J Y (q9 J Y J (z8 ⟨(jP J Y r7 J (z6 _ rfl) (jP J Y kI J (z6 _ rfl) (yN J Y J J J (yN J Y J J J (uR rfl (fun _=>qy rfl rfl (qR (by omega))) rfl rfl (by rw [JH (by omega)];exact z6 _ rfl) (yN J Y J J J (uR rfl (fun _=>qy rfl rfl (qR (by omega))) rfl rfl (by rw [JH (by omega)];exact z6 _ rfl) (yN J Y J J J z9)))))))),?_⟩))
  refine wj (uL (L.c c) (S.zQ L c)) fun _ _=> ?_
  dsimp only [xU,List.cons_append,List.nil_append]
  refine Z3 (E5 _ L.m L.h (L.u c) S.M S.H (S.zQ L c).X (c:Nat) x.a.toNat x.b.toNat x.c) J Y Y Y ?_
  rw [Bm]
  refine zd (Sub.qi (p:=z3 gX (L.c c) (S.zQ L c)) (qE (C:=S.zQ L c)) (Sub.refl _)) ?_
  refine zJ (z7 (z8 ⟨z9,?_⟩))
  refine OX 5 J (zI J J J ?_)
  rw [jm ca xp]
  rw [show S.qV c x=(true,({ S with H:=((S.mm c).chain S.M S.H (c:Nat) x.a.toNat x.b.toNat x.c).2 } :KS))by unfold KS.qV;rw [if_neg Vz,if_neg kf,if_neg xl,if_neg lQ,if_neg CU,if_pos lR];exact if_neg (by omega)]
  refine⟨_,⟨rfl,rfl⟩,Sub.trans ?_ (qc (k:=k) (R:=R) (L:=L) (S:=S) (S':=({ S with H:=((S.mm c).chain S.M S.H (c:Nat) x.a.toNat x.b.toNat x.c).2 } :KS)) (y:=y) (y':=y) (u:=S.zQ L c) hc rfl rfl (fun _ _=>rfl) rfl rfl (show kF L S y=kF L ({ S with H:=((S.mm c).chain S.M S.H (c:Nat) x.a.toNat x.b.toNat x.c).2 } :KS) y from rfl))⟩
  exact Y
 refine Z 9 J (zI J J J ?_)
 rw [jm ca xp]
 rw [show S.qV c x=(false,S)by unfold KS.qV;rw [if_neg Vz,if_neg kf,if_neg xl,if_neg lQ,if_neg CU,if_neg lR]]
 refine⟨_,⟨rfl,rfl⟩,Sub.trans ?_ (qc (k:=k) (R:=R) (L:=L) (S:=S) (S':=S) (y:=y) (y':=y) (u:=S.zQ L c) hc rfl rfl (fun _ _=>rfl) rfl rfl (show kF L S y=kF L S y from rfl))⟩
 exact Y
theorem SW.out {P:Program} {F:zD} {zB:yy} {f:FuncId} {vs:List z0} {L:List SP} {Q Q':z0→List SP→Prop} (h:SW P F zB f vs L Q) (k: ∀v L',Q v L'→ ∃L2,Q' v L2∧Sub L' L2):SW P F zB f vs L Q':=
 fun H hH=>(h H hH).mono fun v H' ⟨L',a,b⟩=>by
  obtain⟨L2,c,d⟩:=k v L' a
  exact⟨L2,c,b.sub d⟩
theorem rB {f:FuncId} {vs:List z0} {R:List SP} {k:Nat} {L:KL} {S:KS} {c:Nat} (hc:c<S.Q.n) {Q:z0→Prop} (h: ∀R',yH f vs (z3 gX (L.c c) (S.zQ L c)::R') fun w L2=>Q w∧L2=z3 gX (L.c c) (S.zQ L c)::R'):yH f vs (z3 yA k (L,S)::R) fun w L2=>Q w∧L2=z3 yA k (L,S)::R:=by
 refine ze (yB k L S) fun y _=> ?_
 refine SW.sub ?_ (Sub.trans (M:=yV k L S y R) (Sub.refl _) (b9 (y:=y) hc))
 refine SW.sub (SW.out (h (z3 zO k (18,kF L S y)::z3 (zX j3 1) y.cv ((List.range S.Q.n).map L.c)::z3 zY L.m S.M::z3 zi L.p ⟨L.m,S.Rf⟩::z3 yM L.sw S.Ws::z3 qj L.h S.H::z3 wV L.n S.N::z3 zC L.pp [.chan (some y.ch)]::z3 qC y.ch (4,S.ww.map vu)::
 z3 vT L.q S.Q::z3 (zL WG) k ((List.range S.Q.n).erase c,fun i=>(L.c i,S.zQ L i))::z3 (zL gI) k (List.range 4,S.qL L y)::R)) ?_) Y
 rintro v _ ⟨hq,rfl⟩
 exact⟨_,⟨hq,rfl⟩,Sub.trans Y (qc (S:=S) (S':=S) (y:=y) (y':=y) (cv:=y.cv) (f:=kF L S y) (u:=S.zQ L c) hc rfl rfl (fun _ _=>rfl) rfl rfl rfl)⟩
theorem rC {f:FuncId} {vs:List z0} {R:List SP} {k:Nat} {L:KL} {S:KS} {c:Nat} (hc:c<S.Q.n) {Q:z0→Prop} (h: ∀R',yH f vs (z3 uz (L.u c) (S.zQ L c).X::R') fun w L2=>Q w∧L2=z3 uz (L.u c) (S.zQ L c).X::R'):yH f vs (z3 yA k (L,S)::R) fun w L2=>Q w∧L2=z3 yA k (L,S)::R:=
 rB hc fun R'=>by
  refine ze (uL (L.c c) (S.zQ L c)) fun _ _=> ?_
  refine SW.sub (SW.out (h (z3 zC (L.c c) (ou (S.zQ L c))::R')) ?_) (show Px.Sub (z3 zC (L.c c) (ou (S.zQ L c))::z3 uz (L.u c) (S.zQ L c).X::R') _ from Y)
  rintro v _ ⟨hq,rfl⟩
  exact⟨_,⟨hq,rfl⟩,Sub.qi (qE (C:=S.zQ L c)) (Sub.refl _)⟩
theorem D8 {f:FuncId} {vs:List z0} {R:List SP} {k:Nat} {L:KL} {S:KS} {Q:z0→Prop} (h: ∀R',yH f vs (z3 wV L.n S.N::R') fun w L2=>Q w∧L2=z3 wV L.n S.N::R'):yH f vs (z3 yA k (L,S)::R) fun w L2=>Q w∧L2=z3 yA k (L,S)::R:=by
 refine ze (yB k L S) fun y _=> ?_
 refine SW.sub (SW.out (h (z3 zO k (18,kF L S y)::z3 (zX j3 1) y.cv ((List.range S.Q.n).map L.c)::z3 zY L.m S.M::z3 zi L.p ⟨L.m,S.Rf⟩::z3 yM L.sw S.Ws::z3 qj L.h S.H::z3 zC L.pp [.chan (some y.ch)]::z3 qC y.ch (4,S.ww.map vu)::
 z3 vT L.q S.Q::z3 (zL WG) k (List.range S.Q.n,fun i=>(L.c i,S.zQ L i))::z3 (zL gI) k (List.range 4,S.qL L y)::R)) ?_) (show Px.Sub (yV k L S y R) _ from Y)
 rintro v _ ⟨hq,rfl⟩
 exact⟨_,⟨hq,rfl⟩,Sub.trans (M:=yV k L S y R) Y yp⟩
theorem VN (k:Nat) (x:KL×KS): ∀h,yA k x h→x.2.M.Ok:=by
 rintro h ⟨y,_,s⟩
 have s1:Sat [z3 zY x.1.m x.2.M] h:=(show Px.Sub (yV k x.1 x.2 y []) [z3 zY x.1.m x.2.M]from Y).h h s
 obtain⟨a,_,_,h2,_,h4,_⟩:=s1
 exact qf _ _ a h4
def KS.of (S:KS) (z:Int):Option qB:=if 0≤z∧z<4 then S.pr z.toNat else none
theorem G8 (R:List SP) (k:Nat) (L:KL) (S:KS):yH 34 [vp k 0] (z3 yA k (L,S)::R) fun w L2=>w=vp L.n 0∧L2=z3 yA k (L,S)::R:=by
 refine ze (yB k L S) fun y _=> ?_
 dsimp only [yV,List.cons_append,List.nil_append]
 refine SW.intro rfl Tryz.func34 rfl ?_
 refine O0 8 J (fa J Y (lf J Y UK (Z 3 J (zI J J J (⟨_,⟨rfl,rfl⟩,Sub.trans (M:=yV k L S y R) Y yp⟩)))))
theorem DD (R:List SP) (k:Nat) (L:KL) (S:KS) (z:Int):yH 19 [vp k 0,vi z] (z3 yA k (L,S)::R) fun w L2=>w=vi (S.Q.zQ z)∧L2=z3 yA k (L,S)::R:=by
 refine ze (yB k L S) fun y _=> ?_
 dsimp only [yV,List.cons_append,List.nil_append]
 refine SW.intro rfl Tryz.func19 rfl ?_
 refine O0 8 J (fa J Y (lf J Y UL (Z 1 J (Z1 (Jt _ _ S.Q z) J Y (Z 3 J (zI J J J (⟨_,⟨rfl,rfl⟩,Sub.trans (M:=yV k L S y R) Y yp⟩)))))))
theorem Lm (R:List SP) (k:Nat) (L:KL) (S:KS) (y:KY) (z:Int):yH 75 [vp k 0,vi z] (z3 zO k (18,kF L S y)::R) fun w L2=>w=(if 0≤z∧z<4 then S.wx y z.toNat else .ptr none)∧L2=z3 zO k (18,kF L S y)::R:=by
 refine SW.intro rfl Tryz.func75 rfl ?_
 refine O0 9 J (z5 (fun h6=> ?_) (fun h6=> ?_))
 ·refine Z 11 J (zI J J J ?_)
  rw [if_neg (by omega)]
  exact fq
 refine Z 3 J (z5 (fun h9=> ?_) (fun h9=> ?_))
 ·refine Z 8 J (zI J J J ?_)
  rw [if_neg (by omega)]
  exact fq
 have hz:0≤z∧z<4:=by omega
 have hz4:z.toNat<4:=by omega
 refine Z 9 J (fa J Y (zo rfl (fun _=>zw rfl rfl rfl (by omega) (by omega)) ?_))
 refine lf J Y (eI (L:=L) (S:=S) (y:=y) (i:=z.toNat) hz4) (Z 3 J (zI J J J ?_))
 rw [if_pos hz]
 exact fq
theorem Nf (R:List SP) (k:Nat) (L:KL) (S:KS) (z:Int):yH 26 [vp k 0,vi z] (z3 yA k (L,S)::R) fun w L2=>w=(if 0≤z∧z<S.Q.n then vp (L.c z.toNat) 0 else .ptr none)∧L2=z3 yA k (L,S)::R:=by
 refine ze (yB k L S) fun y _=> ?_
 dsimp only [yV,List.cons_append,List.nil_append]
 have hl:((List.range S.Q.n).map L.c).length=S.Q.n:=by simp
 refine SW.intro rfl Tryz.func26 rfl ?_
 refine O0 9 J (z5 (fun h6=> ?_) (fun h6=> ?_))
 ·refine Z 16 J (zI J J J ?_)
  rw [if_neg (by omega)]
  exact⟨_,⟨rfl,rfl⟩,Sub.trans (M:=yV k L S y R) Y yp⟩
 refine Z 4 J (fa J Y (lf J Y uI (qJ rfl (fun _ h=>yI rfl rfl rfl rfl rfl h) ?_)))
 refine qI (congrArg (fun n:Nat=>vi n) hl) ?_
 refine Z 1 J (z5 (fun YQ=> ?_) (fun YQ=> ?_))
 ·refine Z 8 J (zI J J J ?_)
  rw [if_neg (by omega)]
  exact⟨_,⟨rfl,rfl⟩,Sub.trans (M:=yV k L S y R) Y yp⟩
 have hz:0≤z∧z<S.Q.n:=by omega
 have Yi:((List.range S.Q.n).map L.c)[z.toNat]? =some (L.c z.toNat):=gj L.c (by omega)
 refine Z 8 J (fa J Y (lf J Y uI (Z 1 J (qJ rfl (fun _ h=>yg rfl rfl rfl (by omega) (by omega) h) ?_))))
 refine lE 0 J Y J Yi J (Z 3 J (zI J J J ?_))
 rw [if_pos hz]
 exact⟨_,⟨rfl,rfl⟩,Sub.trans (M:=yV k L S y R) Y yp⟩
theorem IP {S:KS} {y:KY} {z:Int} (h:S.of z=none):(if 0≤z∧z<4 then S.wx y z.toNat else .ptr none)=z0.ptr none:=by
 unfold KS.of at h
 split
 ·rename_i hz
  rw [if_pos hz]at h
  unfold KS.wx;rw [h]
 rfl
theorem IQ {S:KS} {y:KY} {p:Nat} {x:qB} (hp:p<4) (hx:S.pr p=some x):(if 0≤((p:Nat):Int)∧((p:Nat):Int)<4 then S.wx y ((p:Nat):Int).toNat else .ptr none)=vp (y.a p) 0:=by
 rw [if_pos (by omega),show((p:Nat):Int).toNat=p from rfl]
 unfold KS.wx;rw [hx]
theorem ir (R:List SP) (k:Nat) (L:KL) (S:KS) (z:Int) (hz:S.of z=none):yH 39 [vp k 0,vi z] (z3 yA k (L,S)::R) fun w L2=>w= .tuple [.agg (YF (fun _=>0) (.slice none 0 (some 0) 0) 0),.bool false]∧L2=z3 yA k (L,S)::R:=by
 refine ze (yB k L S) fun y _=> ?_
 dsimp only [yV,List.cons_append,List.nil_append]
 refine SW.intro rfl Tryz.func39 rfl ?_
 refine O0 2 J (zn rfl rfl rfl fun i4=> ?_)
 refine Z 6 J (Z1 (Lm _ _ L S y z) J Y (qI (IP hz) ?_))
 refine Z 6 J (zo rfl (fun _=>zG rfl rfl rfl rfl) ?_)
 refine Z 4 J (bu [_,_,_,_,_,_,_,_,_,_] J Y Y J (sN J Y Y J J J (Z 3 J (⟨.inr rfl,_,fun _ h=>(zu (yQ rfl (yo rfl (Nat.le_of_ble_eq_true rfl) h)) (zu (zm rfl) qY)),?_⟩))))
 exact⟨_,⟨rfl,rfl⟩,Sub.trans (M:=yV k L S y R) Y yp⟩
theorem sA (R:List SP) (k:Nat) (L:KL) (S:KS) (p:Nat) (x:qB) (hp:p<4) (hx:S.pr p=some x) (gE:x.code.length≤1000):yH 39 [vp k 0,vi p] (z3 yA k (L,S)::R) fun w L2=> ∃v,w= .tuple [.agg (YF x.w v x.pc),.bool true]∧L2=z3 (zX qs 4) v x.code::z3 yA k (L,S)::R:=by
 refine ze (yB k L S) fun y _=> ?_
 dsimp only [yV,List.cons_append,List.nil_append]
 refine SW.sub ?_ (Qi hp hx (k:=k) (L:=L) (S:=S) (y:=y) (R:=R))
 dsimp only [W8,WJ]
 refine SW.intro rfl Tryz.func39 rfl ?_
 refine O0 2 J (zn rfl rfl rfl fun i4=> ?_)
 refine Z 4 J (jl (K:=zX qs 4) (qX (y.cd p) x.code) fun cb=> ?_)
 generalize y.cd p=cd0 at cb ⊢
 refine yW (v:=cd0) fun dU da di Ct _=> ?_
 subst Ct
 refine Z 2 J (Z1 (Lm _ _ L S y (p:Nat)) J Y (qI (IQ hp hx) ?_))
 refine Z 6 J (zo rfl (fun _=>zG rfl rfl rfl rfl) ?_)
 refine Z 7 J (fa J Y (lN J Y Y J J (zn rfl rfl rfl fun i7=> ?_)))
 refine sN J Y Y J J J (Z 3 J (fa J Y (ld J Y J (yY (JJ _ _ _ (by omega)) rfl (fun _=>rfl) ?_))))
 rintro u20 _ rfl
 refine yW (v:=u20) fun mM ma mi Cu _=> ?_
 subst Cu
 refine fa J Y (sO J Y J J J (Z 3 J (lN J Y Y J J (sN J Y Y J J J (Z 3 J (⟨.inr rfl,_,fun _ h=>(zu (yQ rfl (yo rfl (Nat.le_of_ble_eq_true rfl) h)) (zu (zm rfl) qY)),?_⟩))))))
 refine⟨_,⟨_,rfl,rfl⟩,Sub.trans (Sub.one (K:=zC) (a:=y.a p) (K2:=zC) (a2:=y.a p) (x2:=YF (x.w) ((.slice dU x.code.length da di)) (x.pc)++ [vp (y.v p) 0]) fun _ e=>e) (Sub.trans (M:=z3 (zX qs 4) (.slice mM x.code.length ma mi) x.code::D7 k L S y p x (.slice dU x.code.length da di) R) Y (Sub.wU (ik hp hx)))⟩
def Zy (x:z0×List qG):SP:=z3 (zX qs 4) x.1 x.2
abbrev mY (cv:z0) (vs:Nat→z0) (cs:List (List qG)):List SP:= [z3 (zX gH 1) cv ((List.range cs.length).map vs),z3 (zL Zy) 0 (List.range cs.length,fun i=>(vs i,cs.getD i []))]
def Wf (cv:z0) (cs:List (List qG)):SP:=fun h=> ∃vs:Nat→z0,True∧Sat (mY cv vs cs) h
theorem fO (cv:z0) (cs:List (List qG)): ∀h,Wf cv cs h→ ∃vs:Nat→z0,True∧Sat (mY cv vs cs) h:=fun _ h=>h
theorem uv {cv:z0} {cs:List (List qG)} {vs:Nat→z0} : ∀h,Sat (mY cv vs cs) h→Wf cv cs h:=fun _ s=>⟨vs,trivial,s⟩
abbrev GU (n:Nat):List z0:= [vu n]
def q6 (M:zF) (l:List Nat):Nat→zF
 |0=>M
 |j+1=>if j<16 then(q6 M l j).write (8+(j:Nat)) (l.getD j 0)else q6 M l j
abbrev KS.zero (fr zE:Int) (zM inv:Bool) (M:zF):KS:=⟨fr,zE,zM,inv,M,[],[],⟨zE.toNat,fun _=>⟨4,2,fun _=> []⟩,⟨8,4,fun _=> []⟩⟩,⟨fun _=>0,zE.toNat,fun _ _=>false,0⟩,zg.new zE.toNat,[],fun _=>⟨0,0,[]⟩,fun _=>none⟩
abbrev qB.new (code:List qG) (Sp:y5):qB:=⟨fun _=>0,0,code,qx,[],[],Sp⟩
abbrev KS.born (S:KS) (i:Nat) (code:List qG) (s:PM) (Sp:y5):KS:= { S with M:=s.M,Rf:=s.R,Q:=S.Q.gQ (i:Nat),pr:=fun q=>if q=i then some (qB.new code Sp)else S.pr q }
def KS.vY (S:KS) (cs:List (List qG)):Nat→Option KS
 |0=>some S
 |j+1=>match S.vY cs j with
  |none=>none
  |some T=>match PM.space ⟨T.M,T.Rf⟩ T.zM 3 13 (j:Nat)with
   |none=>none
   |some (s,Sp)=>some (T.born j (cs.getD j []) s Sp)
def KS.wL (S:KS):Nat→KS
 |0=>S
 |c+1=>((S.wL c).pick c).leave c
def y6 (fr:Int) (zM:Bool):zF:=pI (zF.new (min fr 64).toNat) zM
def Zx (fr zE:Int) (zM inv:Bool) (zZ:List Nat) (cs:List (List qG)):Int×Option KS:=
 if wh fr zE=false then(1,none)else
 if 4<cs.length∨(cs.any fun c=> !codeOk c)=true then(1,none)else
 match(KS.zero fr zE zM inv (q6 (y6 fr zM) zZ zZ.length)).vY cs cs.length with
 |none=>(5,none)
 |some S=>(0,some (S.wL zE.toNat))
def jB (q:Nat→Bool):Nat→Int
 |0=> -1
 |n+1=>if 0≤jB q n then jB q n else if q n then(n:Nat)else-1
theorem JX {q:Nat→Bool} : ∀ {n:Nat},(∀j,j<n→q j=false)→jB q n= -1:=by
 intro n
 induction n with
 |zero=>intro _;rfl
 |succ n ih=>
  intro h
  unfold jB
  rw [ih fun j hj=>h j (by omega),if_neg (by decide),h n (by omega)];rfl
theorem fZ {q:Nat→Bool} {c:Nat} (hc:q c=true) (ho: ∀j,j<c→q j=false): ∀ {n:Nat},c<n→jB q n=(c:Nat):=by
 intro n
 induction n with
 |zero=>intro h;omega
 |succ n ih=>
  intro h
  unfold jB
  rcases Nat.lt_or_ge c n with h1|h1
  ·rw [ih h1,if_pos (by omega)]
  have:c=n:=by omega
  subst this
  rw [JX ho,if_neg (by decide),if_pos hc]
theorem cJ (q:Nat→Bool): ∀n:Nat,decide (jB q n≥0)=(List.range n).any q:=by
 intro n
 induction n with
 |zero=>rfl
 |succ n ih=>
  rw [List.range_succ,List.any_append,←ih]
  simp only [List.any_cons,List.any_nil,Bool.or_false]
  by_cases h:0≤jB q n
  ·rw [show jB q (n+1)=jB q n from if_pos h,show decide (jB q n≥0)=true from decide_eq_true h];rfl
  rw [show jB q (n+1)=if q n then((n:Nat):Int)else-1 from if_neg h,show decide (jB q n≥0)=false from decide_eq_false h]
  cases hq:q n with
  |true=>simp
  |false=>simp
theorem nq (cs:List (List qG)) (p:List qG→Bool):(List.range cs.length).any (fun j=>p (cs.getD j []))=cs.any p:=by
 have:cs=(List.range cs.length).map fun j=>cs.getD j []:=by
  apply List.ext_getElem?
  intro j
  by_cases h:j<cs.length
  ·rw [List.getElem?_map,List.getElem?_range h]
   simp [List.getElem?_eq_getElem h]
  rw [List.getElem?_eq_none (by omega),List.getElem?_eq_none (by simp;omega)]
 conv=>rhs;rw [this]
 rw [List.any_map];rfl
structure pA (S T:KS) (j:Nat):Prop where
 fr:T.fr=S.fr
 zE:T.zE=S.zE
 zM:T.zM=S.zM
 inv:T.inv=S.inv
 Ws:T.Ws=S.Ws
 H:T.H=S.H
 N:T.N=S.N
 ww:T.ww=S.ww
 U:T.U=S.U
 n:T.Q.n=S.Q.n
 on:T.Q.on=S.Q.on
 last:T.Q.last=S.Q.last
 no: ∀q,j≤q→T.pr q=none
 al: ∀q,T.Q.al q=(T.pr q).isSome
 j6: ∀q,q<j→(T.pr q).isSome=true
theorem pA.next {S T:KS} {j:Nat} (h:pA S T j) (hj:j<4) (code:List qG) (s:PM) (Sp:y5):pA S (T.born j code s Sp) (j+1):=by
 have hw:T.Q.gQ (j:Nat)=T.Q.vO j true:=if_pos (by omega)
 refine⟨h.fr,h.zE,h.zM,h.inv,h.Ws,h.H,h.N,h.ww,h.U,?_,?_,?_,fun q hq=> ?_,fun q=> ?_,fun q hq=> ?_⟩
 ·show(T.Q.gQ j).n=_;rw [hw];exact h.n
 ·show(T.Q.gQ j).on=_;rw [hw];exact h.on
 ·show(T.Q.gQ j).last=_;rw [hw];exact h.last
 ·show(if q=j then _ else T.pr q)=none
  rw [if_neg (by omega)];exact h.no q (by omega)
 ·show(T.Q.gQ j).al q=(if q=j then some (qB.new code Sp)else T.pr q).isSome
  rw [hw]
  show(if q=j then true else T.Q.al q)=_
  split
  ·rfl
  exact h.al q
 show(if q=j then some (qB.new code Sp)else T.pr q).isSome=true
 split
 ·rfl
 exact h.j6 q (by omega)
theorem Qo {S:KS} (hS:pA S S 0) (cs:List (List qG)) (hl:cs.length≤4): ∀ {j:Nat} {T:KS},j≤cs.length→S.vY cs j=some T→pA S T j:=by
 intro j
 induction j with
 |zero=>intro T _ h;cases h;exact hS
 |succ j ih=>
  intro T hj h
  unfold KS.vY at h
  split at h
  ·cases h
  rename_i T1 h1
  split at h
  ·cases h
  cases h
  exact(ih (by omega) h1).next (by omega) _ _ _
theorem JK (fr zE:Int) (zM inv:Bool) (M:zF):pA (KS.zero fr zE zM inv M) (KS.zero fr zE zM inv M) 0:=
 ⟨rfl,rfl,rfl,rfl,rfl,rfl,rfl,rfl,rfl,rfl,rfl,rfl,fun _ _=>rfl,fun _=>rfl,fun _ h=>absurd h (Nat.not_lt_zero _)⟩
theorem sa {S:KS} (hS: ∀p,S.pr p=none) (hR:wM S.Rf 1) (cs:List (List qG)) (hc: ∀c,c ∈ cs→codeOk c=true): ∀ {j:Nat} {T:KS},j≤cs.length→S.vY cs j=some T→(∀p x,T.pr p=some x→x.Ok 1)∧wM T.Rf 1:=by
 intro j
 induction j with
 |zero=>intro T _ h;cases h;exact⟨fun p x hx=>(by rw [hS p]at hx;cases hx),hR⟩
 |succ j ih=>
  intro T hj h
  unfold KS.vY at h
  split at h
  ·cases h
  rename_i T1 h1
  obtain⟨g1,g2⟩:=ih (by omega) h1
  split at h
  ·cases h
  rename_i s Sp hs
  cases h
  refine⟨fun p x hx=> ?_,JC hs g2 (by decide)⟩
  have hx:(if p=j then some (qB.new (cs.getD j []) Sp)else T1.pr p)=some x:=hx
  split at hx
  ·cases hx
   have uE:j<cs.length:=by omega
   have Cg:codeOk (cs.getD j [])=true:=hc _ (by rw [List.getD_eq_getElem?_getD,List.getElem?_eq_getElem uE];exact List.getElem_mem uE)
   refine⟨fun _=>Nat.zero_le _,?_,⟨Int.le_refl _,by show(0:Int)≤24;omega⟩,?_⟩
   ·unfold codeOk at Cg
    rw [Bool.and_eq_true]at Cg
    exact of_decide_eq_true Cg.1
   have:=JD hs
   show Sp.tables.length≤_;omega
  exact g1 p x hx
theorem fB {fr zE:Int} {zM inv:Bool} {M:zF} (Rr:1≤zE∧zE≤2) (cs:List (List qG)) (hl:cs.length≤4) (hc: ∀c,c ∈ cs→codeOk c=true) {T:KS} (h:(KS.zero fr zE zM inv M).vY cs cs.length=some T):T.yv 1∧T.N.gen=0∧T.Q.n=zE.toNat:=by
 have hb:=Qo (JK fr zE zM inv M) cs hl (Nat.le_refl _) h
 obtain⟨h1,h2⟩:=sa (S:=KS.zero fr zE zM inv M) (fun _=>rfl) (fun z=>show(0:Int)≤1 by decide) cs hc (Nat.le_refl _) h
 have hn:T.Q.n=zE.toNat:=hb.n
 refine⟨⟨by rw [hn];omega,by rw [hb.N,hn],by rw [hb.H,hn],⟨fun d hd h0=> ?_,fun d e hd he nV h0=> ?_⟩,fun p _=>hb.al p,fun p hp=>hb.no p (by omega),h1,fun z=>by have:=h2 z;omega,fun a ha=> ?_,Nat.le_refl _⟩,by rw [hb.N],hn⟩
 ·rw [hb.on]at h0
  have h0:(0:Int)≤ -1:=h0
  omega
 ·rw [hb.on]at h0
  have h0:(0:Int)≤ -1:=h0
  omega
 rw [hb.ww]at ha;cases ha
theorem JF {T:KS} (h:T.yv 1): ∀j,j≤T.Q.n→(T.wL j).yv 1∧(T.wL j).N.gen≤T.N.gen+3*j∧(T.wL j).Q.n=T.Q.n:=by
 intro j
 induction j with
 |zero=>intro _;exact⟨h,by show T.N.gen≤_;omega,rfl⟩
 |succ j ih=>
  intro hj
  obtain⟨h1,h2,h3⟩:=ih (by omega)
  have h4:=h1.pick (c:=j) (by omega)
  have h5:=gx h4 j
  have h6:((T.wL j).pick j).N.gen=(T.wL j).N.gen:=rfl
  refine⟨h4.leave j,?_,?_⟩
  ·show(((T.wL j).pick j).leave j).N.gen≤_
   push_cast;omega
  show(((T.wL j).pick j).leave j).Q.n=_
  rw [(jV _ _).2.1]
  show((T.wL j).Q.pick j).2.n=_
  rw [zg.u5];exact h3
abbrev r9 (k:Nat) (L:KL) (S:KS) (y:KY) (j:Nat) (R:List SP):List SP:=
 z3 zO k (18,kF L S y)::z3 (zX j3 1) y.cv ((List.range j).map L.c)::z3 zY L.m S.M::z3 zi L.p ⟨L.m,S.Rf⟩::z3 yM L.sw S.Ws::z3 qj L.h S.H::z3 wV L.n S.N::z3 zC L.pp [.chan (some y.ch)]::z3 qC y.ch (4,S.ww.map vu)::
 z3 vT L.q S.Q::z3 (zL WG) k (List.range j,fun i=>(L.c i,S.zQ L i))::z3 (zL gI) k (List.range 4,S.qL L y)::R
theorem Hs (L:KL) (fr zE:Int) (zM inv:Bool) (M:zF) (ch:Nat): ∀j,j<18→([vi fr,vi zE,.bool zM,.bool inv,vp L.m 0,vp L.p 0,vp L.sw 0,vi 3,vi 13,.ptr none,.ptr none,.ptr none,.ptr none,.slice none 0 (some 0) 0,vp L.h 0,vp L.n 0,vp L.pp 0,vp L.q 0]:List z0)[j]? =some (kF L (KS.zero fr zE zM inv M) ⟨.slice none 0 (some 0) 0,fun _=>0,fun _=>0,fun _=> .slice none 0 (some 0) 0,ch⟩ j):=by
 intro j hj
 match j,hj with
 |0,_=>rfl
 |1,_=>rfl
 |2,_=>rfl
 |3,_=>rfl
 |4,_=>rfl
 |5,_=>rfl
 |6,_=>rfl
 |7,_=>rfl
 |8,_=>rfl
 |9,_=>rfl
 |10,_=>rfl
 |11,_=>rfl
 |12,_=>rfl
 |13,_=>rfl
 |14,_=>rfl
 |15,_=>rfl
 |16,_=>rfl
 |17,_=>rfl
 |j+18,hj=>exact absurd hj (by omega)
theorem pz {k:Nat} {f:Nat→Nat×Nat×z0×Option (qB×YV)} (hf: ∀j,(f j).2.2.2=none) (R:List SP): ∀n,Sub R (z3 (zL gI) k (List.range n,f)::R)
 |0=>QL
 |n+1=>by
  refine(pz (k:=k) hf R n).trans ?_
  have e:gI (f n)=Sat []:=by unfold gI;rw [hf n]
  have h1:Sub (z3 (zL gI) k (List.range n,f)::R) (gI (f n)::z3 (zL gI) k (List.range n,f)::R):=⟨fun h s=>by
   rw [e]
   exact qo (L:= []) s⟩
  exact h1.trans (Zn (K:=gI) (g:=f) fun _ _=>rfl)
theorem Au {k:Nat} {L:KL} {fr zE:Int} {zM inv:Bool} {M:zF} {ch:Nat} {R:List SP} :
 Sub (z3 zC k [vi fr,vi zE,.bool zM,.bool inv,vp L.m 0,vp L.p 0,vp L.sw 0,vi 3,vi 13,.ptr none,.ptr none,.ptr none,.ptr none,.slice none 0 (some 0) 0,vp L.h 0,vp L.n 0,vp L.pp 0,vp L.q 0]::z3 zY L.m M::z3 zi L.p ⟨L.m,[]⟩::z3 yM L.sw []::z3 qj L.h ⟨zE.toNat,fun _=>⟨4,2,fun _=> []⟩,⟨8,4,fun _=> []⟩⟩::
  z3 wV L.n ⟨fun _=>0,zE.toNat,fun _ _=>false,0⟩::z3 zC L.pp [.chan (some ch)]::z3 qC ch (4,([]:List z0))::z3 vT L.q (zg.new zE.toNat)::R)
  (r9 k L (KS.zero fr zE zM inv M) ⟨.slice none 0 (some 0) 0,fun _=>0,fun _=>0,fun _=> .slice none 0 (some 0) 0,ch⟩ 0 R):=by
 refine Sub.trans (Sub.one (K:=zC) (a:=k) (K2:=zO) (a2:=k) (x2:=(18,kF L (KS.zero fr zE zM inv M) ⟨.slice none 0 (some 0) 0,fun _=>0,fun _=>0,fun _=> .slice none 0 (some 0) 0,ch⟩)) fun f hf=>vE (cs:= [vi fr,vi zE,.bool zM,.bool inv,vp L.m 0,vp L.p 0,vp L.sw 0,vi 3,vi 13,.ptr none,.ptr none,.ptr none,.ptr none,.slice none 0 (some 0) 0,vp L.h 0,vp L.n 0,vp L.pp 0,vp L.q 0]) (Hs L fr zE zM inv M ch) f hf) ?_
 refine Sub.wU ?_
 refine(Sub.jF (α:=Nat) (en:=j3) (es:=1) (fun _=>rfl) (by decide) 0 _).trans ?_
 refine Sub.wU ?_
 iterate 8 refine Sub.wU ?_
 exact(pz (k:=k) (f:=(KS.zero fr zE zM inv M).qL L ⟨.slice none 0 (some 0) 0,fun _=>0,fun _=>0,fun _=> .slice none 0 (some 0) 0,ch⟩) (fun _=>rfl) R 4).trans (QL (K:=WG) (b:=k) (f:=fun i=>(L.c i,(KS.zero fr zE zM inv M).zQ L i)))
theorem og {k i a v n:Nat} {L:KL} {S:KS} {y:KY} {cd:z0} {code:List qG} {s:PM} {Sp:y5} {R:List SP} (hi:i<4) (hS:S.pr i=none):
 Sub (z3 zO k (18,upd (kF L S y) (i+9) (vp a 0))::z3 (zX j3 1) y.cv ((List.range n).map L.c)::z3 zY L.m s.M::z3 zi L.p ⟨L.m,s.R⟩::z3 yM L.sw S.Ws::z3 qj L.h S.H::z3 wV L.n S.N::z3 zC L.pp [.chan (some y.ch)]::z3 qC y.ch (4,S.ww.map vu)::z3 vT L.q (S.Q.gQ (i:Nat))::
  z3 (zL WG) k (List.range n,fun j=>(L.c j,S.zQ L j))::WJ a v cd (fun _=>0) 0 code ⟨S.W L,(i:Nat),qx,[],[],Sp⟩ (z3 (zL gI) k (List.range 4,S.qL L y)::R))
  (r9 k L (S.born i code s Sp) ⟨y.cv,fun j=>if j=i then a else y.a j,fun j=>if j=i then v else y.v j,fun j=>if j=i then cd else y.cd j,y.ch⟩ n R):=by
 have hf:upd (kF L S y) (i+9) (vp a 0)=kF L (S.born i code s Sp) ⟨y.cv,fun j=>if j=i then a else y.a j,fun j=>if j=i then v else y.v j,fun j=>if j=i then cd else y.cd j,y.ch⟩:=by
  funext j
  refine cy hi (by simp only [KS.wx,if_true]) (fun j hj=> ?_) (fun j h=> ?_) j
  ·simp only [KS.wx,if_neg hj]
  exact Gw h
 rw [hf]
 iterate 11 refine Sub.wU ?_
 have e1:Sub (WJ a v cd (fun _=>0) 0 code ⟨S.W L,(i:Nat),qx,[],[],Sp⟩ (z3 (zL gI) k (List.range 4,S.qL L y)::R)) (z3 (zL gI) k (List.range 4,S.qL L y)::WJ a v cd (fun _=>0) 0 code ⟨S.W L,(i:Nat),qx,[],[],Sp⟩ R):=Y
 refine e1.trans ((rT (p:=i) hi (by simp only [KS.qL,hS,Option.map_none])).trans ?_)
 have e2:Sub (z3 (zL gI) k ((List.range 4).erase i,S.qL L y)::WJ a v cd (fun _=>0) 0 code ⟨S.W L,(i:Nat),qx,[],[],Sp⟩ R) (WJ a v cd (fun _=>0) 0 code ⟨S.W L,(i:Nat),qx,[],[],Sp⟩ (z3 (zL gI) k ((List.range 4).erase i,S.qL L y)::R)):=Y
 exact e2.trans (Qn (x:=qB.new code Sp) hi (by simp only [KS.qL,if_true,Option.map_some]) fun j hj=>by simp only [KS.qL,if_neg hj])
theorem Bv {k c u t n:Nat} {L:KL} {S:KS} {y:KY} {cv:z0} {R:List SP} (hU:S.U n=⟨0,0,[]⟩):
 Sub (z3 zO k (18,upd (kF L S y) 13 cv)::z3 (zX j3 1) cv ((List.range n).map L.c++ [c])::z3 zY L.m S.M::z3 zi L.p ⟨L.m,S.Rf⟩::z3 yM L.sw S.Ws::z3 qj L.h S.H::z3 wV L.n S.N::z3 zC L.pp [.chan (some y.ch)]::z3 qC y.ch (4,S.ww.map vu)::z3 vT L.q S.Q::
  z3 gX c ⟨S.fr,S.zE,S.zM,S.inv,(n:Nat),u,⟨(n:Nat),0,0,t,[]⟩⟩::z3 (zL WG) k (List.range n,fun j=>(L.c j,S.zQ L j))::z3 (zL gI) k (List.range 4,S.qL L y)::R)
  (r9 k { L with c:=fun d=>if d=n then c else L.c d,u:=fun d=>if d=n then u else L.u d,t:=fun d=>if d=n then t else L.t d } S { y with cv:=cv } (n+1) R):=by
 have hf:upd (kF L S y) 13 cv=kF { L with c:=fun d=>if d=n then c else L.c d,u:=fun d=>if d=n then u else L.u d,t:=fun d=>if d=n then t else L.t d } S { y with cv:=cv } :=by
  funext j
  unfold upd
  by_cases e:j=13
  ·rw [if_pos e,e];rfl
  rw [if_neg e]
  rcases(by omega:j<9∨(9≤j∧j<13)∨14≤j)with h|h|h
  ·match j,h with
   |0,_=>rfl
   |1,_=>rfl
   |2,_=>rfl
   |3,_=>rfl
   |4,_=>rfl
   |5,_=>rfl
   |6,_=>rfl
   |7,_=>rfl
   |8,_=>rfl
  ·rcases(by omega:j=9∨j=10∨j=11∨j=12)with rfl|rfl|rfl|rfl<;>rfl
  match j,h with
  |14,_=>rfl
  |15,_=>rfl
  |16,_=>rfl
  |j+17,_=>rfl
 have hc:(List.range (n+1)).map (fun d=>if d=n then c else L.c d)=(List.range n).map L.c++ [c]:=by
  rw [List.range_succ,List.map_append,List.map_singleton,if_pos rfl]
  congr 1
  exact List.map_congr_left fun d hd=>if_neg (by have:=List.mem_range.1 hd;omega)
 rw [hf]
 unfold r9
 dsimp only
 rw [hc]
 iterate 10 refine Sub.wU ?_
 have hu:(⟨S.fr,S.zE,S.zM,S.inv,(n:Nat),u,⟨(n:Nat),0,0,t,[]⟩⟩:gT)=S.zQ { L with c:=fun d=>if d=n then c else L.c d,u:=fun d=>if d=n then u else L.u d,t:=fun d=>if d=n then t else L.t d } n:=by
  simp only [KS.zQ,hU,if_true]
 rw [hu]
 have:=Zn (K:=WG) (b:=k) (n:=n) (f:=fun j=>(L.c j,S.zQ L j)) (g:=fun j=>((if j=n then c else L.c j),S.zQ { L with c:=fun d=>if d=n then c else L.c d,u:=fun d=>if d=n then u else L.u d,t:=fun d=>if d=n then t else L.t d } j)) (R:=z3 (zL gI) k (List.range 4,S.qL L y)::R) (fun j hj=>by
  simp only [KS.zQ,if_neg (show j≠n by omega)])
 simp only [if_true]at this
 exact this
theorem sQ {P:Program} {F:zD} {zB:yy} {ops:Array Oper} {o:Oper} {l:List Oper} {T:Tm} {L:List SP} {Q:Tm→List SP→Prop} {t:TypeId} {x:Operand} {kk:IntKind} {n:Nat} (hM:(match yj P t with
 |some (.chan _ e)=>(match bytesOf P e with
  |some b=>Nat.ble b yi
  |none=>false)
 |_=>false)=true) (hw:zP ops T o=some true) (ho:o.op= .makeChan t x) (hx:zK T x=some (.int kk (.lit (n:Nat)))) (hn:n≤1024) (k: ∀i,WO P F zB ops l (zp T o.dst (.chan (some i))) (z3 qC i (n,[])::L) Q):WO P F zB ops (o::l) T L Q:=by
 intro H hH
 split at hM
 ·rename_i d e hu
  split at hM
  ·rename_i b hb
   have n1:uj (.int kk (.lit ((n:Nat):Int)))=some n:=rfl
   have b1:Nat.ble n 1024=true:=Nat.ble_eq_true_of_le hn
   exact qz hw (v:= .chan (some H.next)) (H':=H.alloc (.chan n [] 0 0)) (by simp only [yd,ho,jT,hu,hx,n1,hb,b1,hM,Bool.and_true,cond_true]) (k _ _ (hH.alloc fun f hf=>⟨0,0,hf⟩))
  cases hM
 cases hM
theorem pf {vs:Nat→z0} {cs:List (List qG)} {j:Nat} (hj:j<cs.length) (R:List SP):Sub (z3 (zL Zy) 0 (List.range cs.length,fun i=>(vs i,cs.getD i []))::R) (z3 (zX qs 4) (vs j) (cs.getD j [])::z3 (zL Zy) 0 ((List.range cs.length).erase j,fun i=>(vs i,cs.getD i []))::R):=
 vF (K:=Zy) (b:=0) (f:=fun i=>(vs i,cs.getD i [])) (wJ hj)
theorem rW {vs:Nat→z0} {cs:List (List qG)} {j:Nat} (hj:j<cs.length) (R:List SP):Sub (z3 (zX qs 4) (vs j) (cs.getD j [])::z3 (zL Zy) 0 ((List.range cs.length).erase j,fun i=>(vs i,cs.getD i []))::R) (z3 (zL Zy) 0 (List.range cs.length,fun i=>(vs i,cs.getD i []))::R):=
 jJ (K:=Zy) (b:=0) (f:=fun i=>(vs i,cs.getD i [])) (g:=fun i=>(vs i,cs.getD i [])) (wJ hj) List.nodup_range fun _ _ _=>rfl
theorem A9 (R:List SP):yH 65 [] (R) fun w L2=> ∃i c,w=vp i 0∧L2=z3 qC c (4,[])::z3 zC i [.chan (some c)]::R:=by
 refine SW.intro rfl Tryz.func65 rfl ?_
 refine O0 6 J (sQ (n:=4) (by kernel_rfl) rfl rfl rfl (by decide) fun i1=> ?_)
 refine bu [_] J Y Y J (yu rfl rfl rfl rfl fun i3=> ?_)
 exact Z 3 J (zI J J J ⟨_,⟨i3,i1,rfl,rfl⟩,(Sub.one (K:=zC) (a:=i3) (K2:=zC) (a2:=i3) (x2:= [.chan (some i1)]) fun _ e=>e).trans Y⟩)
theorem TD (R:List SP) (v:z0) (code:List qG) (hn:code.length≤1000000):yH 61 [v] (z3 (zX qs 4) v code::R) fun w L2=>w= .bool (!codeOk code)∧L2=z3 (zX qs 4) v code::R:=by
 refine SW.intro rfl Tryz.func61 rfl ?_
 exact O0 7 J (Z1 (DE _ _ code hn) J Y (Z 4 J (zI J J J fq)))
theorem Kx (E R:List SP) (v:z0) (xs:List z0) (hn:xs.length≤1000000) (q:Nat→Bool) (f:FuncId) (a b:List z0) (hf: ∀j x,xs[j]? =some x→ ∀R',yH f (a++ [x]++b) (E++R') fun w L=>w= .bool (q j)∧L=E++R'):yH 101 [v,.func f a b] (z3 (zX gH 1) v xs::(E++R)) fun w L=>w=vi (jB q xs.length)∧L=z3 (zX gH 1) v xs::(E++R):=by
 refine SW.intro rfl Tryz.func101 rfl ?_
 refine O0 8 J (qJ rfl (fun _ h=>yI rfl rfl rfl rfl rfl h) ?_)
 refine Z 3 J (zy (fun j T LZ=> ∃(c:Nat),(c≤xs.length)∧(∀k:Nat,k<c→q k=false)∧j=xs.length-c∧T.len=2∧Tm.get 0 T=some (v)∧Tm.get 1 T=some (.func f a b)∧Tm.get 7 T=some (vi (xs.length:Nat))∧Tm.get 8 T=some (vi (c:Nat))∧Sub LZ (z3 (zX gH 1) v xs::(E++R))) (xs.length) ⟨0,by omega,fun k h=>absurd h (Nat.not_lt_zero k),by omega,rfl,rfl,rfl,rfl,rfl,Y⟩ ?_)
 rintro j T L0 ⟨c,hc,YR,rfl,hl,g0,g1,g7,g8,yU⟩
 obtain⟨tg,rfl⟩:=GY hl g0 g1 g7 g8
 clear hl g0 g1 g7 g8
 refine yE yU ?_
 clear yU L0
 refine O0 3 J (z5 (fun h9=> ?_) (fun h9=> ?_))
 ·refine Z 16 J ?_
  obtain⟨x,hx⟩: ∃x,xs[c]? =some x:=⟨xs[c]'(by omega),List.getElem?_eq_getElem (by omega)⟩
  refine qJ rfl (fun _ h=>yg rfl rfl rfl (by omega) (by omega) h) ?_
  refine lE 0 J Y J hx J (zd (Yz (z3 (zX gH 1) v xs) E R) ?_)
  refine Z0 (hf c x hx (z3 (zX gH 1) v xs::R)) J (zd (jn (z3 (zX gH 1) v xs) E R) ?_)
  refine zV (fun j4=> ?_) (fun j4=> ?_)
  ·refine Z 8 J (Or.inr ⟨nofun,?_⟩)
   exact zI J J J ⟨_,⟨congrArg vi (fZ j4 YR (by omega)).symm,rfl⟩,Y⟩
  refine Z 4 J (ad J (Z 2 J ?_))
  exact Or.inl ⟨rfl,_,by omega,c+1,by omega,fun k hk=>by { rcases Nat.lt_succ_iff_lt_or_eq.1 hk with hk|rfl;exact YR k hk;exact j4 },rfl,rfl,rfl,rfl,rfl,rfl,Y⟩
 refine Z 4 J (Or.inr ⟨nofun,?_⟩)
 exact OX 5 J (zI J J J ⟨_,⟨congrArg vi (JX fun k hk=>YR k (by omega)).symm,rfl⟩,Y⟩)
theorem Kw (E R:List SP) (v:z0) (xs:List z0) (hn:xs.length≤1000000) (q:Nat→Bool) (f:FuncId) (a b:List z0) (hf: ∀j x,xs[j]? =some x→ ∀R',yH f (a++ [x]++b) (E++R') fun w L=>w= .bool (q j)∧L=E++R'):yH 60 [v,.func f a b] (z3 (zX gH 1) v xs::(E++R)) fun w L=>w= .bool ((List.range xs.length).any q)∧L=z3 (zX gH 1) v xs::(E++R):=by
 refine SW.intro rfl Tryz.func60 rfl ?_
 exact O0 8 J (Z0 (Kx _ _ _ _ hn q f a b hf) J (Z 4 J (zI J J J ⟨_,⟨congrArg z0.bool (cJ q xs.length),rfl⟩,Y⟩)))
theorem TA (L:KL) (fr zE:Int) (zM inv:Bool) (M M2:zF) (y:KY):kF L (KS.zero fr zE zM inv M) y=kF L (KS.zero fr zE zM inv M2) y:=rfl
theorem tZ {S:KS} {cs:List (List qG)} {jj:Nat} (h:S.vY cs (jj+1)=none): ∀ {n:Nat},jj<n→S.vY cs n=none:=by
 intro n
 induction n with
 |zero=>intro h;omega
 |succ n ih=>
  intro hn
  rcases Nat.lt_or_ge jj n with h1|h1
  ·unfold KS.vY
   rw [ih h1]
  have:jj=n:=by omega
  subst this
  exact h
theorem aX {fr zE:Int} (h:wh fr zE=true):1≤zE∧zE≤2∧24≤fr∧fr≤64:=by
 unfold wh j7 at h
 rw [Bool.and_eq_true]at h
 have h1:=of_decide_eq_true h.1
 have h2:=of_decide_eq_true h.2
 exact⟨h2.2.2.2.1,h2.2.2.2.2,h1,h2.2.1⟩
set_option maxHeartbeats 1000000 in
theorem Hu (R:List SP) (fr zE:Int) (zM inv:Bool) (sv:z0) (zZ:List Nat) (XX:zZ.length≤1000000) (hsw: ∀x,x ∈ zZ→x≤18446744073709551615) (cv:z0) (cs:List (List qG)) (XN:cs.length≤1000000) (gE: ∀jj,(cs.getD jj []).length≤1000000):yH 32 [.agg (Yf fr zE zM inv),sv,cv] (z3 (zX GU 1) sv zZ::z3 Wf cv cs::R) fun w L2=>match Zx fr zE zM inv zZ cs with|(e,some S)=> ∃k L,w= .tuple [vp k 0,vi e]∧L2=z3 yA k (L,S)::z3 (zX GU 1) sv zZ::z3 Wf cv cs::R|(e,none)=>w= .tuple [.ptr none,vi e]∧L2=z3 (zX GU 1) sv zZ::z3 Wf cv cs::R:=by
 refine ze (fO cv cs) fun vs _=> ?_
 dsimp only [mY,List.cons_append,List.nil_append]
 have hY:((List.range cs.length).map vs).length=cs.length:=by simp
 refine SW.intro rfl Tryz.func32 rfl ?_
 refine O0 2 J (yu rfl rfl rfl rfl fun i3=> ?_)
 refine Z 5 J (lN J Y Y J J (qZ (Kj _ _ _ _ _) rfl (fun _=>rfl) ?_))
 intro u21 L21 Hd
 rcases hb:wh fr zE with _|_
 ·rw [hb,if_neg nofun]at Hd
  obtain⟨rfl,rfl⟩:=Hd
  refine Z 3 J (zn rfl rfl rfl fun i8=> ?_)
  refine sN J Y Y J J J (Z 6 J (zo rfl (fun _=>zG rfl rfl rfl (uT rfl)) (dx (by omega) ?_)))
  refine Z 9 J (qt J J J J ?_)
  rw [show Zx fr zE zM inv zZ cs=(1,none)from if_pos hb]
  exact⟨_,⟨rfl,rfl⟩,Sub.trans (M:=z3 (zX GU 1) sv zZ::z3 (zX gH 1) cv ((List.range cs.length).map vs)::z3 (zL Zy) 0 (List.range cs.length,fun i=>(vs i,cs.getD i []))::R) Y (Sub.wU (Sub.qi (uv (vs:=vs)) (Sub.refl _)))⟩
 rw [hb,if_pos rfl]at Hd
 obtain⟨m,p,sw,rfl,rfl⟩:=Hd
 rw [show pI (zF.new (min fr 64).toNat) zM=y6 fr zM from rfl]
 obtain⟨kh,lS,hf1,hf2⟩:=aX hb
 have Uz:(min (max 1 zE) 2).toNat=zE.toNat:=by omega
 refine Z 3 J (zn rfl rfl rfl fun i8=> ?_)
 refine sN J Y Y J J J (Z 6 J (zo rfl (fun _=>zG rfl rfl rfl (uT rfl)) (qm (by omega) ?_)))
 refine Z 7 J (qJ rfl (fun _ h=>yI rfl rfl rfl rfl rfl h) ?_)
 refine qI (congrArg (fun n:Nat=>vi n) hY) ?_
 refine Z 1 J (z5 (fun Vj=> ?_) (fun Vj=> ?_))
 ·refine Z 12 J (qt J J J J ?_)
  have HR:4<cs.length∨(cs.any fun c=> !codeOk c)=true:=by { exact .inl (by omega) }
  rw [show Zx fr zE zM inv zZ cs=(1,none)by unfold Zx;rw [if_neg (by rw [hb];nofun),if_pos HR]]
  exact⟨_,⟨rfl,rfl⟩,Sub.trans (M:=z3 (zX GU 1) sv zZ::z3 (zX gH 1) cv ((List.range cs.length).map vs)::z3 (zL Zy) 0 (List.range cs.length,fun i=>(vs i,cs.getD i []))::R) Y (Sub.wU (Sub.qi (uv (vs:=vs)) (Sub.refl _)))⟩
 refine Z 2 J (zd (M:=z3 (zX gH 1) cv ((List.range cs.length).map vs)::([z3 (zL Zy) 0 (List.range cs.length,fun i=>(vs i,cs.getD i []))]++(z3 zC i8 (dC (Wd.mk fr zE zM inv m p sw 3 13))::z3 zC i3 (z0.agg (Yf fr zE zM inv)).cells::z3 zY m (y6 fr zM)::z3 zi p ⟨m,[]⟩::z3 yM sw []::z3 (zX GU 1) sv zZ::R))) (show Px.Sub _ (z3 (zX gH 1) cv ((List.range cs.length).map vs)::z3 (zL Zy) 0 (List.range cs.length,fun i=>(vs i,cs.getD i []))::z3 zC i8 (dC (Wd.mk fr zE zM inv m p sw 3 13))::z3 zC i3 (z0.agg (Yf fr zE zM inv)).cells::z3 zY m (y6 fr zM)::z3 zi p ⟨m,[]⟩::z3 yM sw []::z3 (zX GU 1) sv zZ::R)from Y) ?_)
 refine Z0 (Kw [z3 (zL Zy) 0 (List.range cs.length,fun i=>(vs i,cs.getD i []))] _ cv ((List.range cs.length).map vs) (by omega) (fun jj=> !codeOk (cs.getD jj [])) 61 [] [] (fun jj x hx R2=>by { have hj:jj<cs.length:=by { have:=(List.getElem?_eq_some_iff.1 hx).1;simpa using this };have hxv:x=vs jj:=by { rw [gj vs hj]at hx;cases hx;rfl };subst hxv;exact SW.sub (SW.out (TD (z3 (zL Zy) 0 ((List.range cs.length).erase jj,fun i=>(vs i,cs.getD i []))::R2) (vs jj) (cs.getD jj []) (gE jj)) (by { rintro v _ ⟨hv,rfl⟩;exact⟨_,⟨hv,rfl⟩,rW hj R2⟩ })) (pf hj R2) })) J ?_
 dsimp only [List.cons_append,List.nil_append]
 refine zV (fun Ax=> ?_) (fun Ax=> ?_)
 ·refine Z 9 J (qt J J J J ?_)
  have HR:4<cs.length∨(cs.any fun c=> !codeOk c)=true:=by { right;rw [←nq cs fun c=> !codeOk c,←hY];exact Ax }
  rw [show Zx fr zE zM inv zZ cs=(1,none)by unfold Zx;rw [if_neg (by rw [hb];nofun),if_pos HR]]
  exact⟨_,⟨rfl,rfl⟩,Sub.trans (M:=z3 (zX GU 1) sv zZ::z3 (zX gH 1) cv ((List.range cs.length).map vs)::z3 (zL Zy) 0 (List.range cs.length,fun i=>(vs i,cs.getD i []))::R) Y (Sub.wU (Sub.qi (uv (vs:=vs)) (Sub.refl _)))⟩
 have aq: ¬(4<cs.length∨(cs.any fun c=> !codeOk c)=true):=by { rintro (h|h);exact Vj (by omega);rw [←nq cs fun c=> !codeOk c,←hY,Ax]at h;cases h }
 have hl4:cs.length≤4:=by { rcases Nat.lt_or_ge 4 cs.length with h|h;exact absurd (.inl h) aq;exact h }
 have z12: ∀c,c ∈ cs→codeOk c=true:=fun c hc=>by { cases h:codeOk c with|true=>rfl|false=>exact absurd (.inr (List.any_eq_true.2 ⟨c,hc,by rw [h];rfl⟩)) aq }
 refine Z 5 J (zW [0,0,2,6,0,16,62,126,0,256,1022,2047,4095,8191] [([0,1,2,4,5,8,9],[0,2,5,9],some 3),([],[0,5,9],some 6),([],[0,9],some 7),([],[0,9],some 10),([11,12,13],[0],none)] (by kernel_rfl) ?_)
 refine z7 (kv J Y Y J J (zx J Y (q9 J Y J (zx J Y (q9 J Y J (zx J Y (q9 J Y J (z8 ⟨(Wm J Y Y J J J (z6 _ rfl) (yN J Y J J J (yN J Y J J J (yN J Y J J J z9)))),?_⟩))))))))
 refine qZ (Mh _ zE) rfl (fun _=>rfl) ?_
 rintro _ _ ⟨vn,rfl,rfl⟩
 rw [Uz]
 refine zJ (z7 (z8 ⟨(Wm J Y Y J J J (z6 _ rfl) (yN J Y J J J (yN J Y J J J z9))),?_⟩))
 refine qZ (O5 _ zE) rfl (fun _=>rfl) ?_
 rintro _ _ ⟨vo,rfl,rfl⟩
 rw [Uz]
 refine zJ (z7 (z8 ⟨(Wm J Y Y J J J (z6 _ rfl) (yN J Y J J J z9)),?_⟩))
 refine qZ (A9 _) rfl (fun _=>rfl) ?_
 rintro _ _ ⟨vq,mR,rfl,rfl⟩
 refine zJ (z7 (z8 ⟨(Wm J Y Y J J J (z6 _ rfl) (yN J Y J J J z9)),?_⟩))
 refine qZ (OH _ zE) rfl (fun _=>rfl) ?_
 rintro _ _ ⟨vr,rfl,rfl⟩
 rw [Uz]
 refine zJ (z7 (cz [_,_,_,_,_,_,_,_,_,_,_,_,_,_,_,_,_,_] J Y Y J (r8 rfl rfl rfl rfl fun i46=> ?_)))
 refine ZK 1 J (z8 ⟨(Wm J Y Y J J J (z6 _ rfl) z9),?_⟩)
 refine OX 3 J (zd (Sub.trans (Sub.one (K:=zC) (a:=i46) (K2:=zC) (a2:=i46) (x2:= [vi fr,vi zE,.bool zM,.bool inv,vp m 0,vp p 0,vp sw 0,vi 3,vi 13,.ptr none,.ptr none,.ptr none,.ptr none,.slice none 0 (some 0) 0,vp vn 0,vp vo 0,vp vq 0,vp vr 0]) fun _ e=>e) (Sub.trans ?_ (Au (k:=i46) (L:=(KL.mk m p sw vn vo vq vr (fun _=>0) (fun _=>0) (fun _=>0))) (fr:=fr) (zE:=zE) (zM:=zM) (inv:=inv) (M:=y6 fr zM) (ch:=mR) (R:=z3 zC i8 (dC ⟨fr,zE,zM,inv,m,p,sw,3,13⟩)::z3 zC i3 (z0.agg (Yf fr zE zM inv)).cells::z3 (zX GU 1) sv zZ::z3 (zX gH 1) cv ((List.range cs.length).map vs)::z3 (zL Zy) 0 (List.range cs.length,fun i=>(vs i,cs.getD i []))::R)))) ?_)
 ·exact Y
 dsimp only [r9]
 refine Z 1 J (qJ rfl (fun _ h=>yI rfl rfl rfl rfl rfl h) ?_)
 refine Z 3 J (zy (fun j T LZ=> ∃(jj:Nat),(jj≤zZ.length)∧j=zZ.length-jj∧T.len=9∧Tm.get 3 T=some (vp i3 0)∧Tm.get 8 T=some (vp i8 0)∧Tm.get 10 T=some (vp i46 0)∧Tm.get 2 T=some (cv)∧Tm.get 47 T=some (sv)∧Tm.get 48 T=some (vi (zZ.length:Nat))∧Tm.get 49 T=some (vi (jj:Nat))∧Sub LZ (z3 zO i46 (18,kF (KL.mk m p sw vn vo vq vr (fun _=>0) (fun _=>0) (fun _=>0)) (KS.zero fr zE zM inv (y6 fr zM)) (KY.mk (.slice none 0 (some 0) 0) (fun _=>0) (fun _=>0) (fun _=> .slice none 0 (some 0) 0) mR))::z3 (zX j3 1) (KY.mk (.slice none 0 (some 0) 0) (fun _=>0) (fun _=>0) (fun _=> .slice none 0 (some 0) 0) mR).cv ((List.range 0).map (KL.mk m p sw vn vo vq vr (fun _=>0) (fun _=>0) (fun _=>0)).c)::z3 zY m (q6 (y6 fr zM) zZ jj)::z3 zi p ⟨m,(KS.zero fr zE zM inv (y6 fr zM)).Rf⟩::z3 yM sw (KS.zero fr zE zM inv (y6 fr zM)).Ws::z3 qj vn (KS.zero fr zE zM inv (y6 fr zM)).H::z3 wV vo (KS.zero fr zE zM inv (y6 fr zM)).N::z3 zC vq [.chan (some (KY.mk (.slice none 0 (some 0) 0) (fun _=>0) (fun _=>0) (fun _=> .slice none 0 (some 0) 0) mR).ch)]::z3 qC (KY.mk (.slice none 0 (some 0) 0) (fun _=>0) (fun _=>0) (fun _=> .slice none 0 (some 0) 0) mR).ch (4,(KS.zero fr zE zM inv (y6 fr zM)).ww.map vu)::z3 vT vr (KS.zero fr zE zM inv (y6 fr zM)).Q::z3 (zL WG) i46 (List.range 0,fun d=>((KL.mk m p sw vn vo vq vr (fun _=>0) (fun _=>0) (fun _=>0)).c d,(KS.zero fr zE zM inv (y6 fr zM)).zQ (KL.mk m p sw vn vo vq vr (fun _=>0) (fun _=>0) (fun _=>0)) d))::z3 (zL gI) i46 (List.range 4,(KS.zero fr zE zM inv (y6 fr zM)).qL (KL.mk m p sw vn vo vq vr (fun _=>0) (fun _=>0) (fun _=>0)) (KY.mk (.slice none 0 (some 0) 0) (fun _=>0) (fun _=>0) (fun _=> .slice none 0 (some 0) 0) mR))::z3 zC i8 (dC ⟨fr,zE,zM,inv,m,p,sw,3,13⟩)::z3 zC i3 (z0.agg (Yf fr zE zM inv)).cells::z3 (zX GU 1) sv zZ::z3 (zX gH 1) cv ((List.range cs.length).map vs)::z3 (zL Zy) 0 (List.range cs.length,fun i=>(vs i,cs.getD i []))::R)) (zZ.length) ⟨0,by omega,by omega,rfl,rfl,rfl,rfl,rfl,rfl,rfl,rfl,(show Px.Sub _ (z3 zO i46 (18,kF (KL.mk m p sw vn vo vq vr (fun _=>0) (fun _=>0) (fun _=>0)) (KS.zero fr zE zM inv (y6 fr zM)) (KY.mk (.slice none 0 (some 0) 0) (fun _=>0) (fun _=>0) (fun _=> .slice none 0 (some 0) 0) mR))::z3 (zX j3 1) (KY.mk (.slice none 0 (some 0) 0) (fun _=>0) (fun _=>0) (fun _=> .slice none 0 (some 0) 0) mR).cv ((List.range 0).map (KL.mk m p sw vn vo vq vr (fun _=>0) (fun _=>0) (fun _=>0)).c)::z3 zY m (y6 fr zM)::z3 zi p ⟨m,(KS.zero fr zE zM inv (y6 fr zM)).Rf⟩::z3 yM sw (KS.zero fr zE zM inv (y6 fr zM)).Ws::z3 qj vn (KS.zero fr zE zM inv (y6 fr zM)).H::z3 wV vo (KS.zero fr zE zM inv (y6 fr zM)).N::z3 zC vq [.chan (some (KY.mk (.slice none 0 (some 0) 0) (fun _=>0) (fun _=>0) (fun _=> .slice none 0 (some 0) 0) mR).ch)]::z3 qC (KY.mk (.slice none 0 (some 0) 0) (fun _=>0) (fun _=>0) (fun _=> .slice none 0 (some 0) 0) mR).ch (4,(KS.zero fr zE zM inv (y6 fr zM)).ww.map vu)::z3 vT vr (KS.zero fr zE zM inv (y6 fr zM)).Q::z3 (zL WG) i46 (List.range 0,fun d=>((KL.mk m p sw vn vo vq vr (fun _=>0) (fun _=>0) (fun _=>0)).c d,(KS.zero fr zE zM inv (y6 fr zM)).zQ (KL.mk m p sw vn vo vq vr (fun _=>0) (fun _=>0) (fun _=>0)) d))::z3 (zL gI) i46 (List.range 4,(KS.zero fr zE zM inv (y6 fr zM)).qL (KL.mk m p sw vn vo vq vr (fun _=>0) (fun _=>0) (fun _=>0)) (KY.mk (.slice none 0 (some 0) 0) (fun _=>0) (fun _=>0) (fun _=> .slice none 0 (some 0) 0) mR))::z3 zC i8 (dC ⟨fr,zE,zM,inv,m,p,sw,3,13⟩)::z3 zC i3 (z0.agg (Yf fr zE zM inv)).cells::z3 (zX GU 1) sv zZ::z3 (zX gH 1) cv ((List.range cs.length).map vs)::z3 (zL Zy) 0 (List.range cs.length,fun i=>(vs i,cs.getD i []))::R)from Y)⟩ ?_)
 rintro j T L0 ⟨jj,hj,rfl,hl,g3,g8,YL,g2,RR,RS,RT,yU⟩
 obtain⟨tg,rfl⟩:=Xd hl g3 g8 YL g2 RR RS RT
 clear hl g3 g8 YL g2 RR RS RT
 refine yE yU ?_
 clear yU L0
 refine O0 3 J (z5 (fun LL=> ?_) (fun LL=> ?_))
 ·refine Z 9 J ?_
  have S9:jj<zZ.length:=by omega
  obtain⟨sx,NO⟩: ∃sx,zZ[jj]? =some sx:=⟨zZ[jj],List.getElem?_eq_getElem S9⟩
  have hsx:zZ.getD jj 0=sx:=by rw [List.getD_eq_getElem?_getD,NO];rfl
  have z1X:=hsw sx (List.mem_iff_getElem?.2 ⟨_,NO⟩)
  refine qJ rfl (fun _ h=>yg rfl rfl rfl (by omega) (by omega) h) ?_
  refine lE 0 J Y J NO J (Z 7 J (z5 (fun Ay=> ?_) (fun Ay=> ?_)))
  ·refine Z 3 J (fa J Y (ld J Y J (Z 1 J (ad J (Z 1 J (Z1 (Ys _ _ (q6 (y6 fr zM) zZ jj) _ (by omega) sx z1X) J Y (Z 2 J (ad J (Z 2 J ?_)))))))))
   exact Or.inl ⟨rfl,_,by omega,jj+1,by omega,rfl,rfl,rfl,rfl,rfl,rfl,rfl,rfl,rfl,(by have e:q6 (y6 fr zM) zZ (jj+1)=(q6 (y6 fr zM) zZ jj).write (8+(jj:Nat)) (zZ.getD jj 0):=if_pos (by omega);rw [e,hsx];exact Y)⟩
  refine Z 4 J (ad J (Z 2 J ?_))
  exact Or.inl ⟨rfl,_,by omega,jj+1,by omega,rfl,rfl,rfl,rfl,rfl,rfl,rfl,rfl,rfl,(by have e:q6 (y6 fr zM) zZ (jj+1)=q6 (y6 fr zM) zZ jj:=if_neg (by omega);rw [e];exact Y)⟩
 refine Z 4 J (Or.inr ⟨nofun,?_⟩)
 refine OX 4 J (qJ rfl (fun _ h=>yI rfl rfl rfl rfl rfl h) ?_)
 refine qI (congrArg (fun n:Nat=>vi n) hY) ?_
 refine Z 3 J ?_
 have S9:jj=zZ.length:=by omega
 subst S9
 refine yE (Sub.trans (Sub.one (K:=zO) (a:=i46) (K2:=zO) (a2:=i46) (x2:=(18,kF (KL.mk m p sw vn vo vq vr (fun _=>0) (fun _=>0) (fun _=>0)) (KS.zero fr zE zM inv (q6 (y6 fr zM) zZ zZ.length)) (KY.mk (.slice none 0 (some 0) 0) (fun _=>0) (fun _=>0) (fun _=> .slice none 0 (some 0) 0) mR))) fun f e=>(congrArg (fun q=>zO i46 (18,q) f) (TA (KL.mk m p sw vn vo vq vr (fun _=>0) (fun _=>0) (fun _=>0)) fr zE zM inv (y6 fr zM) (q6 (y6 fr zM) zZ zZ.length) (KY.mk (.slice none 0 (some 0) 0) (fun _=>0) (fun _=>0) (fun _=> .slice none 0 (some 0) 0) mR))).mp e) (show Px.Sub _ (z3 zO i46 (18,kF (KL.mk m p sw vn vo vq vr (fun _=>0) (fun _=>0) (fun _=>0)) (KS.zero fr zE zM inv (q6 (y6 fr zM) zZ zZ.length)) (KY.mk (.slice none 0 (some 0) 0) (fun _=>0) (fun _=>0) (fun _=> .slice none 0 (some 0) 0) mR))::z3 (zX j3 1) (KY.mk (.slice none 0 (some 0) 0) (fun _=>0) (fun _=>0) (fun _=> .slice none 0 (some 0) 0) mR).cv ((List.range 0).map (KL.mk m p sw vn vo vq vr (fun _=>0) (fun _=>0) (fun _=>0)).c)::z3 zY m (KS.zero fr zE zM inv (q6 (y6 fr zM) zZ zZ.length)).M::z3 zi p ⟨m,(KS.zero fr zE zM inv (q6 (y6 fr zM) zZ zZ.length)).Rf⟩::z3 yM sw (KS.zero fr zE zM inv (q6 (y6 fr zM) zZ zZ.length)).Ws::z3 qj vn (KS.zero fr zE zM inv (q6 (y6 fr zM) zZ zZ.length)).H::z3 wV vo (KS.zero fr zE zM inv (q6 (y6 fr zM) zZ zZ.length)).N::z3 zC vq [.chan (some (KY.mk (.slice none 0 (some 0) 0) (fun _=>0) (fun _=>0) (fun _=> .slice none 0 (some 0) 0) mR).ch)]::z3 qC (KY.mk (.slice none 0 (some 0) 0) (fun _=>0) (fun _=>0) (fun _=> .slice none 0 (some 0) 0) mR).ch (4,(KS.zero fr zE zM inv (q6 (y6 fr zM) zZ zZ.length)).ww.map vu)::z3 vT vr (KS.zero fr zE zM inv (q6 (y6 fr zM) zZ zZ.length)).Q::z3 (zL WG) i46 (List.range 0,fun d=>((KL.mk m p sw vn vo vq vr (fun _=>0) (fun _=>0) (fun _=>0)).c d,(KS.zero fr zE zM inv (q6 (y6 fr zM) zZ zZ.length)).zQ (KL.mk m p sw vn vo vq vr (fun _=>0) (fun _=>0) (fun _=>0)) d))::z3 (zL gI) i46 (List.range 4,(KS.zero fr zE zM inv (q6 (y6 fr zM) zZ zZ.length)).qL (KL.mk m p sw vn vo vq vr (fun _=>0) (fun _=>0) (fun _=>0)) (KY.mk (.slice none 0 (some 0) 0) (fun _=>0) (fun _=>0) (fun _=> .slice none 0 (some 0) 0) mR))::z3 zC i8 (dC ⟨fr,zE,zM,inv,m,p,sw,3,13⟩)::z3 zC i3 (z0.agg (Yf fr zE zM inv)).cells::z3 (zX GU 1) sv zZ::z3 (zX gH 1) cv ((List.range cs.length).map vs)::z3 (zL Zy) 0 (List.range cs.length,fun i=>(vs i,cs.getD i []))::R)from Y)) ?_
 refine zy (fun j T LZ=> ∃(jj:Nat) (KT:KS) (y:KY),(jj≤cs.length)∧((KS.zero fr zE zM inv (q6 (y6 fr zM) zZ zZ.length)).vY cs jj=some KT)∧j=cs.length-jj∧T.len=9∧Tm.get 3 T=some (vp i3 0)∧Tm.get 8 T=some (vp i8 0)∧Tm.get 10 T=some (vp i46 0)∧Tm.get 63 T=some (cv)∧Tm.get 64 T=some (vi (cs.length:Nat))∧Tm.get 65 T=some (vi (jj:Nat))∧Sub LZ (z3 zO i46 (18,kF (KL.mk m p sw vn vo vq vr (fun _=>0) (fun _=>0) (fun _=>0)) KT y)::z3 (zX j3 1) y.cv ((List.range 0).map (KL.mk m p sw vn vo vq vr (fun _=>0) (fun _=>0) (fun _=>0)).c)::z3 zY m KT.M::z3 zi p ⟨m,KT.Rf⟩::z3 yM sw KT.Ws::z3 qj vn KT.H::z3 wV vo KT.N::z3 zC vq [.chan (some y.ch)]::z3 qC y.ch (4,KT.ww.map vu)::z3 vT vr KT.Q::z3 (zL WG) i46 (List.range 0,fun d=>((KL.mk m p sw vn vo vq vr (fun _=>0) (fun _=>0) (fun _=>0)).c d,KT.zQ (KL.mk m p sw vn vo vq vr (fun _=>0) (fun _=>0) (fun _=>0)) d))::z3 (zL gI) i46 (List.range 4,KT.qL (KL.mk m p sw vn vo vq vr (fun _=>0) (fun _=>0) (fun _=>0)) y)::z3 zC i8 (dC ⟨fr,zE,zM,inv,m,p,sw,3,13⟩)::z3 zC i3 (z0.agg (Yf fr zE zM inv)).cells::z3 (zX GU 1) sv zZ::z3 (zX gH 1) cv ((List.range cs.length).map vs)::z3 (zL Zy) 0 (List.range cs.length,fun i=>(vs i,cs.getD i []))::R)) (cs.length) ⟨0,(KS.zero fr zE zM inv (q6 (y6 fr zM) zZ zZ.length)),(KY.mk (.slice none 0 (some 0) 0) (fun _=>0) (fun _=>0) (fun _=> .slice none 0 (some 0) 0) mR),by omega,rfl,by omega,rfl,rfl,rfl,rfl,rfl,rfl,rfl,Y⟩ ?_
 rintro j T L0 ⟨jj,KT,y,hj,hT,rfl,hl,g3,g8,YL,LH,LI,af,yU⟩
 obtain⟨tg,rfl⟩:=I4 hl g3 g8 YL LH LI af
 clear hl g3 g8 YL LH LI af
 refine yE yU ?_
 clear yU L0
 refine O0 3 J (z5 (fun Gs=> ?_) (fun Gs=> ?_))
 ·have XQ:jj<cs.length:=by omega
  have hj4:jj<4:=by omega
  have hB:=Qo (JK fr zE zM inv _) cs hl4 hj hT
  have XR:KT.zM=zM:=hB.zM
  have SX:KT.pr jj=none:=hB.no jj (Nat.le_refl _)
  have hvx:=gj vs XQ
  have dq:KT.Q.alive (jj:Nat)=false:=by { unfold zg.alive;rw [show((jj:Nat):Int).toNat=jj from rfl,hB.al jj,SX,Bool.and_comm];rfl }
  have hW:KT.W (KL.mk m p sw vn vo vq vr (fun _=>0) (fun _=>0) (fun _=>0))=(Wd.mk fr zE zM inv m p sw 3 13):=by simp only [KS.W,hB.fr,hB.zE,hB.zM,hB.inv]
  refine Z 9 J (qJ rfl (fun _ h=>yg rfl rfl rfl (by omega) (by omega) h) ?_)
  refine lE 0 J Y J hvx J (Z 5 J (lN J Y Y J J (Z 1 J (VT (Et _ (Wd.mk fr zE zM inv m p sw 3 13) (by show(3:Nat)<1099511627776;decide) (by show(13:Nat)<1099511627776;decide) KT.M KT.Rf (jj:Nat)) rfl (fun _=>rfl) ?_))))
  intro u73 L73 iX
  rcases dQ:PM.space ⟨KT.M,KT.Rf⟩ KT.zM 3 13 (jj:Nat)with _|⟨s,Sp⟩
  ·have NM:PM.space ⟨KT.M,KT.Rf⟩ (Wd.mk fr zE zM inv m p sw 3 13).zM (Wd.mk fr zE zM inv m p sw 3 13).mp (Wd.mk fr zE zM inv m p sw 3 13).gate (jj:Nat)=none:=by { show PM.space _ zM 3 13 _=none;rw [←XR];exact dQ }
   rw [NM]at iX
   obtain⟨rfl,rfl⟩:=iX
   have Rm:(KS.zero fr zE zM inv (q6 (y6 fr zM) zZ zZ.length)).vY cs (jj+1)=none:=by { unfold KS.vY;rw [hT];dsimp only;rw [dQ] }
   refine Z 19 J (Or.inr ⟨nofun,?_⟩)
   refine qt J J J J ?_
   have YR:(KS.zero fr zE zM inv (q6 (y6 fr zM) zZ zZ.length)).vY cs cs.length=none:=tZ Rm XQ
   rw [show Zx fr zE zM inv zZ cs=(5,none)by unfold Zx;rw [if_neg (by rw [hb];nofun),if_neg aq,YR]]
   exact⟨_,⟨rfl,rfl⟩,Sub.trans (M:=z3 (zX GU 1) sv zZ::z3 (zX gH 1) cv ((List.range cs.length).map vs)::z3 (zL Zy) 0 (List.range cs.length,fun i=>(vs i,cs.getD i []))::R) Y (Sub.wU (Sub.qi (uv (vs:=vs)) (Sub.refl _)))⟩
  have NM:PM.space ⟨KT.M,KT.Rf⟩ (Wd.mk fr zE zM inv m p sw 3 13).zM (Wd.mk fr zE zM inv m p sw 3 13).mp (Wd.mk fr zE zM inv m p sw 3 13).gate (jj:Nat)=some (s,Sp):=by { show PM.space _ zM 3 13 _=_;rw [←XR];exact dQ }
  rw [NM]at iX
  obtain⟨ID,rfl,rfl⟩:=iX
  have Rm:(KS.zero fr zE zM inv (q6 (y6 fr zM) zZ zZ.length)).vY cs (jj+1)=some (KT.born jj (cs.getD jj []) s Sp):=by { unfold KS.vY;rw [hT];dsimp only;rw [dQ] }
  refine Z 15 J (zW [0,0,0,4,12,0,60,124,1,257,1023,2047] [([0,1,2,5,8,9],[],some 3),([4,6,7,10],[],some 11),([],[],none)] (by kernel_rfl) ?_)
  refine z7 (ZK 5 J (zx J Y (z8 ⟨z9,?_⟩)))
  refine zd (Sub.trans (M:=z3 (zL Zy) 0 (List.range cs.length,fun i=>(vs i,cs.getD i []))::z3 WN ID (YV.mk (Wd.mk fr zE zM inv m p sw 3 13) (jj:Nat) qx [] [] Sp)::z3 zO i46 (18,kF (KL.mk m p sw vn vo vq vr (fun _=>0) (fun _=>0) (fun _=>0)) KT y)::z3 (zX j3 1) y.cv ((List.range 0).map (KL.mk m p sw vn vo vq vr (fun _=>0) (fun _=>0) (fun _=>0)).c)::z3 zY m s.M::z3 zi p ⟨m,s.R⟩::z3 yM sw KT.Ws::z3 qj vn KT.H::z3 wV vo KT.N::z3 zC vq [.chan (some y.ch)]::z3 qC y.ch (4,KT.ww.map vu)::z3 vT vr KT.Q::z3 (zL WG) i46 (List.range 0,fun d=>((KL.mk m p sw vn vo vq vr (fun _=>0) (fun _=>0) (fun _=>0)).c d,KT.zQ (KL.mk m p sw vn vo vq vr (fun _=>0) (fun _=>0) (fun _=>0)) d))::z3 (zL gI) i46 (List.range 4,KT.qL (KL.mk m p sw vn vo vq vr (fun _=>0) (fun _=>0) (fun _=>0)) y)::z3 zC i8 (dC ⟨fr,zE,zM,inv,m,p,sw,3,13⟩)::z3 zC i3 (z0.agg (Yf fr zE zM inv)).cells::z3 (zX GU 1) sv zZ::z3 (zX gH 1) cv ((List.range cs.length).map vs)::R) Y (pf XQ (z3 WN ID (YV.mk (Wd.mk fr zE zM inv m p sw 3 13) (jj:Nat) qx [] [] Sp)::z3 zO i46 (18,kF (KL.mk m p sw vn vo vq vr (fun _=>0) (fun _=>0) (fun _=>0)) KT y)::z3 (zX j3 1) y.cv ((List.range 0).map (KL.mk m p sw vn vo vq vr (fun _=>0) (fun _=>0) (fun _=>0)).c)::z3 zY m s.M::z3 zi p ⟨m,s.R⟩::z3 yM sw KT.Ws::z3 qj vn KT.H::z3 wV vo KT.N::z3 zC vq [.chan (some y.ch)]::z3 qC y.ch (4,KT.ww.map vu)::z3 vT vr KT.Q::z3 (zL WG) i46 (List.range 0,fun d=>((KL.mk m p sw vn vo vq vr (fun _=>0) (fun _=>0) (fun _=>0)).c d,KT.zQ (KL.mk m p sw vn vo vq vr (fun _=>0) (fun _=>0) (fun _=>0)) d))::z3 (zL gI) i46 (List.range 4,KT.qL (KL.mk m p sw vn vo vq vr (fun _=>0) (fun _=>0) (fun _=>0)) y)::z3 zC i8 (dC ⟨fr,zE,zM,inv,m,p,sw,3,13⟩)::z3 zC i3 (z0.agg (Yf fr zE zM inv)).cells::z3 (zX GU 1) sv zZ::z3 (zX gH 1) cv ((List.range cs.length).map vs)::R))) ?_
  refine yY (JJ _ (vs jj) (cs.getD jj []) (gE jj)) rfl (fun _=>rfl) ?_
  rintro u81 _ rfl
  refine yW (v:=u81) fun BR Bz CB Sq _=> ?_
  subst Sq
  refine zd (Sub.trans (M:=z3 (zX qs 4) (vs jj) (cs.getD jj [])::z3 (zL Zy) 0 ((List.range cs.length).erase jj,fun i=>(vs i,cs.getD i []))::z3 (zX qs 4) (z0.slice BR (cs.getD jj []).length Bz CB) (cs.getD jj [])::z3 WN ID (YV.mk (Wd.mk fr zE zM inv m p sw 3 13) (jj:Nat) qx [] [] Sp)::z3 zO i46 (18,kF (KL.mk m p sw vn vo vq vr (fun _=>0) (fun _=>0) (fun _=>0)) KT y)::z3 (zX j3 1) y.cv ((List.range 0).map (KL.mk m p sw vn vo vq vr (fun _=>0) (fun _=>0) (fun _=>0)).c)::z3 zY m s.M::z3 zi p ⟨m,s.R⟩::z3 yM sw KT.Ws::z3 qj vn KT.H::z3 wV vo KT.N::z3 zC vq [.chan (some y.ch)]::z3 qC y.ch (4,KT.ww.map vu)::z3 vT vr KT.Q::z3 (zL WG) i46 (List.range 0,fun d=>((KL.mk m p sw vn vo vq vr (fun _=>0) (fun _=>0) (fun _=>0)).c d,KT.zQ (KL.mk m p sw vn vo vq vr (fun _=>0) (fun _=>0) (fun _=>0)) d))::z3 (zL gI) i46 (List.range 4,KT.qL (KL.mk m p sw vn vo vq vr (fun _=>0) (fun _=>0) (fun _=>0)) y)::z3 zC i8 (dC ⟨fr,zE,zM,inv,m,p,sw,3,13⟩)::z3 zC i3 (z0.agg (Yf fr zE zM inv)).cells::z3 (zX GU 1) sv zZ::z3 (zX gH 1) cv ((List.range cs.length).map vs)::R) Y (rW XQ (z3 (zX qs 4) (z0.slice BR (cs.getD jj []).length Bz CB) (cs.getD jj [])::z3 WN ID (YV.mk (Wd.mk fr zE zM inv m p sw 3 13) (jj:Nat) qx [] [] Sp)::z3 zO i46 (18,kF (KL.mk m p sw vn vo vq vr (fun _=>0) (fun _=>0) (fun _=>0)) KT y)::z3 (zX j3 1) y.cv ((List.range 0).map (KL.mk m p sw vn vo vq vr (fun _=>0) (fun _=>0) (fun _=>0)).c)::z3 zY m s.M::z3 zi p ⟨m,s.R⟩::z3 yM sw KT.Ws::z3 qj vn KT.H::z3 wV vo KT.N::z3 zC vq [.chan (some y.ch)]::z3 qC y.ch (4,KT.ww.map vu)::z3 vT vr KT.Q::z3 (zL WG) i46 (List.range 0,fun d=>((KL.mk m p sw vn vo vq vr (fun _=>0) (fun _=>0) (fun _=>0)).c d,KT.zQ (KL.mk m p sw vn vo vq vr (fun _=>0) (fun _=>0) (fun _=>0)) d))::z3 (zL gI) i46 (List.range 4,KT.qL (KL.mk m p sw vn vo vq vr (fun _=>0) (fun _=>0) (fun _=>0)) y)::z3 zC i8 (dC ⟨fr,zE,zM,inv,m,p,sw,3,13⟩)::z3 zC i3 (z0.agg (Yf fr zE zM inv)).cells::z3 (zX GU 1) sv zZ::z3 (zX gH 1) cv ((List.range cs.length).map vs)::R))) ?_
  refine zJ (z7 (cz [_,_,_,_,_,_,_,_,_,_] J Y Y J (cz [_,_,_,_,_,_,_,_,_,_,_] J Y Y J (r8 rfl rfl rfl rfl fun i85=> ?_))))
  refine uc rfl (fun _=>zw rfl rfl rfl (by omega) (by omega)) ?_
  refine z8 ⟨z9,?_⟩
  refine sF J Y J J (zJ (z7 (z8 ⟨z9,?_⟩)))
  refine OX 3 J (fa J Y (lf J Y (Li (L:=(KL.mk m p sw vn vo vq vr (fun _=>0) (fun _=>0) (fun _=>0))) (S:=KT) (y:=y) (q:=jj) (v:=vp i85 0) hj4) (Z 1 J (Z1 (o8 _ _ KT.Q (jj:Nat) dq) J Y (Z 2 J (ad J (Z 2 J ?_)))))))
  exact Or.inl ⟨rfl,_,by omega,jj+1,(KT.born jj (cs.getD jj []) s Sp),(KY.mk y.cv (fun q=>if q=jj then i85 else y.a q) (fun q=>if q=jj then ID else y.v q) (fun q=>if q=jj then(z0.slice BR (cs.getD jj []).length Bz CB)else y.cd q) y.ch),by omega,Rm,rfl,rfl,rfl,rfl,rfl,rfl,rfl,rfl,(Sub.trans (Sub.one (K:=zO) (a:=i46) (K2:=zO) (a2:=i46) (x2:=(18,upd (kF (KL.mk m p sw vn vo vq vr (fun _=>0) (fun _=>0) (fun _=>0)) KT y) (jj+9) (vp i85 0))) fun _ e=>e) (Sub.trans (Sub.one (K:=zC) (a:=i85) (K2:=zC) (a2:=i85) (x2:=YF (fun _=>0) (z0.slice BR (cs.getD jj []).length Bz CB) 0++ [vp ID 0]) fun _ e=>e) (Sub.trans (Sub.one (K:=WN) (a:=ID) (K2:=WN) (a2:=ID) (x2:=YV.mk (KT.W (KL.mk m p sw vn vo vq vr (fun _=>0) (fun _=>0) (fun _=>0))) (jj:Nat) qx [] [] Sp) fun _ e=>by rw [hW];exact e) (Sub.trans Y (og (k:=i46) (i:=jj) (a:=i85) (v:=ID) (n:=0) (L:=(KL.mk m p sw vn vo vq vr (fun _=>0) (fun _=>0) (fun _=>0))) (S:=KT) (y:=y) (cd:=(z0.slice BR (cs.getD jj []).length Bz CB)) (code:=cs.getD jj []) (s:=s) (Sp:=Sp) (R:=z3 zC i8 (dC ⟨fr,zE,zM,inv,m,p,sw,3,13⟩)::z3 zC i3 (z0.agg (Yf fr zE zM inv)).cells::z3 (zX GU 1) sv zZ::z3 (zX gH 1) cv ((List.range cs.length).map vs)::z3 (zL Zy) 0 (List.range cs.length,fun i=>(vs i,cs.getD i []))::R) hj4 SX)))))⟩
 refine Z 4 J (Or.inr ⟨nofun,?_⟩)
 refine OX 3 J (fa J Y (ld J Y J (Z 3 J ?_)))
 have S9:jj=cs.length:=by omega
 subst S9
 have hTT:=hT
 obtain⟨gF,hgn,hnQ⟩:=fB ⟨kh,lS⟩ cs hl4 z12 hTT
 have hB:=Qo (JK fr zE zM inv _) cs hl4 (Nat.le_refl _) hTT
 refine zy (fun j T LZ=> ∃(jj:Nat) (cf uf tf:Nat→Nat) (y:KY),(jj≤zE.toNat)∧j=zE.toNat-jj∧T.len=9∧Tm.get 3 T=some (vp i3 0)∧Tm.get 10 T=some (vp i46 0)∧Tm.get 97 T=some (vi zE)∧Tm.get 98 T=some (vi (jj:Nat))∧Sub LZ (z3 zO i46 (18,kF (KL.mk m p sw vn vo vq vr cf uf tf) KT y)::z3 (zX j3 1) y.cv ((List.range jj).map (KL.mk m p sw vn vo vq vr cf uf tf).c)::z3 zY m KT.M::z3 zi p ⟨m,KT.Rf⟩::z3 yM sw KT.Ws::z3 qj vn KT.H::z3 wV vo KT.N::z3 zC vq [.chan (some y.ch)]::z3 qC y.ch (4,KT.ww.map vu)::z3 vT vr KT.Q::z3 (zL WG) i46 (List.range jj,fun d=>((KL.mk m p sw vn vo vq vr cf uf tf).c d,KT.zQ (KL.mk m p sw vn vo vq vr cf uf tf) d))::z3 (zL gI) i46 (List.range 4,KT.qL (KL.mk m p sw vn vo vq vr cf uf tf) y)::z3 zC i8 (dC ⟨fr,zE,zM,inv,m,p,sw,3,13⟩)::z3 zC i3 (z0.agg (Yf fr zE zM inv)).cells::z3 (zX GU 1) sv zZ::z3 (zX gH 1) cv ((List.range cs.length).map vs)::z3 (zL Zy) 0 (List.range cs.length,fun i=>(vs i,cs.getD i []))::R)) (zE.toNat) ⟨0,(fun _=>0),(fun _=>0),(fun _=>0),y,by omega,by omega,rfl,rfl,rfl,rfl,rfl,Y⟩ ?_
 rintro j T L0 ⟨jj,cf,uf,tf,y,hj,rfl,hl,g3,YL,g97,g98,yU⟩
 obtain⟨tg,rfl⟩:=GY hl g3 YL g97 g98
 clear hl g3 YL g97 g98
 refine yE yU ?_
 clear yU L0
 refine O0 3 J (z5 (fun h99=> ?_) (fun h99=> ?_))
 ·have hjn:jj<zE.toNat:=by omega
  refine Z 8 J (jl (K:=zX j3 1) (qX y.cv ((List.range jj).map cf)) fun j5=> ?_)
  replace j5:=jH j5
  refine Z 3 J (zW [0,0,2,6,14,0,0,96,224,510,1023,2047,4095] [([0,1,2,3,4,5,6],[4,5],some 7),([8],[4],some 9),([10,11],[],some 12),([],[],none)] (by kernel_rfl) ?_)
  refine z7 (ZK 3 J (zx J Y (YO J Y (uI (L:=(KL.mk m p sw vn vo vq vr cf uf tf)) (S:=KT) (y:=y)) (kv J Y Y J J (ZK 1 J (z8 ⟨(jP J Y (uI (L:=(KL.mk m p sw vn vo vq vr cf uf tf)) (S:=KT) (y:=y)) J (z6 _ j5) (Wm J Y Y J J J (z6 _ rfl) z9)),?_⟩))))))
  refine qZ (Bw _ fr zE zM inv (jj:Nat)) rfl (fun _=>rfl) ?_
  rintro _ _ ⟨DW,Ei,t108,rfl,rfl⟩
  refine zJ (z7 (uy (cs:= [_]) rfl rfl rfl (by decide) rfl fun i109=> ?_))
  refine z8 ⟨(jP J Y (uI (L:=(KL.mk m p sw vn vo vq vr cf uf tf)) (S:=KT) (y:=y)) J (z6 _ j5) z9),?_⟩
  refine ZQ rfl rfl rfl rfl rfl rfl rfl ([DW]) rfl rfl (by simp) (by rw [List.length_map,List.length_range];omega) rfl fun i110 O9 MZ=> ?_
  refine zJ (z7 (ZK 1 J (zx J Y (z8 ⟨z9,?_⟩))))
  refine sF J Y J J (zJ (z7 (z8 ⟨z9,?_⟩)))
  refine OX 1 J (ad J (Z 2 J ?_))
  exact Or.inl ⟨rfl,_,by omega,jj+1,(fun d=>if d=jj then DW else cf d),(fun d=>if d=jj then Ei else uf d),(fun d=>if d=jj then t108 else tf d),KY.mk (z0.slice (some (i110,O9)) (((List.range jj).map cf).length+1) MZ 1) y.a y.v y.cd y.ch,by omega,rfl,rfl,rfl,rfl,rfl,rfl,(Sub.trans (Sub.one (K:=zO) (a:=i46) (K2:=zO) (a2:=i46) (x2:=(18,upd (kF (KL.mk m p sw vn vo vq vr cf uf tf) KT y) 13 (z0.slice (some (i110,O9)) (((List.range jj).map cf).length+1) MZ 1))) fun _ e=>e) (Sub.trans (Sub.one (K:=gX) (a:=DW) (K2:=gX) (a2:=DW) (x2:=gT.mk KT.fr KT.zE KT.zM KT.inv (jj:Nat) Ei (yS.mk (jj:Nat) 0 0 t108 [])) fun _ e=>by rw [hB.fr,hB.zE,hB.zM,hB.inv];exact e) (Sub.trans Y (Bv (k:=i46) (c:=DW) (u:=Ei) (t:=t108) (n:=jj) (L:=(KL.mk m p sw vn vo vq vr cf uf tf)) (S:=KT) (y:=y) (cv:=(z0.slice (some (i110,O9)) (((List.range jj).map cf).length+1) MZ 1)) (R:=z3 zC i8 (dC ⟨fr,zE,zM,inv,m,p,sw,3,13⟩)::z3 zC i3 (z0.agg (Yf fr zE zM inv)).cells::z3 (zX GU 1) sv zZ::z3 (zX gH 1) cv ((List.range cs.length).map vs)::z3 (zL Zy) 0 (List.range cs.length,fun i=>(vs i,cs.getD i []))::R) (by rw [hB.U])))))⟩
 refine Z 4 J (Or.inr ⟨nofun,?_⟩)
 refine OX 3 J (fa J Y (ld J Y J (Z 3 J ?_)))
 obtain rfl:jj=KT.Q.n:=by omega
 refine yE (Sub.trans (M:=yV i46 (KL.mk m p sw vn vo vq vr cf uf tf) KT y (z3 zC i8 (dC ⟨fr,zE,zM,inv,m,p,sw,3,13⟩)::z3 zC i3 (z0.agg (Yf fr zE zM inv)).cells::z3 (zX GU 1) sv zZ::z3 (zX gH 1) cv ((List.range cs.length).map vs)::z3 (zL Zy) 0 (List.range cs.length,fun i=>(vs i,cs.getD i []))::R)) Y yp) ?_
 refine zy (fun j T LZ=> ∃(jj:Nat),(jj≤zE.toNat)∧j=zE.toNat-jj∧T.len=9∧Tm.get 10 T=some (vp i46 0)∧Tm.get 115 T=some (vi zE)∧Tm.get 116 T=some (vi (jj:Nat))∧Sub LZ (z3 yA i46 ((KL.mk m p sw vn vo vq vr cf uf tf),KT.wL jj)::z3 zC i8 (dC ⟨fr,zE,zM,inv,m,p,sw,3,13⟩)::z3 zC i3 (z0.agg (Yf fr zE zM inv)).cells::z3 (zX GU 1) sv zZ::z3 (zX gH 1) cv ((List.range cs.length).map vs)::z3 (zL Zy) 0 (List.range cs.length,fun i=>(vs i,cs.getD i []))::R)) (zE.toNat) ⟨0,by omega,by omega,rfl,rfl,rfl,rfl,(show Px.Sub _ (z3 yA i46 ((KL.mk m p sw vn vo vq vr cf uf tf),KT)::z3 zC i8 (dC ⟨fr,zE,zM,inv,m,p,sw,3,13⟩)::z3 zC i3 (z0.agg (Yf fr zE zM inv)).cells::z3 (zX GU 1) sv zZ::z3 (zX gH 1) cv ((List.range cs.length).map vs)::z3 (zL Zy) 0 (List.range cs.length,fun i=>(vs i,cs.getD i []))::R)from Y)⟩ ?_
 rintro j T L0 ⟨jj,hj,rfl,hl,YL,RH,RI,yU⟩
 obtain⟨tg,rfl⟩:=FV hl YL RH RI
 clear hl YL RH RI
 refine yE yU ?_
 clear yU L0
 refine O0 3 J (z5 (fun z06=> ?_) (fun z06=> ?_))
 ·have hjn:jj<zE.toNat:=by omega
  obtain⟨SK,hgs,SJ⟩:=JF gF jj (by omega)
  obtain⟨TS,hTS⟩: ∃TS,TS=KT.wL jj:=⟨_,rfl⟩
  rw [←hTS]at SK hgs SJ ⊢
  have hcj:jj<TS.Q.n:=by omega
  have Wp:=SK.pick hcj
  have z10:jj<(TS.pick jj).Q.n:=by { show jj<(TS.Q.pick jj).2.n;rw [zg.u5];exact hcj }
  have HV:(TS.pick jj).N.gen≤4611686018427387000:=by { show TS.N.gen≤_;omega }
  refine Z 13 J (wj (yB i46 (KL.mk m p sw vn vo vq vr cf uf tf) TS) fun y9 _=> ?_)
  dsimp only [yV,List.cons_append,List.nil_append]
  refine Z 2 J (fa J Y (lf J Y (UL (L:=(KL.mk m p sw vn vo vq vr cf uf tf)) (S:=TS) (y:=y9)) (Z 1 J (Z1 (GL _ _ TS.Q (jj:Nat)) J Y (zd (Sub.trans ?_ (uh (k:=i46) (R:=z3 zC i8 (dC ⟨fr,zE,zM,inv,m,p,sw,3,13⟩)::z3 zC i3 (z0.agg (Yf fr zE zM inv)).cells::z3 (zX GU 1) sv zZ::z3 (zX gH 1) cv ((List.range cs.length).map vs)::z3 (zL Zy) 0 (List.range cs.length,fun i=>(vs i,cs.getD i []))::R) (L:=(KL.mk m p sw vn vo vq vr cf uf tf)) (S:=TS) (S':=TS.pick jj) (y:=y9) (y':=y9) (zg.u5 _ _) (fun _=>rfl) rfl rfl (show kF (KL.mk m p sw vn vo vq vr cf uf tf) TS y9=kF (KL.mk m p sw vn vo vq vr cf uf tf) (TS.pick jj) y9 from rfl))) ?_)))))
  ·exact Y
  refine Z 4 J (Z1 (gO _ i46 (KL.mk m p sw vn vo vq vr cf uf tf) (TS.pick jj) jj z10 Wp.runs HV) J Y (Z 2 J (ad J (Z 2 J ?_))))
  exact Or.inl ⟨rfl,_,by omega,jj+1,by omega,rfl,rfl,rfl,rfl,rfl,(by show Px.Sub _ (z3 yA i46 ((KL.mk m p sw vn vo vq vr cf uf tf),((KT.wL jj).pick jj).leave jj)::z3 zC i8 (dC ⟨fr,zE,zM,inv,m,p,sw,3,13⟩)::z3 zC i3 (z0.agg (Yf fr zE zM inv)).cells::z3 (zX GU 1) sv zZ::z3 (zX gH 1) cv ((List.range cs.length).map vs)::z3 (zL Zy) 0 (List.range cs.length,fun i=>(vs i,cs.getD i []))::R);rw [←hTS];exact Y)⟩
 refine Z 4 J (Or.inr ⟨nofun,?_⟩)
 refine OX 7 J (qt J J J J ?_)
 have hjn:jj=zE.toNat:=by omega
 subst hjn
 rw [show Zx fr zE zM inv zZ cs=(0,some (KT.wL zE.toNat))by unfold Zx;rw [if_neg (by rw [hb];nofun),if_neg aq,hTT]]
 exact⟨_,⟨i46,(KL.mk m p sw vn vo vq vr cf uf tf),rfl,rfl⟩,Sub.trans (M:=z3 yA i46 ((KL.mk m p sw vn vo vq vr cf uf tf),KT.wL zE.toNat)::z3 (zX GU 1) sv zZ::z3 (zX gH 1) cv ((List.range cs.length).map vs)::z3 (zL Zy) 0 (List.range cs.length,fun i=>(vs i,cs.getD i []))::R) Y (Sub.wU (Sub.wU (Sub.qi (uv (vs:=vs)) (Sub.refl _))))⟩
structure KS.K (o:Nat) (S T:KS):Prop where
 n:T.Q.n=S.Q.n
 on:T.Q.on o=S.Q.on o
 pr: ∀p:Nat,S.Q.on o=(p:Int)→T.pr p=S.pr p
 root:(T.U o).root=(S.U o).root
 gen:S.N.gen≤T.N.gen
 yC:(T.U o).yC=(S.U o).yC∨S.N.gen<T.N.gen
def KS.Rt (S:KS) (d:Nat):Prop:= ∀(p:Nat) (x:qB),S.Q.on d=(p:Int)→S.pr p=some x→(S.U d).root=(x.S.user:Nat)
section
variable {S T V:KS} {b o c p:Nat} {x:qB}
theorem KS.K.refl (o:Nat) (S:KS):S.K o S:=⟨rfl,rfl,fun _ _=>rfl,rfl,Int.le_refl _,.inl rfl⟩
theorem KS.K.trans (h:KS.K o S T) (k:KS.K o T V):KS.K o S V:=
 ⟨k.n.trans h.n,k.on.trans h.on,fun p hp=>(k.pr p (h.on.trans hp)).trans (h.pr p hp),k.root.trans h.root,Int.le_trans h.gen k.gen,by
  have h1:=h.gen
  have k1:=k.gen
  rcases h.yC with h2|h2
  ·rcases k.yC with k2|k2
   ·exact .inl (k2.trans h2)
   exact .inr (by omega)
  exact .inr (by omega)⟩
theorem KS.K.rt (h:KS.K o S T) (hr:S.Rt o):T.Rt o:=fun p x hp hx=>by
 rw [h.root];exact hr p x (h.on.symm.trans hp) ((h.pr p (h.on.symm.trans hp)).symm.trans hx)
theorem UA {Q:zg} {c:Nat} (h:c<Q.n):Q.zQ (c:Nat)=Q.on c:=if_pos (by omega)
theorem lY (hc:o≠c) (u:Av):KS.K o S (S.WL c u):=by
 have e:(S.WL c u).U o=S.U o:=if_neg hc
 exact⟨rfl,rfl,fun _ _=>rfl,by rw [e],Int.le_refl _,.inl (by rw [e])⟩
theorem BC (hc:o≠c) (xs:List uO) (H:yF):KS.K o S (S.q8 c xs H):=by
 have e:(S.q8 c xs H).U o=S.U o:=if_neg hc
 exact⟨rfl,rfl,fun _ _=>rfl,by rw [e],Int.le_refl _,.inl (by rw [e])⟩
theorem B8 (j:Nat):KS.K o S (S.qM j):=by
 have e:((S.qM j).U o).root=(S.U o).root∧((S.qM j).U o).yC=(S.U o).yC:=by
  show((if o<j then { S.U o with xs:= [] } else S.U o:Av)).root=_∧((if o<j then { S.U o with xs:= [] } else S.U o:Av)).yC=_
  split<;>exact⟨rfl,rfl⟩
 exact⟨rfl,rfl,fun _ _=>rfl,e.1,Int.le_refl _,.inl e.2⟩
theorem K_N {N:zh} (h:N.gen=S.N.gen):KS.K o S { S with N:=N } :=⟨rfl,rfl,fun _ _=>rfl,rfl,by show S.N.gen≤N.gen;omega,.inl rfl⟩
theorem mH (p:Nat):KS.K o S (S.flush p):=K_N (S.N.Zm _).2
theorem mG (p:Nat) (z:Int):KS.K o S (S.done p z).2:=by
 unfold KS.done;dsimp only;split
 ·exact mH p
 exact .refl o S
theorem Ga (hp:S.Q.on o≠(p:Int)) (y:Option qB):KS.K o S (S.vA p y):=
 ⟨rfl,rfl,fun q hq=>if_neg (fun e=>hp (by rw [hq,e])),rfl,Int.le_refl _,.inl rfl⟩
theorem WQ (hp:S.Q.on o≠(p:Int)) (x:qB) (v:zA):KS.K o S (S.qu p x v):=
 ⟨rfl,rfl,fun q hq=>if_neg (fun e=>hp (by rw [hq,e])),rfl,Int.le_refl _,.inl rfl⟩
theorem Kz (hp:S.Q.on o≠(p:Int)) (f:qB→qB):KS.K o S (S.l9 p f):=
 ⟨rfl,rfl,fun q hq=>if_neg (fun e=>hp (by rw [hq,e])),rfl,Int.le_refl _,.inl rfl⟩
theorem PS (H:yF) (M:zF):KS.K o S { S with H:=H,M:=M } :=⟨rfl,rfl,fun _ _=>rfl,rfl,Int.le_refl _,.inl rfl⟩
theorem mI (hc:c<S.Q.n) (ho:o≠c):KS.K o S (S.pick c):=⟨zg.u5 _ _,(S.Q.GC c hc).1 o ho,fun _ _=>rfl,rfl,Int.le_refl _,.inl rfl⟩
theorem ML (q:Int):KS.K o S { S with Q:=S.Q.gQ q } :=by
 have e:(S.Q.gQ q).n=S.Q.n∧(S.Q.gQ q).on o=S.Q.on o:=by unfold zg.gQ;split<;>exact⟨rfl,rfl⟩
 exact⟨e.1,e.2,fun _ _=>rfl,rfl,Int.le_refl _,.inl rfl⟩
theorem MH (h:S.yv b) (ho:o<S.Q.n) (hx:S.pr p=some x) (hp:S.Q.on o≠(p:Int)):KS.K o S (S.exit p x):=by
 have hl:=h.lt hx
 have ha:S.Q.alive (p:Nat)=true:=by rw [h.alive hl,hx];rfl
 refine⟨zg.xf _ _,?_,fun q hq=>if_neg (fun e=>hp (by rw [hq,e])),rfl,?_,.inl rfl⟩
 ·show(S.Q.fin (p:Nat)).on o=_
  rw [S.Q.CI h.q p ha o ho,if_neg hp]
 show S.N.gen≤(S.N.drop p).gen
 rw [(S.N.UE _).2];exact Int.le_refl _
theorem MJ (h:S.yv b) (ho:o<S.Q.n) (hx:S.pr p=some x) (hp:S.Q.on o≠(p:Int)) (i:qG):KS.K o S (S.fork p x i).2:=by
 unfold KS.fork
 cases hf:S.free with
 |none=>exact .refl o S
 |some q=>
  have hq:S.Q.on o≠(q:Int):=fun e=>by
   have hr:=h.runs o ho (by rw [UA ho,e];omega)
   obtain⟨_,y,hy⟩:=hr
   rw [UA ho,e]at hy
   have:(S.pr q).isSome=true:=by rw [show((q:Nat):Int).toNat=q from rfl]at hy;rw [hy];rfl
   rw [((free_spec (S:=S) (i:=0) (k:=4)).1 q hf).2.2.1]at this
   cases this
  dsimp only
  rcases hv:zA.fork (S.vs x) S.W0 (q:Nat)with⟨bad,_|⟨cf,cS⟩,v⟩
  ·exact WQ hp x v
  dsimp only
  refine(WQ hp x v).trans ((Ga (p:=q) (S:=S.qu p x v) hq _).trans ((ML (q:Nat)).trans (mH p)))
theorem B7 (h:S.yv b) (ho:o<S.Q.n) (hx:S.pr p=some x) (hp:S.Q.on o≠(p:Int)) (i:qG):KS.K o S (S.answer p x i).2:=by
 unfold KS.answer
 split
 ·exact(WQ hp x _).trans (mG p _)
 split
 ·exact(WQ hp x _).trans (mG p _)
 split
 ·exact(WQ hp x _).trans (mG p _)
 split
 ·exact(WQ hp x _).trans (mG p _)
 split
 ·exact MJ h ho hx hp i
 split
 ·split
  ·exact⟨rfl,rfl,fun _ _=>rfl,rfl,Int.le_refl _,.inl rfl⟩
  exact .refl o S
 split
 ·split
  ·exact .refl o S
  exact⟨rfl,rfl,fun _ _=>rfl,rfl,Int.le_refl _,.inl rfl⟩
 exact .refl o S
theorem FY (h:S.yv b) (ho:o<S.Q.n) (hx:S.pr p=some x) (hp:S.Q.on o≠(p:Int)) (i:qG):KS.K o S (S.jv p x i):=by
 unfold KS.jv
 split
 ·exact MH h ho hx hp
 have k:=B7 h ho hx hp i
 exact k.trans (Kz (by rw [k.on];exact hp) _)
theorem kQ (hc:o≠c) (p:Nat) (x:qB):KS.K o S (S.enter c p x):=lY hc _
theorem FZ (h:S.yv b) (ho:o<S.Q.n) (hc:c<S.Q.n) (ZL:o≠c) (hx:S.pr p=some x) (hp:S.Q.on o≠(p:Int)) (i:qG):KS.K o S (S.call2 c p x i):=by
 have k:=(kQ (S:=S) ZL p x).trans (FY (h.enter c p x) (p:=p) (x:=x) (o:=o) ho hx hp i)
 unfold KS.call2
 split
 ·exact k.trans (mI (by rw [k.n];exact hc) ZL)
 exact k
theorem B9 (ZL:o≠c) (hp:S.Q.on o≠(p:Int)) (at_:Nat) (write:Bool):KS.K o S (S.ue c p x at_ write):=by
 unfold KS.ue
 split
 ·exact(kQ ZL p x).trans ((WQ (S:=S.enter c p x) hp x _).trans (Kz (by exact hp) _))
 exact(kQ ZL p x).trans ((WQ (S:=S.enter c p x) hp x _).trans (mH p))
theorem Uc (ZL:o≠c):KS.K o S (S.yx c):=by
 unfold KS.yx
 split
 ·rename_i x hx
  have hg:((S.N.ask (S.Q.zQ c).toNat).2.2.take c (S.N.ask (S.Q.zQ c).toNat).1).2.gen=(S.N.ask (S.Q.zQ c).toNat).2.2.gen:=zh.V5 _ _ _
  have S5:S.N.gen≤((S.N.ask (S.Q.zQ c).toNat).2.2.take c (S.N.ask (S.Q.zQ c).toNat).1).2.gen:=by
   rw [hg,zh.Uh];split<;>omega
  have e:(S.vd c (S.Q.zQ c).toNat x).U o=S.U o:=if_neg ZL
  exact⟨rfl,rfl,fun _ _=>rfl,by rw [e],S5,.inl (by rw [e])⟩
 exact .refl o S
theorem rD (h:S.yv b) (hc:c<S.Q.n) (h0:0≤S.Q.zQ c) (ht:S.told (S.Q.zQ c).toNat=true):S.N.gen<(S.yx c).N.gen:=by
 obtain⟨_,x,hx⟩:=h.runs c hc h0
 unfold KS.yx
 rw [hx]
 show S.N.gen<((S.N.ask (S.Q.zQ c).toNat).2.2.take c (S.N.ask (S.Q.zQ c).toNat).1).2.gen
 rw [zh.V5,zh.Uh]
 unfold KS.told at ht
 rw [if_pos ht]
 omega
structure KS.K0 (o:Nat) (S T:KS):Prop where
 q:T.Q=S.Q
 pr:T.pr=S.pr
 root:(T.U o).root=(S.U o).root
 gen:S.N.gen≤T.N.gen
theorem KS.K0.rt (h:KS.K0 o S T) (hr:S.Rt o):T.Rt o:=fun p x hp hx=>by rw [h.root];exact hr p x (by rw [←h.q];exact hp) (by rw [←h.pr];exact hx)
theorem KS.K0.trans (h:KS.K0 o S T) (k:KS.K0 o T V):KS.K0 o S V:=⟨k.q.trans h.q,k.pr.trans h.pr,k.root.trans h.root,Int.le_trans h.gen k.gen⟩
theorem Jh (h0:0≤S.Q.zQ c) (hc:c<S.Q.n) (hx:S.pr (S.Q.zQ c).toNat=some x):((S.yx c).U c).root=(x.S.user:Nat):=by
 unfold KS.yx
 rw [hx]
 show(if c=c then _ else _:Av).root=_
 rw [if_pos rfl]
theorem oP (d:Nat) (hr:S.Rt o) (hn:o<S.Q.n) (h0:0≤S.Q.zQ d):KS.K0 o S (S.yx d):=by
 have e:=ZC S d
 by_cases hod:o=d
 ·subst hod
  refine⟨e.2.1,e.2.2.1,?_,?_⟩
  ·cases hx:S.pr (S.Q.zQ o).toNat with
   |none=>unfold KS.yx;rw [hx]
   |some x=>
    rw [Jh h0 hn hx]
    have e1:=UA hn
    exact(hr (S.Q.zQ o).toNat x (by rw [←e1];omega) hx).symm
  unfold KS.yx
  split
  ·show S.N.gen≤((S.N.ask _).2.2.take o (S.N.ask _).1).2.gen
   rw [zh.V5,zh.Uh];split<;>omega
  exact Int.le_refl _
 have k:=Uc (S:=S) (c:=d) hod
 exact⟨e.2.1,e.2.2.1,k.root,k.gen⟩
theorem oQ (c i:Nat) (hr:S.Rt o) (hn:o<S.Q.n):KS.K0 o S (S.others c i):=by
 unfold KS.others
 split
 ·rename_i h
  exact oP i hr hn h.2
 exact⟨rfl,rfl,rfl,Int.le_refl _⟩
theorem FX (c:Nat): ∀(l:List Nat) {S:KS},S.Rt o→o<S.Q.n→KS.K0 o S (l.foldl (fun S i=>S.others c i) S):=by
 intro l
 induction l with
 |nil=>intro S _ _;exact⟨rfl,rfl,rfl,Int.le_refl _⟩
 |cons i l ih=>
  intro S hr hn
  have k:=oQ (S:=S) c i hr hn
  exact k.trans (ih (k.rt hr) (by rw [k.q];exact hn))
theorem V8 (h:S.yv b) (hc:c<S.Q.n) (ho:o<S.Q.n) (ZL:o≠c) (hr:S.Rt o):KS.K o S (S.leave c):=by
 unfold KS.leave
 split
 ·exact lY ZL _
 split
 ·rename_i h0 ht
  have hg:=rD h hc (by omega) ht
  have k1:=Uc (S:=S) (c:=c) ZL
  have k2:=k1.trans (B8 (S:=S.yx c) (S.yx c).Q.n)
  have k3:=FX c (List.range S.Q.n) (S:=(S.yx c).bare) (k2.rt hr) (by rw [k2.n];exact ho)
  have XP:=k3.gen
  have dr:(S.yx c).bare.N.gen=(S.yx c).N.gen:=rfl
  exact⟨by rw [k3.q];exact k2.n,by rw [k3.q];exact k2.on,fun p hp=>by rw [k3.pr];exact k2.pr p hp,k3.root.trans k2.root,by omega,.inr (by omega)⟩
 exact Uc ZL
theorem Dg (c i:Nat):((S.others c i).U c).root=(S.U c).root∧(S.others c i).Q=S.Q∧(S.others c i).pr=S.pr:=by
 unfold KS.others
 split
 ·rename_i h
  have e:=ZC S i
  exact⟨(Uc (S:=S) (c:=i) (o:=c) (Ne.symm h.1)).root,e.2.1,e.2.2.1⟩
 exact⟨rfl,rfl,rfl⟩
theorem Mr (c:Nat): ∀(l:List Nat) (S:KS),((l.foldl (fun S i=>S.others c i) S).U c).root=(S.U c).root:=by
 intro l
 induction l with
 |nil=>intro S;rfl
 |cons i l ih=>intro S;rw [List.foldl_cons,ih];exact(Dg c i).1
theorem QC (hc:c<S.Q.n):(S.leave c).Rt c:=by
 intro p x hp hx
 have e:=jV S c
 rw [e.2.1]at hp
 rw [e.2.2.1]at hx
 have ec:S.Q.zQ c=(p:Int):=(UA hc).trans hp
 have PG:S.pr (S.Q.zQ c).toNat=some x:=by rw [ec];exact hx
 have hr:=Jh (S:=S) (by omega) hc PG
 unfold KS.leave
 rw [if_neg (by omega)]
 split
 ·rw [Mr]
  rw [←hr]
  exact(B8 (S:=S.yx c) (o:=c) _).root
 exact hr
theorem C5 (h:S.yv b) (ho:o<S.Q.n) (hc:c<S.Q.n) (ZL:o≠c) (hp:S.Q.on c=(p:Int)):S.Q.on o≠(p:Int):=fun e=>ZL (h.q.ds o c ho hc (e.trans hp.symm) (by omega))
theorem oR (h:S.yv b) (ho:o<S.Q.n) (hc:c<S.Q.n) (ZL:o≠c) (hr:S.Rt o) (kE:S.Rt c) (hp:S.Q.on c=(p:Int)) (hx:S.pr p=some x) (z:Int) (at_:Nat) (write:Bool):
 KS.K o S (S.jh c p x z at_ write)∧(S.jh c p x z at_ write).Rt c:=by
 have Hg:=C5 h ho hc ZL hp
 rw [ga]
 split
 ·refine⟨Ga Hg _,fun q y hq hy=> ?_⟩
  have hqp:q=p:=by have:(q:Int)=p:=hq.symm.trans hp;omega
  subst hqp
  have e:(S.vA q (some (x.fault z))).pr q=some (x.fault z):=if_pos rfl
  rw [e]at hy;cases hy
  exact kE q x hp hx
 have k:=B9 (S:=S) (x:=x) ZL Hg at_ write
 have h2:=h.ue hx at_ write (c:=c)
 exact⟨k.trans (V8 h2.1 (by rw [k.n];exact hc) (by rw [k.n];exact ho) ZL (k.rt hr)),QC (by rw [k.n];exact hc)⟩
theorem ky {y:qB} (kE:S.Rt c) (hp:S.Q.on c=(p:Int)) (hx:S.pr p=some x) (hy:y.S.user=x.S.user):(S.vA p (some y)).Rt c:=fun q w hq hw=>by
 have hqp:q=p:=by have:(q:Int)=p:=hq.symm.trans hp;omega
 subst hqp
 have e:(S.vA q (some y)).pr q=some y:=if_pos rfl
 rw [e]at hw;cases hw
 rw [hy];exact kE q x hp hx
theorem BA (h:S.yv b) (ho:o<S.Q.n) (hc:c<S.Q.n) (ZL:o≠c) (hr:S.Rt o) (kE:S.Rt c) (hp:S.Q.on c=(p:Int)) (hx:S.pr p=some x) (i:qG):
 KS.K o S (S.memory c p x i)∧(S.memory c p x i).Rt c:=by
 have Hg:=C5 h ho hc ZL hp
 unfold KS.memory
 dsimp only
 generalize ht:(S.mm c).trans S.M S.H true (decide (i.op=4)) (addrOf x.w i)=r
 have hH:r.2.2.n=S.H.n:=by
  have:=(uq (S.mm c) S.M S.H true (decide (i.op=4)) (addrOf x.w i) 0).2.1
  rw [ht]at this
  exact this
 have k1:KS.K o S (S.q8 c r.2.1.xs r.2.2):=BC ZL _ _
 have Hh:(S.q8 c r.2.1.xs r.2.2).Rt c:=fun q y hq hy=>by
  show(if c=c then { S.U c with xs:=r.2.1.xs } else S.U c:Av).root=_
  rw [if_pos rfl];exact kE q y hq hy
 have LX:=k1.rt hr
 split
 ·have k2:=oR (h.q8 c r.2.1.xs hH) ho hc ZL LX Hh hp hx r.1.2 (addrOf x.w i) (decide (i.op=4))
  exact⟨k1.trans k2.1,k2.2⟩
 split
 ·exact⟨k1.trans ((PS (S:=S.q8 c r.2.1.xs r.2.2) _ _).trans (Ga (by exact Hg) _)),ky (S:= { S.q8 c r.2.1.xs r.2.2 with H:=_ }) Hh hp hx rfl⟩
 split
 ·exact⟨k1.trans ((PS (S:=S.q8 c r.2.1.xs r.2.2) _ _).trans (Ga (by exact Hg) _)),ky (S:= { S.q8 c r.2.1.xs r.2.2 with H:=_,M:=_ }) Hh hp hx rfl⟩
 exact⟨k1.trans ((PS (S:=S.q8 c r.2.1.xs r.2.2) _ _).trans (Ga (by exact Hg) _)),ky (S:= { S.q8 c r.2.1.xs r.2.2 with H:=_ }) Hh hp hx rfl⟩
theorem Fa (h:S.yv b) (ho:o<S.Q.n) (hc:c<S.Q.n) (ZL:o≠c) (hr:S.Rt o) (kE:S.Rt c) (hp:S.Q.on c=(p:Int)) (hx:S.pr p=some x) (i:qG):
 KS.K o S (S.ug c p x i)∧(S.ug c p x i).Rt c:=by
 have Hg:=C5 h ho hc ZL hp
 unfold KS.ug
 split
 ·rw [Uk]
  have k:=FZ h ho hc ZL hx Hg i
  exact⟨k.trans (V8 (h.call2 hc hx i).1 (by rw [k.n];exact hc) (by rw [k.n];exact ho) ZL (k.rt hr)),QC (by rw [k.n];exact hc)⟩
 split
 ·exact BA h ho hc ZL hr kE hp hx i
 exact⟨Ga Hg _,ky kE hp hx rfl⟩
theorem BB (h:S.yv b) (ho:o<S.Q.n) (hc:c<S.Q.n) (ZL:o≠c) (hr:S.Rt o) (kE:S.Rt c) (h0:0≤S.Q.zQ c):KS.K o S (S.Qt c).2∧(S.Qt c).2.Rt c:=by
 unfold KS.Qt
 split
 ·exact⟨.refl o S,kE⟩
 rename_i x hx
 split
 ·exact⟨.refl o S,kE⟩
 exact Fa h ho hc ZL hr kE (by rw [←UA hc];omega) hx _
theorem PT (h:S.yv b) (ho:o<S.Q.n) (hc:c<S.Q.n) (ZL:o≠c) (hr:S.Rt o) (kE:S.Rt c):KS.K o S (S.run c).2∧(S.run c).2.Rt c:=by
 unfold KS.run
 split
 ·have k1:=mI (S:=S) hc ZL
  have kh:c<(S.pick c).Q.n:=by rw [k1.n];exact hc
  have ho1:o<(S.pick c).Q.n:=by rw [k1.n];exact ho
  split
  ·rename_i z8D
   refine⟨k1,fun q y hq hy=> ?_⟩
   have:=(S.Q.GC c hc).2.1
   have XU:(S.Q.pick c).2.on c=(q:Int):=hq
   omega
  rename_i z8G
  have h1:=h.pick hc
  have k2:=k1.trans (V8 h1 kh ho1 ZL (k1.rt hr))
  have lS:c<((S.pick c).leave c).Q.n:=by rw [k2.n];exact hc
  have ho2:o<((S.pick c).leave c).Q.n:=by rw [k2.n];exact ho
  have e:=jV (S.pick c) c
  have k3:=BB (h1.leave c) ho2 lS ZL (k2.rt hr) (QC kh) (by
   rw [UA lS,e.2.1]
   show 0≤(S.Q.pick c).2.on c
   rw [(S.Q.GC c hc).2.1];omega)
  exact⟨k2.trans k3.1,k3.2⟩
 exact BB h ho hc ZL hr kE (by omega)
theorem ng (ZL:o≠c) (z:Int):KS.K o S (S.vQ c z):=by
 unfold KS.vQ;split
 ·exact kQ ZL _ _
 exact .refl o S
theorem MK (h:S.yv b) (ho:o<S.Q.n) (hc:c<S.Q.n) (ZL:o≠c) (hr:S.Rt o):KS.K o S (S.tick c)∧(S.tick c).Rt c:=by
 have k1:=mI (S:=S) hc ZL
 unfold KS.tick
 have key: ∀T:KS,T.yv b→KS.K o S T→KS.K o S (T.leave c)∧(T.leave c).Rt c:=fun T hT kT=>
  ⟨kT.trans (V8 hT (by rw [kT.n];exact hc) (by rw [kT.n];exact ho) ZL (kT.rt hr)),QC (by rw [kT.n];exact hc)⟩
 split
 ·exact key _ ((h.pick hc).vQ c _) (k1.trans (ng ZL _))
 exact key _ (h.pick hc) k1
theorem Fb (ZL:o≠c) (f w:Int):KS.K o S (S.YH c f w).2:=by
 unfold KS.YH
 split
 ·dsimp only
  split<;>exact BC ZL _ _
 exact .refl o S
theorem MM (h:S.yv b) (ho:o<S.Q.n) (hc:c<S.Q.n) (ZL:o≠c) (hr:S.Rt o) (kE:S.Rt c) (f w:Int):KS.K o S (S.jc c f w).2∧(S.jc c f w).2.Rt c:=by
 unfold KS.jc
 split
 ·exact⟨.refl o S,kE⟩
 have k:=(ng (S:=S) ZL (S.Q.zQ c)).trans (Fb ZL f w)
 exact⟨k.trans (V8 ((h.vQ c _).YH c f w) (by rw [k.n];exact hc) (by rw [k.n];exact ho) ZL (k.rt hr)),QC (by rw [k.n];exact hc)⟩
theorem BD (h:S.yv b) (ho:o<S.Q.n) (hc:c<S.Q.n) (ZL:o≠c) (hr:S.Rt o) (kE:S.Rt c) (x:vG):KS.K o S (S.qV c x).2∧(S.qV c x).2.Rt c:=by
 unfold KS.qV
 split
 ·exact PT h ho hc ZL hr kE
 split
 ·exact MK h ho hc ZL hr
 split
 ·exact⟨PS (S:=S) _ S.M,kE⟩
 split
 ·unfold KS.forget
  split
  ·refine⟨lY ZL _,fun q y hq hy=> ?_⟩
   show(if c=c then { S.U c with xs:=_ } else S.U c:Av).root=_
   rw [if_pos rfl];exact kE q y hq hy
  exact⟨.refl o S,kE⟩
 split
 ·exact MM h ho hc ZL hr kE _ _
 split
 ·split
  ·exact⟨.refl o S,kE⟩
  exact⟨PS (S:=S) _ S.M,kE⟩
 exact⟨.refl o S,kE⟩
theorem fY (h:S.yv b) (hx:S.pr p=some x) (z:Int) (at_:Nat) (write:Bool):(S.jh c p x z at_ write).N.gen≤S.N.gen+3:=by
 rw [ga]
 split
 ·show S.N.gen≤_;omega
 have h2:=h.ue hx at_ write (c:=c)
 have:=gx h2.1 c
 omega
theorem ie (h:S.yv b) (hc:c<S.Q.n) (hx:S.pr p=some x) (i:qG):(S.ug c p x i).N.gen≤S.N.gen+3:=by
 unfold KS.ug
 split
 ·rw [Uk]
  have h2:=h.call2 hc hx i
  have:=gx h2.1 c
  omega
 split
 ·unfold KS.memory
  dsimp only
  split
  ·have hH:=(uq (S.mm c) S.M S.H true (decide (i.op=4)) (addrOf x.w i) 0).2.1
   exact fY (h.q8 c _ hH) (p:=p) (x:=x) hx _ _ _
  split
  ·show S.N.gen≤_;omega
  split<;>(show S.N.gen≤_;omega)
 show S.N.gen≤_;omega
theorem rh (h:S.yv b) (hc:c<S.Q.n):(S.Qt c).2.N.gen≤S.N.gen+3:=by
 unfold KS.Qt
 split
 ·show S.N.gen≤_;omega
 rename_i x hx
 split
 ·show S.N.gen≤_;omega
 exact ie h hc hx _
theorem bm (h:S.yv b) (x:vG):(S.step x).2.N.gen≤S.N.gen+6:=by
 unfold KS.step
 split
 case isFalse=>show S.N.gen≤_;omega
 rename_i Rr
 have hc:x.zQ.toNat<S.Q.n:=by omega
 generalize x.zQ.toNat=c at hc
 unfold KS.qV
 split
 ·unfold KS.run
  split
  ·split
   ·show S.N.gen≤_;omega
   have h1:=h.pick hc
   have e:=jV (S.pick c) c
   have g1:=gx h1 c
   have g2:=rh (S:=(S.pick c).leave c) (c:=c) (h1.leave c) (by rw [e.2.1];show c<(S.Q.pick c).2.n;rw [zg.u5];exact hc)
   have g0:(S.pick c).N.gen=S.N.gen:=rfl
   show((S.pick c).leave c|>.Qt c).2.N.gen≤_
   omega
  have:=rh (S:=S) (c:=c) h hc
  omega
 split
 ·unfold KS.tick
  have e: ∀(T:KS) z,(T.vQ c z).N.gen=T.N.gen:=by intro T z;unfold KS.vQ;split<;>rfl
  dsimp only
  split
  ·have:=gx ((h.pick hc).vQ c (S.Q.zQ c)) c
   rw [e]at this
   have g0:(S.pick c).N.gen=S.N.gen:=rfl
   omega
  have:=gx (h.pick hc) c
  have g0:(S.pick c).N.gen=S.N.gen:=rfl
  omega
 split
 ·show S.N.gen≤_;omega
 split
 ·unfold KS.forget
  split<;>(show S.N.gen≤_;omega)
 split
 ·unfold KS.jc
  split
  ·show S.N.gen≤_;omega
  have g:=gx ((h.vQ c (S.Q.zQ c)).YH c x.a x.b) c
  have e:((S.vQ c (S.Q.zQ c)).YH c x.a x.b).2.N.gen=S.N.gen:=by
   have e1: ∀(T:KS) z,(T.vQ c z).N.gen=T.N.gen:=by intro T z;unfold KS.vQ;split<;>rfl
   unfold KS.YH
   split
   ·dsimp only;split<;>exact e1 S _
   exact e1 S _
  dsimp only
  omega
 split
 ·split<;>(show S.N.gen≤_;omega)
 show S.N.gen≤_;omega
theorem lZ (h:S.yv b) (h2:S.Q.n=2) (hr: ∀d,d<2→S.Rt d) (x:vG):(∀o:Nat,o<2→(o:Int)≠x.zQ→KS.K o S (S.step x).2)∧(S.step x).2.Q.n=2∧ ∀d,d<2→(S.step x).2.Rt d:=by
 unfold KS.step
 split
 ·rename_i Rr
  have key: ∀o:Nat,o<2→(o:Int)≠x.zQ→KS.K o S (S.qV x.zQ.toNat x).2∧(S.qV x.zQ.toNat x).2.Rt x.zQ.toNat:=fun o ho wY=>BD h (by omega) (by omega) (by omega) (hr o ho) (hr _ (by omega)) x
  obtain⟨o,ho,wY⟩: ∃o:Nat,o<2∧(o:Int)≠x.zQ:=by
   by_cases hz:x.zQ=0
   ·exact⟨1,by omega,by omega⟩
   exact⟨0,by omega,by omega⟩
  refine⟨fun o ho wY=>(key o ho wY).1,(key o ho wY).1.n.trans h2,fun d hd=> ?_⟩
  by_cases hdc:(d:Int)=x.zQ
  ·have h3:=(key o ho wY).2
   have e:x.zQ.toNat=d:=by omega
   rw [e]at h3 ⊢
   exact h3
  exact(key d hd hdc).1.rt (hr d hd)
 exact⟨fun o _ _=> .refl o S,h2,hr⟩
theorem EI {T:KS} (h:T.yv 1): ∀j,j≤T.Q.n→ ∀d,d<j→(T.wL j).Rt d:=by
 intro j
 induction j with
 |zero=>intro _ d hd;omega
 |succ j ih=>
  intro hj d hd
  obtain⟨h1,_,h3⟩:=JF h j (by omega)
  have hc:j<(T.wL j).Q.n:=by rw [h3];omega
  have kh:j<((T.wL j).pick j).Q.n:=by show j<((T.wL j).Q.pick j).2.n;rw [zg.u5];exact hc
  show(((T.wL j).pick j).leave j).Rt d
  by_cases hdj:d=j
  ·subst hdj;exact QC kh
  have k1:=mI (S:=T.wL j) hc hdj
  have k2:=k1.trans (V8 (h1.pick hc) kh (by rw [k1.n,h3];omega) hdj (k1.rt (ih (by omega) d (by omega))))
  exact k2.rt (ih (by omega) d (by omega))
end
end Go.Proofs.YtlhcpplnlgehbaaGreat
namespace Go.Px
open Go Go.RowKit
structure uQ where
 cs:List z0
 b:Nat
 base:Nat
 on:Bool:=true
noncomputable def uQ.obj (r:uQ):Option jS:=if r.cs= []then none else some (.cells false (Tr.ofList r.cs 0 .nil) r.cs.length)
noncomputable def aH:List uQ→Nat→Tr jS
 | [],_=> .nil
 |r::l,i=>match r.obj with
  |none=>aH l (i+1)
  |some o=>(aH l (i+1)).set i o
theorem Ec: ∀(l:List uQ) (i k:Nat),(aH l i).get k=if i≤k then(l[k-i]?).bind uQ.obj else none:=by
 intro l
 induction l with
 |nil=>intro i k;show(Tr.nil:Tr jS).get k=_;rw [Tr.get_nil];simp
 |cons r l ih=>
  intro i k
  have key:(aH l (i+1)).get k=if i+1≤k then(l[k-(i+1)]?).bind uQ.obj else none:=ih (i+1) k
  unfold aH
  cases hr:r.obj with
  |none=>
   simp only
   rw [key]
   by_cases h:i+1≤k
   ·rw [if_pos h,if_pos (by omega),show k-i=(k-(i+1))+1 by omega,List.getElem?_cons_succ]
   rw [if_neg h]
   by_cases h2:i=k
   ·subst h2;simp [hr]
   rw [if_neg (by omega)]
  |some o=>
   simp only
   rw [Tr.yh]
   by_cases h2:k=i
   ·subst h2;simp [hr]
   rw [if_neg h2,key]
   by_cases h:i+1≤k
   ·rw [if_pos h,if_pos (by omega),show k-i=(k-(i+1))+1 by omega,List.getElem?_cons_succ]
   rw [if_neg h,if_neg (by omega)]
def Hn (ρ:Nat→Int) (l:List uQ) (GX:Nat):qw:=⟨ρ,fun i=>(l[i]?).bind fun r=>if r.on then some (r.b,r.base,r.cs.length)else none,GX⟩
noncomputable def B2 (l:List uQ):Hp:=⟨aH l 0,l.length⟩
theorem ko (l:List uQ) (k:Nat):(B2 l).t.get k=(l[k]?).bind uQ.obj:=by
 show(aH l 0).get k=_
 rw [Ec];simp
theorem NX (l:List uQ):mF (B2 l):=by
 intro k x h
 rw [ko]at h
 cases hk:l[k]? with
 |none=>rw [hk]at h;cases h
 |some r=>exact(List.getElem?_eq_some_iff.1 hk).1
def uQ.ok (V:qw) (w:World) (r:uQ):Prop:=(r.on=true→r.b<w.heap.size)∧ ∀k a,r.cs[k]? =some a→a.yK=true∧ ∃v,w.cell? ⟨r.b,r.base+k,none⟩=some v∧zS V a v
theorem fH {w:World} {b o:Nat} {v:Value} (h:w.cell? ⟨b,o,none⟩=some v): ∃arr el fz,w.heap[b]? =some (.cells arr el fz)∧arr[o]? =some v:=by
 unfold World.cell? at h
 simp only at h
 split at h
 ·rename_i c el fz hx
  exact⟨c,el,fz,hx,by simpa using h⟩
 cases h
theorem NZ {ρ:Nat→Int} {l:List uQ} {w:World} (h: ∀r,r ∈ l→r.ok (Hn ρ l w.heap.size) w):yD w.heap.size w (Hn ρ l w.heap.size) (B2 l) w:=by
 have uD: ∀id b base S,(Hn ρ l w.heap.size).uD id=some (b,base,S)→ ∃r,l[id]? =some r∧b=r.b∧base=r.base∧S=r.cs.length∧r.on=true:=by
  intro id b base S e
  cases hk:l[id]? with
  |none=>simp [Hn,hk]at e
  |some r=>
   cases Hb:r.on with
   |false=>simp [Hn,hk,Hb]at e
   |true=>
    simp only [Hn,hk,Hb,Option.bind_some,if_true,Option.some.injEq,Prod.mk.injEq]at e
    exact⟨r,rfl,e.1.symm,e.2.1.symm,e.2.2.symm,Hb⟩
 refine⟨.refl _ _,Nat.le_refl _,fun id ar=> ?_,fun id b base S e=> ?_,fun id o b base S e1 e2=> ?_,fun id nZ o o' b b' ba Pj S S' _ _ e _ _=> ?_,fun b arr el z hb e=> ?_,Nat.le_refl _⟩
 ·have hk:l[id]? =none:=List.getElem?_eq_none ar
  exact⟨by simp [Hn,hk],by rw [ko,hk];rfl⟩
 ·obtain⟨r,hr,rfl,_,_,Hb⟩:=uD id b base S e
  exact(h r (List.mem_of_getElem? hr)).1 Hb
 ·obtain⟨r,hr,rfl,rfl,rfl,Hb⟩:=uD id b base S e2
  rw [ko,hr]at e1
  have LX:=h r (List.mem_of_getElem? hr)
  by_cases hc:r.cs= []
  ·simp [uQ.obj,hc]at e1
  simp only [uQ.obj,hc,if_false,Option.bind_some,Option.some.injEq]at e1
  subst e1
  obtain⟨a0,ha0⟩: ∃a,r.cs[0]? =some a:=by
   cases kD:r.cs with
   |nil=>exact absurd kD hc
   |cons a _=>exact⟨a,rfl⟩
  obtain⟨_,v0,NR,_⟩:=LX.2 0 a0 ha0
  obtain⟨arr,el,fz,hx,_⟩:=fH NR
  refine⟨_,hx,.cells false _ _ _ _ _ arr el fz (fun h=>by cases h) (fun hB=>absurd (LX.1 Hb) (Nat.not_lt.2 hB)) (fun h=>by cases h) (Nat.le_refl _) (fun h=>by cases h) (fun k a hk=> ?_)⟩
  rw [Tr.gb]at hk
  split at hk
  ·rename_i hi
   simp only [Nat.sub_zero]at hk
   obtain⟨h1,v,h2,h3⟩:=LX.2 k a hk
   obtain⟨nt,Xv,fz',PG,hv⟩:=fH h2
   rw [hx]at PG
   cases PG
   exact⟨by omega,h1,v,hv,h3⟩
  rw [Tr.get_nil]at hk;cases hk
 ·obtain⟨r,hr,rfl,_,_,Hb⟩:=uD id b ba S e
  exact .inr ((h r (List.mem_of_getElem? hr)).1 Hb)
 have:=(Array.getElem?_eq_some_iff.1 e).1
 omega
def jZ {α:Type} (en:α→List z0) (es:Nat) (v:z0) (xs:List α):SP:=fun h=>
 (∃a c e,v= .slice a xs.length c e)∧(∀x,(en x).length=es)∧0<es∧
 (xs≠ []→ ∃i off c rw r w,v= .slice (some (i,off)) xs.length c es∧h i=some (.cells rw r w)∧ ∀k x j,xs[k]? =some x→j<es→r.get (off+k*es+j)=(en x)[j]?)
section
variable {P:Program} {F:zD} {zB:yy} {ops:Array Oper} {o:Oper} {l:List Oper} {T:Tm} {L R:List SP} {Q:Tm→List SP→Prop} {H:Hp}
variable {α:Type} {en:α→List z0} {es:Nat} {xs:List α} {v:z0}
theorem Dx {h h':q7} (l:h.le h') (s:jZ en es v xs h):jZ en es v xs h':=
 ⟨s.1,s.2.1,s.2.2.1,fun e=>let ⟨i,off,c,rw,r,w,h1,h2,h3⟩:=s.2.2.2 e;⟨i,off,c,rw,r,w,h1,l _ _ h2,h3⟩⟩
theorem zU.ro {κ:z0} [t:Tk L (jZ en es) κ xs R] (h:zU L H):jZ en es κ xs fun k=>H.t.get k:=by
 obtain⟨a,b,h1,h2,h3,h4,h5⟩:=t.h _ h.s
 exact Dx h2 h4
theorem cY (en:α→List z0) (es:Nat) {c:Call} {t:TypeId} {ts:List TypeId} {x:Operand} {sz:Nat} [hs:SL P t sz] [Tk L (jZ en es) v xs R] (ho:o.op= .call c) (hc:c.callee= .builtin .len) (ht:c.argTypes.toList=t::ts) (ha:c.args.toList= [x]) (hx:zK T x=some v) (h:zU L H):
 yd P F T H o=some (.val (.int .i64 (.lit ((xs.length:Nat):Int))) H):=by
 obtain⟨a,c,e,rfl⟩:=(h.ro (en:=en) (es:=es) (κ:=v) (xs:=xs)).1
 exact vD ho hc ht ha hx
theorem W6 (en:α→List z0) (es:Nat) {t:TypeId} {x y:Operand} {k:IntKind} {z:Int} {sz:Nat} [hs:SL P t sz] [Tk L (jZ en es) v xs R] (ho:o.op= .indexAddr t x y) (hx:zK T x=some v) (hy:zK T y=some (.int k (.lit z))) (hz:0≤z) (hl:z<(xs.length:Nat)) (h:zU L H):
 yd P F T H o=some (.val (.ptr (some (KH v,z.toNat*sz+KI v))) H):=by
 have hr:=h.ro (en:=en) (es:=es) (κ:=v) (xs:=xs)
 obtain⟨i,off,c,rw,r,w,rfl,_⟩:=hr.2.2.2 (fun e=>by subst e;simp at hl;omega)
 exact uo ho hx hy hz hl
theorem gM (en:α→List z0) (es:Nat) {t:TypeId} {y:Operand} {k j a:Nat} {x:α} {w:z0} [L1 P t] [Tk L (jZ en es) v xs R] (ho:o.op= .load t y) (hx:zK T y=some (.ptr (some (KH v,a)))) (ha:a=k*es+KI v+j) (hk:xs[k]? =some x) (hj:(en x)[j]? =some w) (h:zU L H):yd P F T H o=some (.val w H):=by
 have hr:=h.ro (en:=en) (es:=es) (κ:=v) (xs:=xs)
 obtain⟨i,off,c,rw,r,w',rfl,h1,h2⟩:=hr.2.2.2 (fun e=>by subst e;simp at hk)
 refine Ix ho hx ?_
 show H.gP i a=_
 unfold Hp.gP
 have kd:H.t.get i=some (.cells rw r w'):=h1
 have lT:j<es:=by have:=(List.getElem?_eq_some_iff.1 hj).1;rw [hr.2.1]at this;exact this
 have e:a=off+k*es+j:=by rw [ha];show k*es+off+j=_;omega
 rw [kd,e]
 simp only
 rw [h2 k x j hk lT,hj]
theorem AG {i:Nat} {cs:List z0} {ys:List α} {c:Option Nat} (hc:cs=ys.flatMap en) (he: ∀x,(en x).length=es) (h0:0<es): ∀f,zC i cs f→jZ en es (.slice (some (i,0)) ys.length c es) ys f:=by
 intro f hf
 obtain⟨r,w,h1,h2,h3⟩:=hf
 refine⟨⟨_,_,_,rfl⟩,he,h0,fun _=>⟨i,0,c,true,r,w,rfl,h1,fun k x j hk hj=> ?_⟩⟩
 have hg:=Y1 he ys k j x hk hj
 have SC:=(List.getElem?_eq_some_iff.1 hk).1
 have hm:k*es+j<ys.length*es:=by
  have:(k+1)*es≤ys.length*es:=Nat.mul_le_mul_right es SC
  rw [Nat.add_mul]at this;omega
 rw [Nat.zero_add,h3 _ (by rw [hc,wF he];exact hm),hc]
 exact hg
end
theorem Na {α:Type} {en:α→List z0} {es:Nat} {xs:List α} {l:List uQ} {k:Nat} {r:uQ} {c:Option Nat} (hk:l[k]? =some r) (hc:r.cs=xs.flatMap en) (he: ∀x,(en x).length=es) (h0:0<es):
 jZ en es (.slice (some (k,0)) xs.length c es) xs (fun j=>if j=k then r.obj else none):=by
 refine⟨⟨_,_,_,rfl⟩,he,h0,fun wY=> ?_⟩
 have hn:r.cs≠ []:=fun e=>by
  rw [e]at hc
  have:=wF he xs
  rw [←hc]at this
  have h1:xs.length*es=0:=this.symm
  rcases Nat.mul_eq_zero.1 h1 with h|h
  ·exact wY (List.eq_nil_of_length_eq_zero h)
  omega
 refine⟨k,0,c,false,Tr.ofList r.cs 0 .nil,r.cs.length,rfl,by simp only [if_true,uQ.obj,hn,if_false],fun q x j hq hj=> ?_⟩
 have hg:=Y1 he xs q j x hq hj
 have cl:=(List.getElem?_eq_some_iff.1 hq).1
 have hm:q*es+j<xs.length*es:=by
  have:(q+1)*es≤xs.length*es:=Nat.mul_le_mul_right es cl
  rw [Nat.add_mul]at this;omega
 rw [Nat.zero_add,Tr.gb,if_pos ⟨Nat.zero_le _,by rw [hc,wF he];omega⟩,Nat.sub_zero,hc]
 exact hg
end Go.Px
namespace Go.Proofs.YtlhcpplnlgehbaaGreat
open Go Go.RowKit Go.Px
abbrev jz (z:Int):Prop:= -9223372036854775808≤z∧z≤9223372036854775807
section
variable {P:Program} {F:zD} {H:Hp}
theorem Ka {x y:Int} (hy:0<y):(0≤x→0≤x.tdiv y∧x.tdiv y≤x)∧(x<0→x≤x.tdiv y∧x.tdiv y≤0):=by
 refine⟨fun h=> ?_,fun h=> ?_⟩
 ·rw [Int.tdiv_eq_ediv_of_nonneg h];exact⟨Int.ediv_nonneg h (by omega),Int.ediv_le_self y h⟩
 have e:x.tdiv y= -((-x)/y):=by
  rw [←Int.tdiv_eq_ediv_of_nonneg (a:= -x) (by omega),Int.neg_tdiv,Int.neg_neg]
 have h1:=Int.ediv_nonneg (show 0≤ -x by omega) (show 0≤y by omega)
 have h2:=Int.ediv_le_self y (show 0≤ -x by omega)
 rw [e];omega
theorem EX {x y:Int} (hx:jz x) (hy:0<y):jz (x.tdiv y):=by
 have:=Ka (x:=x) hy
 unfold jz at*
 rcases Int.lt_or_le x 0 with h|h
 ·have:=this.2 h;omega
 have:=this.1 h;omega
theorem yn {t:TypeId} {c:Bool} {x y:Int} (hx:jz x) (hy:0<y):vI P F H .quo t c (.int .i64 (.lit x)) (.int .i64 (.lit y))=some (.int .i64 (.lit (x.tdiv y))):=by
 have h0:Z9 y 0=false:=by rw [vy];exact decide_eq_false (by omega)
 have:=EX hx hy
 simp [vI,gN,QB,jR,h0,SInt.wrap,vz (z:=x.tdiv y) this]
theorem Zw {t:TypeId} {c:Bool} {x y:Int} (hy:0<y):vI P F H .rem t c (.int .i64 (.lit x)) (.int .i64 (.lit y))=some (.int .i64 (.lit (x.tmod y))):=by
 have h0:Z9 y 0=false:=by rw [vy];exact decide_eq_false (by omega)
 simp [vI,gN,QB,jR,h0]
end
def within (v n:Int):Int:=if n<1 then 0 else if v.tmod n<0 then v.tmod n+n else v.tmod n
theorem y4 {v n:Int} (h:0<n):0≤within v n∧within v n<n:=by
 unfold within
 rw [if_neg (by omega)]
 have h2: -n<v.tmod n:=by
  rcases Int.lt_or_le v 0 with h0|h0
  ·have:=Int.tmod_lt_of_pos (-v) h
   rw [Int.neg_tmod]at this;omega
  have:=Int.tmod_nonneg n h0;omega
 have h3:=Int.tmod_lt_of_pos v h
 split<;>omega
theorem nE {v n:Int} (h:0<n): -n<v.tmod n∧v.tmod n<n:=by
 refine⟨?_,Int.tmod_lt_of_pos v h⟩
 rcases Int.lt_or_le v 0 with h0|h0
 ·have:=Int.tmod_lt_of_pos (-v) h
  rw [Int.neg_tmod]at this;omega
 have:=Int.tmod_nonneg n h0;omega
def pk (l:List Int) (k:Int):Int:=l.getD k.toNat 0
theorem GD {l:List Int} {k:Int} (h:0≤k∧k<(l.length:Nat)):l[k.toNat]? =some (pk l k):=by
 unfold pk
 rw [List.getD_eq_getElem?_getD]
 have:k.toNat<l.length:=by omega
 rw [List.getElem?_eq_getElem this];rfl
theorem Lp {l:List Int} {k:Int} (p:Int→Prop) (hp: ∀x,x ∈ l→p x) (h:0≤k∧k<(l.length:Nat)):p (pk l k):=hp _ (List.mem_of_getElem? (GD h))
theorem Yy {i:Nat} {l:List Int} : ∀f,zC i (l.map fun z=>vi z) f→jZ ye 1 (.slice (some (i,0)) l.length (some l.length) 1) l f:=AG (by rw [List.flatMap_def];induction l with|nil=>rfl|cons x l ih=>simp [ye,ih]) QZ (by decide)
theorem vg (R:List SP) (v n:Int) (hn:n≤9223372036854775807):yH 15 [vi v,vi n] (R) fun w L=>w=vi (within v n)∧L=R:=by
 refine SW.intro rfl Tryz.func15 rfl ?_
 refine O0 9 J (z5 (fun h7=> ?_) (fun h7=> ?_))
 ·refine Z 7 J (zI J J J (⟨_,⟨congrArg (fun z:Int=>vi z) (?_:_=within v n),rfl⟩,Y⟩))
  unfold within
  rw [if_pos (by omega)]
 refine Z 7 J (zo rfl (fun _=>zG rfl rfl rfl (Zw (by omega))) ?_)
 refine Z 7 J (z5 (fun ke=> ?_) (fun ke=> ?_))
 ·have hb:=nE (v:=v) (n:=n) (by omega)
  refine Z 5 J (ad J (Z 8 J (zI J J J (⟨_,⟨congrArg (fun z:Int=>vi z) (?_:_=within v n),rfl⟩,Y⟩))))
  unfold within
  rw [if_neg (by omega),if_pos (by omega)]
 refine Z 9 J (zI J J J (⟨_,⟨congrArg (fun z:Int=>vi z) (?_:_=within v n),rfl⟩,Y⟩))
 unfold within
 rw [if_neg (by omega),if_neg (by omega)]
def Pq (n:Int):Int:=pk [64,40,24,30,27,48] (within n 6)
def Pp (n:Int):Int:=1+within (n.tdiv 6) 2
def Bt (n:Int):Bool:=decide ((n.tdiv 12).tmod 3≠2)
def Bs (n:Int):Bool:=decide ((n.tdiv 36).tmod 3≠2)
theorem Mi (R:List SP) (n:Int) (hn:jz n):yH 31 [vi n] (R) fun w L=>w= .agg [vi (Pq n),vi (Pp n),.bool (Bt n),.bool (Bs n)]∧L=R:=by
 refine SW.intro rfl Tryz.func31 rfl ?_
 refine O0 2 J (zn rfl rfl rfl fun i2=> ?_)
 refine Z 6 J (zW [0,0,0,6,15,31,0,0,128,462,974,0,2048,6144,14336,0,32768,98304,229376,524287,1048575] [([0,1,2,6,7,8,11,12,13,14,15,16,17,18],[8,12,13,14,16,17,18],some 3),([4,5],[8,12,13,14,16,17,18,5],some 9),([10,19],[12,13,14,16,17,18,5,10],some 20),([],[],none)] (by kernel_rfl) ?_)
 refine z7 (uy (cs:= [_,_,_,_,_,_]) rfl rfl rfl (by decide) rfl fun i4=> ?_)
 refine ZK 4 J (uc rfl (fun _=>zG rfl rfl rfl (yn (by assumption) (by omega))) ?_)
 refine ZK 1 J (uc rfl (fun _=>zG rfl rfl rfl (yn (by assumption) (by omega))) ?_)
 refine uc rfl (fun _=>zG rfl rfl rfl (Zw (by omega))) ?_
 refine ZK 2 J (uc rfl (fun _=>zG rfl rfl rfl (yn (by assumption) (by omega))) ?_)
 refine uc rfl (fun _=>zG rfl rfl rfl (Zw (by omega))) ?_
 refine ZK 1 J (z8 ⟨(uR rfl (fun _=>zG rfl rfl rfl (yn (by assumption) (by omega))) rfl rfl (z6 _ rfl) (uR rfl (fun _=>zG rfl rfl rfl (yn (by assumption) (by omega))) rfl rfl (z6 _ rfl) (uR rfl (fun _=>zG rfl rfl rfl (Zw (by omega))) rfl rfl (z6 _ rfl) (gv J J J (z6 _ rfl) (uR rfl (fun _=>zG rfl rfl rfl (yn (by assumption) (by omega))) rfl rfl (z6 _ rfl) (uR rfl (fun _=>zG rfl rfl rfl (Zw (by omega))) rfl rfl (z6 _ rfl) (gv J J J (z6 _ rfl) z9))))))),?_⟩)
 refine Z0 (vg _ _ _ (by omega)) J (zd (Sub.one (K:=zC) (a:=i4) (K2:=jZ ye 1) (a2:= .slice (some (i4,0)) 6 (some 6) 1) (x2:= [64,40,24,30,27,48]) (Yy (l:= [64,40,24,30,27,48]))) ?_)
 have B1:=y4 (v:=n) (n:=6) (by decide)
 have Cq:=GD (l:= [64,40,24,30,27,48]) (k:=within n 6) ⟨B1.1,B1.2⟩
 refine zJ (z7 (jM rfl (fun _ h=>W6 ye 1 rfl rfl rfl B1.1 (by exact B1.2) h) ?_))
 refine jM rfl (fun _ h=>gM ye 1 (j:=0) rfl rfl rfl Cq rfl h) ?_
 refine z8 ⟨(uR rfl (fun _=>zG rfl rfl rfl (yn (by assumption) (by omega))) rfl rfl (z6 _ rfl) (uR rfl (fun _=>zG rfl rfl rfl (yn (by assumption) (by omega))) rfl rfl (z6 _ rfl) (uR rfl (fun _=>zG rfl rfl rfl (Zw (by omega))) rfl rfl (z6 _ rfl) (gv J J J (z6 _ rfl) (uR rfl (fun _=>zG rfl rfl rfl (yn (by assumption) (by omega))) rfl rfl (z6 _ rfl) (uR rfl (fun _=>zG rfl rfl rfl (Zw (by omega))) rfl rfl (z6 _ rfl) (gv J J J (z6 _ rfl) (va rfl (fun _ h=>gM ye 1 (j:=0) rfl rfl rfl Cq rfl h) rfl rfl (z6 _ rfl) z9)))))))),?_⟩
 refine Z0 (vg _ _ _ (by omega)) J ?_
 have FT:=y4 (v:=n.tdiv 6) (n:=2) (by decide)
 refine zJ (z7 (PJ J (cz [_,_,_,_] J Y Y J (z8 ⟨(uR rfl (fun _=>zG rfl rfl rfl (yn (by assumption) (by omega))) rfl rfl (z6 _ rfl) (uR rfl (fun _=>zG rfl rfl rfl (Zw (by omega))) rfl rfl (z6 _ rfl) (gv J J J (z6 _ rfl) (uR rfl (fun _=>zG rfl rfl rfl (yn (by assumption) (by omega))) rfl rfl (z6 _ rfl) (uR rfl (fun _=>zG rfl rfl rfl (Zw (by omega))) rfl rfl (z6 _ rfl) (gv J J J (z6 _ rfl) (va rfl (fun _ h=>gM ye 1 (j:=0) rfl rfl rfl Cq rfl h) rfl rfl (z6 _ rfl) (uR rfl (fun _=>zG rfl rfl rfl (gJ (by omega))) rfl rfl (z6 _ rfl) z9)))))))),?_⟩))))
 refine sN J Y Y J J J (zJ (z7 (z8 ⟨z9,?_⟩)))
 refine OX 1 J (⟨.inr rfl,_,fun _ h=>(zu (yQ rfl (yo rfl (Nat.le_of_ble_eq_true rfl) h)) qY),?_⟩)
 exact fq
theorem gY {α:Type} {en:α→List z0} {es i:Nat} {ys:List α} (he: ∀x,(en x).length=es) (h0:0<es): ∀f,zC i (ys.flatMap en) f→zX en es (.slice (some (i,0)) ys.length (some ys.length) es) ys f:=by
 intro f h
 have hl:(ys.flatMap en).length=ys.length*es:=wF he ys
 have h1:=vE (f:=fun j=>(ys.flatMap en).getD j unit) (fun j hj=>by rw [List.getD_eq_getElem?_getD,List.getElem?_eq_getElem hj];rfl) f h
 rw [hl]at h1
 refine⟨.part i 0 ys.length ys.length (ys.length*es) es _ _ h1 (by omega) (Nat.le_refl _) ?_,he,h0⟩
 apply List.ext_getElem?
 intro j
 by_cases hj:j<ys.length*es
 ·rw [y7 _ _ _ _ hj,Nat.zero_add,List.getD_eq_getElem?_getD,List.getElem?_eq_getElem (by omega)];rfl
 rw [List.getElem?_eq_none (by omega),List.getElem?_eq_none (by rw [y8];omega)]
def wb (n:Int):Int:=if within n 7=6 then pk [63,64,128,255,250] (within (n.tdiv 7) 5)else within n 6
def qn (k n:Int):List qG:=
 if k<4 then [⟨1,0,0,wb n⟩,⟨1,1,0,1+within (n.tdiv 8) 3⟩,⟨1,2,0,pk [3,3,3,1,0,2] (within (n.tdiv 32) 6)⟩,⟨7,0,0,1⟩]
 else if k=4 then [⟨1,0,0,wb n⟩,⟨1,1,0,1+within (n.tdiv 8) 2⟩,⟨7,0,0,2⟩]
 else if k<7 then [⟨1,0,0,wb n⟩,⟨1,1,0,1+within (n.tdiv 8) 2⟩,⟨1,2,0,pk [1,3,0] (within (n.tdiv 16) 3)⟩,⟨7,0,0,3⟩]
 else if k<9 then [⟨1,0,0,wb n⟩,⟨7,0,0,4⟩]
 else if k=9∨k=10 then [⟨7,0,0,5⟩]
 else if k=11 then [⟨7,0,0,pk [7,7,7,6] (within n 4)⟩]
 else if k=12 then [⟨7,0,0,pk [8,9] (within n 2)⟩]
 else if k<16 then [⟨1,4,0,within n 1000⟩,⟨4,4,6,8*wb n+within (n.tdiv 8) 8⟩]
 else if k<20 then [⟨3,3,6,8*wb n+within (n.tdiv 8) 8⟩]
 else if k=20 then [⟨5,0,6,8*wb n+within (n.tdiv 8) 8⟩]
 else if k=21 then [⟨3,5,6,pk [2048,2056,3584,4095,4096,65535] (within n 6)⟩]
 else if k=22 then [⟨2,within n 6,within (n.tdiv 8) 6,0⟩,⟨6,within (n.tdiv 64) 8,0,within (n.tdiv 8) 24⟩]
 else [⟨4,within n 8,within (n.tdiv 8) 8,within n 4200⟩]
def gW (l:List Int):Nat→List qG
 |0=> []
 |m+1=>if(gW l m).length+(qn (within (l.getD (2*m) 0) 24) (l.getD (2*m+1) 0)).length≤24 then gW l m++qn (within (l.getD (2*m) 0) 24) (l.getD (2*m+1) 0)else gW l m
def wI (l:List Int):List qG:=gW l (min 8 (l.length/2))
theorem U8 (l:List Int): ∀m,(gW l m).length≤24:=by
 intro m
 induction m with
 |zero=>exact Nat.zero_le _
 |succ m ih=>
  unfold gW
  split
  ·rw [List.length_append];assumption
  exact ih
theorem Le {α:Type} (p:α→Prop) {c:Prop} [Decidable c] {a b:α} (ha:c→p a) (hb: ¬c→p b):p (if c then a else b):=by
 by_cases h:c
 ·rw [if_pos h];exact ha h
 rw [if_neg h];exact hb h
theorem A7 (k n:Int):(qn k n).length≤4∧0<(qn k n).length:=by
 unfold qn
 iterate 12 refine Le (fun l:List qG=>l.length≤4∧0<l.length) (fun _=>⟨Nat.le_of_ble_eq_true rfl,Nat.le_of_ble_eq_true rfl⟩) fun _=> ?_
 exact⟨Nat.le_of_ble_eq_true rfl,Nat.le_of_ble_eq_true rfl⟩
theorem Dj (n:Int):0≤wb n∧wb n≤255:=by
 unfold wb
 split
 ·have hw:=y4 (v:=n.tdiv 7) (n:=5) (by decide)
  exact Lp (fun x=>0≤x∧x≤255) (by decide) ⟨hw.1,hw.2⟩
 have hw:=y4 (v:=n) (n:=6) (by decide);omega
set_option maxHeartbeats 1000000 in
theorem ly (R:List SP) (v:z0) (l:List Int) (hl: ∀z,z ∈ l→jz z):yH 74 [v] (z3 (jZ ye 1) v l::R) fun w L2=>L2=z3 (zX qs 4) w (wI l)::z3 (jZ ye 1) v l::R:=by
 refine SW.intro rfl Tryz.func74 rfl ?_
 refine O0 18 J (yE (Sub.jF (en:=qs) (es:=4) (fun _=>rfl) (by decide) 0 _) ?_)
 refine zy (fun j T LZ=> ∃(m:Nat) (ov:z0),(m≤8∧2*m≤l.length)∧j=8-m∧T.len=15∧Tm.get 0 T=some (v)∧Tm.get 3 T=some (.func 15 [] [])∧Tm.get 4 T=some (ov)∧Tm.get 5 T=some (vi ((2*m:Nat):Int))∧Sub LZ (z3 (zX qs 4) ov (gW l m)::z3 (jZ ye 1) v l::R)) (8) ⟨0,.slice none 0 (some 0) 0,by omega,by omega,rfl,rfl,rfl,rfl,rfl,(show Px.Sub _ (z3 (zX qs 4) (.slice none 0 (some 0) 0) ([]:List qG)::z3 (jZ ye 1) v l::R)from Y)⟩ ?_
 rintro j T L0 ⟨m,ov,hm,rfl,hl,g0,g3,g4,g5,yU⟩
 obtain⟨tg,rfl⟩:=GY hl g0 g3 g4 g5
 clear hl g0 g3 g4 g5
 refine yE yU ?_
 clear yU L0
 refine O0 4 J (ad J (Z 1 J (qJ rfl (fun _ h=>cY ye 1 rfl rfl rfl rfl rfl h) ?_)))
 refine Z 1 J (z5 (fun YQ=> ?_) (fun YQ=> ?_))
 ·have Zi:2*m+1<l.length:=by omega
  refine Z 3 J (z5 (fun Q9=> ?_) (fun Q9=> ?_))
  ·obtain⟨x1,Cx⟩: ∃x,l[2*m]? =some x:=⟨_,List.getElem?_eq_getElem (by omega)⟩
   obtain⟨x2,km⟩: ∃x,l[2*m+1]? =some x:=⟨_,List.getElem?_eq_getElem (by omega)⟩
   have jy:jz x2:=hl x2 (List.mem_of_getElem? km)
   have HV:l.getD (2*m) 0=x1:=by rw [List.getD_eq_getElem?_getD,Cx];rfl
   have dr:l.getD (2*m+1) 0=x2:=by rw [List.getD_eq_getElem?_getD,km];rfl
   have hpb:=Dj x2
   refine Z 7 J (zW [0,0,0,6,14,31,0,0,128,448,960,63,4095] [([0,1,2,3,4,6,7,8,9,10],[4,8,10],some 5),([11,12],[8,10],none)] (by kernel_rfl) ?_)
   refine z7 (ZK 3 J (jM rfl (fun _ h=>W6 ye 1 rfl rfl rfl (by omega) (by omega) h) ?_))
   refine jM rfl (fun _ h=>gM ye 1 (j:=0) rfl rfl rfl Cx rfl h) ?_
   refine ZK 2 J (PJ J (jM rfl (fun _ h=>W6 ye 1 rfl rfl rfl (by omega) (by omega) h) ?_))
   refine jM rfl (fun _ h=>gM ye 1 (j:=0) rfl rfl rfl km rfl h) ?_
   refine z8 ⟨(va rfl (fun _ h=>gM ye 1 (j:=0) rfl rfl rfl Cx rfl h) rfl rfl (z6 _ rfl) (uR rfl (fun _=>zG rfl rfl rfl (gJ (by omega))) rfl rfl (z6 _ rfl) (va rfl (fun _ h=>gM ye 1 (j:=0) rfl rfl rfl km rfl h) rfl rfl (z6 _ rfl) z9))),?_⟩
   refine Z0 (vg _ _ _ (by omega)) J ?_
   have z83:=y4 (v:=x1) (n:=24) (by decide)
   refine zJ (z7 (ZK 2 J (z8 ⟨(uR rfl (fun _=>zG rfl rfl rfl (gJ (by omega))) rfl rfl (z6 _ rfl) (va rfl (fun _ h=>gM ye 1 (j:=0) rfl rfl rfl km rfl h) rfl rfl (z6 _ rfl) z9)),?_⟩)))
   refine OX 4 J (Z0 (vg _ _ _ (by omega)) J ?_)
   have z25:=y4 (v:=x2) (n:=6) (by decide)
   refine Z 2 J (Bc (fun T LZ=>T.len=15∧Tm.get 0 T=some (v)∧Tm.get 3 T=some (.func 15 [] [])∧Tm.get 4 T=some (ov)∧Tm.get 5 T=some (vi ((2*m:Nat):Int))∧Tm.get 6 T=some (vi (within x1 24))∧Tm.get 7 T=some (vi x2)∧Tm.get 8 T=some (vi (wb x2))∧Sub LZ (z3 (zX qs 4) ov (gW l m)::z3 (jZ ye 1) v l::R)) ?_ ?_)
   ·refine O0 4 J (Z0 (vg _ _ _ (by omega)) J (Z 1 J (z5 (fun nU=> ?_) (fun nU=> ?_))))
    ·refine Z 3 J (zf (cs:= [_,_,_,_,_]) rfl rfl rfl (by decide) rfl fun i39=> ?_)
     refine Z 2 J (zo rfl (fun _=>zG rfl rfl rfl (yn (by assumption) (by omega))) ?_)
     refine Z0 (vg _ _ _ (by omega)) J (zd (Sub.one (K:=zC) (a:=i39) (K2:=jZ ye 1) (a2:= .slice (some (i39,0)) 5 (some 5) 1) (x2:= [63,64,128,255,250]) (Yy (l:= [63,64,128,255,250]))) ?_)
     have Hj:=y4 (v:=x2.tdiv 7) (n:=5) (by decide)
     have z1R:=GD (l:= [63,64,128,255,250]) (k:=within (x2.tdiv 7) 5) ⟨Hj.1,Hj.2⟩
     refine qJ rfl (fun _ h=>W6 ye 1 rfl rfl rfl Hj.1 (by exact Hj.2) h) ?_
     refine qJ rfl (fun _ h=>gM ye 1 (j:=0) rfl rfl rfl z1R rfl h) ?_
     refine Z 2 J ?_
     have XT:wb x2=_:=if_pos nU
     exact⟨rfl,rfl,rfl,rfl,rfl,rfl,rfl,(congrArg (fun z:Int=>some (vi z)) XT.symm),Y⟩
    refine Z 3 J ?_
    have XT:wb x2=_:=if_neg nU
    exact⟨rfl,rfl,rfl,rfl,rfl,rfl,rfl,(congrArg (fun z:Int=>some (vi z)) XT.symm),Y⟩
   rintro T L0 ⟨hl,g0,g3,g4,g5,g6,g7,g8,yU⟩
   obtain⟨tg,rfl⟩:=Xd hl g0 g3 g4 g5 g6 g7 g8
   clear hl g0 g3 g4 g5 g6 g7 g8
   refine yE yU ?_
   clear yU L0
   refine O 4 J (Bc (fun T LZ=> ∃(i9:Nat),T.len=15∧Tm.get 0 T=some (v)∧Tm.get 3 T=some (.func 15 [] [])∧Tm.get 4 T=some (ov)∧Tm.get 5 T=some (vi ((2*m:Nat):Int))∧Tm.get 9 T=some (.slice (some (i9,0)) (qn (within x1 24) x2).length (some (qn (within x1 24) x2).length) 4)∧Sub LZ (z3 (zX qs 4) (.slice (some (i9,0)) (qn (within x1 24) x2).length (some (qn (within x1 24) x2).length) 4) (qn (within x1 24) x2)::z3 (zX qs 4) ov (gW l m)::z3 (jZ ye 1) v l::R)) ?_ ?_)
   ·refine O0 5 J (z5 (fun h60=> ?_) (fun h60=> ?_))
    ·refine Z 5 J (bu [_,_,_,_] J Y Y J (Z 2 J (zo rfl (fun _=>zG rfl rfl rfl (yn (by assumption) (by omega))) ?_)))
     refine Z0 (vg _ _ _ (by omega)) J ?_
     have z93:=y4 (v:=x2.tdiv 8) (n:=3) (by decide)
     refine ad J (bu [_,_,_,_] J Y Y J (zf (cs:= [_,_,_,_,_,_]) rfl rfl rfl (by decide) rfl fun i69=> ?_))
     refine Z 2 J (zo rfl (fun _=>zG rfl rfl rfl (yn (by assumption) (by omega))) ?_)
     refine Z0 (vg _ _ _ (by omega)) J (zd (Sub.one (K:=zC) (a:=i69) (K2:=jZ ye 1) (a2:= .slice (some (i69,0)) 6 (some 6) 1) (x2:= [3,3,3,1,0,2]) (Yy (l:= [3,3,3,1,0,2]))) ?_)
     have Hk:=y4 (v:=x2.tdiv 32) (n:=6) (by decide)
     have iX:=GD (l:= [3,3,3,1,0,2]) (k:=within (x2.tdiv 32) 6) ⟨Hk.1,Hk.2⟩
     refine qJ rfl (fun _ h=>W6 ye 1 rfl rfl rfl Hk.1 (by exact Hk.2) h) ?_
     refine qJ rfl (fun _ h=>gM ye 1 (j:=0) rfl rfl rfl iX rfl h) ?_
     refine bu [_,_,_,_] J Y Y J (bu [_,_,_,_] J Y Y J (zf (cs:= [_,_,_,_,_,_,_,_,_,_,_,_,_,_,_,_]) rfl rfl rfl (by decide) rfl fun i78=> ?_))
     refine Z 2 J ?_
     have Yw:qn (within x1 24) x2= [⟨1,0,0,wb x2⟩,⟨1,1,0,1+within (x2.tdiv 8) 3⟩,⟨1,2,0,pk [3,3,3,1,0,2] (within (x2.tdiv 32) 6)⟩,⟨7,0,0,1⟩]:=by unfold qn;rw [if_pos (by omega)]
     exact⟨i78,rfl,rfl,rfl,rfl,rfl,(by rw [Yw];rfl),(by rw [Yw];exact Sub.trans (Sub.one (K:=zC) (a:=i78) (K2:=zX qs 4) (a2:= .slice (some (i78,0)) 4 (some 4) 4) (x2:=([⟨1,0,0,wb x2⟩,⟨1,1,0,1+within (x2.tdiv 8) 3⟩,⟨1,2,0,pk [3,3,3,1,0,2] (within (x2.tdiv 32) 6)⟩,⟨7,0,0,1⟩]:List qG)) (gY (en:=qs) (es:=4) (ys:=([⟨1,0,0,wb x2⟩,⟨1,1,0,1+within (x2.tdiv 8) 3⟩,⟨1,2,0,pk [3,3,3,1,0,2] (within (x2.tdiv 32) 6)⟩,⟨7,0,0,1⟩]:List qG)) (fun _=>rfl) (by decide))) Y)⟩
    refine Z 7 J (z5 (fun h81=> ?_) (fun h81=> ?_))
    ·refine Z 5 J (bu [_,_,_,_] J Y Y J (Z 2 J (zo rfl (fun _=>zG rfl rfl rfl (yn (by assumption) (by omega))) ?_)))
     refine Z0 (vg _ _ _ (by omega)) J ?_
     have z94:=y4 (v:=x2.tdiv 8) (n:=2) (by decide)
     refine ad J (bu [_,_,_,_] J Y Y J (bu [_,_,_,_] J Y Y J (zf (cs:= [_,_,_,_,_,_,_,_,_,_,_,_]) rfl rfl rfl (by decide) rfl fun i91=> ?_)))
     refine Z 2 J ?_
     have Yw:qn (within x1 24) x2= [⟨1,0,0,wb x2⟩,⟨1,1,0,1+within (x2.tdiv 8) 2⟩,⟨7,0,0,2⟩]:=by unfold qn;rw [if_neg (by omega),if_pos (by omega)]
     exact⟨i91,rfl,rfl,rfl,rfl,rfl,(by rw [Yw];rfl),(by rw [Yw];exact Sub.trans (Sub.one (K:=zC) (a:=i91) (K2:=zX qs 4) (a2:= .slice (some (i91,0)) 3 (some 3) 4) (x2:=([⟨1,0,0,wb x2⟩,⟨1,1,0,1+within (x2.tdiv 8) 2⟩,⟨7,0,0,2⟩]:List qG)) (gY (en:=qs) (es:=4) (ys:=([⟨1,0,0,wb x2⟩,⟨1,1,0,1+within (x2.tdiv 8) 2⟩,⟨7,0,0,2⟩]:List qG)) (fun _=>rfl) (by decide))) Y)⟩
    refine Z 7 J (z5 (fun h94=> ?_) (fun h94=> ?_))
    ·refine Z 5 J (bu [_,_,_,_] J Y Y J (Z 2 J (zo rfl (fun _=>zG rfl rfl rfl (yn (by assumption) (by omega))) ?_)))
     refine Z0 (vg _ _ _ (by omega)) J ?_
     have z5B:=y4 (v:=x2.tdiv 8) (n:=2) (by decide)
     refine ad J (bu [_,_,_,_] J Y Y J (zf (cs:= [_,_,_]) rfl rfl rfl (by decide) rfl fun i103=> ?_))
     refine Z 2 J (zo rfl (fun _=>zG rfl rfl rfl (yn (by assumption) (by omega))) ?_)
     refine Z0 (vg _ _ _ (by omega)) J (zd (Sub.one (K:=zC) (a:=i103) (K2:=jZ ye 1) (a2:= .slice (some (i103,0)) 3 (some 3) 1) (x2:= [1,3,0]) (Yy (l:= [1,3,0]))) ?_)
     have az:=y4 (v:=x2.tdiv 16) (n:=3) (by decide)
     have SQ:=GD (l:= [1,3,0]) (k:=within (x2.tdiv 16) 3) ⟨az.1,az.2⟩
     refine qJ rfl (fun _ h=>W6 ye 1 rfl rfl rfl az.1 (by exact az.2) h) ?_
     refine qJ rfl (fun _ h=>gM ye 1 (j:=0) rfl rfl rfl SQ rfl h) ?_
     refine bu [_,_,_,_] J Y Y J (bu [_,_,_,_] J Y Y J (zf (cs:= [_,_,_,_,_,_,_,_,_,_,_,_,_,_,_,_]) rfl rfl rfl (by decide) rfl fun i112=> ?_))
     refine Z 2 J ?_
     have Yw:qn (within x1 24) x2= [⟨1,0,0,wb x2⟩,⟨1,1,0,1+within (x2.tdiv 8) 2⟩,⟨1,2,0,pk [1,3,0] (within (x2.tdiv 16) 3)⟩,⟨7,0,0,3⟩]:=by unfold qn;rw [if_neg (by omega),if_neg (by omega),if_pos (by omega)]
     exact⟨i112,rfl,rfl,rfl,rfl,rfl,(by rw [Yw];rfl),(by rw [Yw];exact Sub.trans (Sub.one (K:=zC) (a:=i112) (K2:=zX qs 4) (a2:= .slice (some (i112,0)) 4 (some 4) 4) (x2:=([⟨1,0,0,wb x2⟩,⟨1,1,0,1+within (x2.tdiv 8) 2⟩,⟨1,2,0,pk [1,3,0] (within (x2.tdiv 16) 3)⟩,⟨7,0,0,3⟩]:List qG)) (gY (en:=qs) (es:=4) (ys:=([⟨1,0,0,wb x2⟩,⟨1,1,0,1+within (x2.tdiv 8) 2⟩,⟨1,2,0,pk [1,3,0] (within (x2.tdiv 16) 3)⟩,⟨7,0,0,3⟩]:List qG)) (fun _=>rfl) (by decide))) Y)⟩
    refine Z 7 J (z5 (fun z05=> ?_) (fun z05=> ?_))
    ·refine Z 5 J (bu [_,_,_,_] J Y Y J (bu [_,_,_,_] J Y Y J (zf (cs:= [_,_,_,_,_,_,_,_]) rfl rfl rfl (by decide) rfl fun i119=> ?_)))
     refine Z 2 J ?_
     have Yw:qn (within x1 24) x2= [⟨1,0,0,wb x2⟩,⟨7,0,0,4⟩]:=by unfold qn;rw [if_neg (by omega),if_neg (by omega),if_neg (by omega),if_pos (by omega)]
     exact⟨i119,rfl,rfl,rfl,rfl,rfl,(by rw [Yw];rfl),(by rw [Yw];exact Sub.trans (Sub.one (K:=zC) (a:=i119) (K2:=zX qs 4) (a2:= .slice (some (i119,0)) 2 (some 2) 4) (x2:=([⟨1,0,0,wb x2⟩,⟨7,0,0,4⟩]:List qG)) (gY (en:=qs) (es:=4) (ys:=([⟨1,0,0,wb x2⟩,⟨7,0,0,4⟩]:List qG)) (fun _=>rfl) (by decide))) Y)⟩
    refine Z 7 J (z5 (fun z07=> ?_) (fun z07=> ?_))
    ·refine Z 8 J (bu [_,_,_,_] J Y Y J (zf (cs:= [_,_,_,_]) rfl rfl rfl (by decide) rfl fun i128=> ?_))
     refine Z 2 J ?_
     have Yw:qn (within x1 24) x2= [⟨7,0,0,5⟩]:=by unfold qn;rw [if_neg (by omega),if_neg (by omega),if_neg (by omega),if_neg (by omega),if_pos (by omega)]
     exact⟨i128,rfl,rfl,rfl,rfl,rfl,(by rw [Yw];rfl),(by rw [Yw];exact Sub.trans (Sub.one (K:=zC) (a:=i128) (K2:=zX qs 4) (a2:= .slice (some (i128,0)) 1 (some 1) 4) (x2:=([⟨7,0,0,5⟩]:List qG)) (gY (en:=qs) (es:=4) (ys:=([⟨7,0,0,5⟩]:List qG)) (fun _=>rfl) (by decide))) Y)⟩
    refine Z 3 J (z5 (fun z08=> ?_) (fun z08=> ?_))
    ·refine Z 5 J (bu [_,_,_,_] J Y Y J (zf (cs:= [_,_,_,_]) rfl rfl rfl (by decide) rfl fun i128=> ?_))
     refine Z 2 J ?_
     have Yw:qn (within x1 24) x2= [⟨7,0,0,5⟩]:=by unfold qn;rw [if_neg (by omega),if_neg (by omega),if_neg (by omega),if_neg (by omega),if_pos (by omega)]
     exact⟨i128,rfl,rfl,rfl,rfl,rfl,(by rw [Yw];rfl),(by rw [Yw];exact Sub.trans (Sub.one (K:=zC) (a:=i128) (K2:=zX qs 4) (a2:= .slice (some (i128,0)) 1 (some 1) 4) (x2:=([⟨7,0,0,5⟩]:List qG)) (gY (en:=qs) (es:=4) (ys:=([⟨7,0,0,5⟩]:List qG)) (fun _=>rfl) (by decide))) Y)⟩
    refine Z 8 J (z5 (fun z09=> ?_) (fun z09=> ?_))
    ·refine Z 4 J (zf (cs:= [_,_,_,_]) rfl rfl rfl (by decide) rfl fun i132=> ?_)
     refine Z 2 J (Z0 (vg _ _ _ (by omega)) J (zd (Sub.one (K:=zC) (a:=i132) (K2:=jZ ye 1) (a2:= .slice (some (i132,0)) 4 (some 4) 1) (x2:= [7,7,7,6]) (Yy (l:= [7,7,7,6]))) ?_))
     have eA:=y4 (v:=x2) (n:=4) (by decide)
     have SR:=GD (l:= [7,7,7,6]) (k:=within (x2) 4) ⟨eA.1,eA.2⟩
     refine qJ rfl (fun _ h=>W6 ye 1 rfl rfl rfl eA.1 (by exact eA.2) h) ?_
     refine qJ rfl (fun _ h=>gM ye 1 (j:=0) rfl rfl rfl SR rfl h) ?_
     refine bu [_,_,_,_] J Y Y J (zf (cs:= [_,_,_,_]) rfl rfl rfl (by decide) rfl fun i139=> ?_)
     refine Z 2 J ?_
     have Yw:qn (within x1 24) x2= [⟨7,0,0,pk [7,7,7,6] (within x2 4)⟩]:=by unfold qn;rw [if_neg (by omega),if_neg (by omega),if_neg (by omega),if_neg (by omega),if_neg (by omega),if_pos (by omega)]
     exact⟨i139,rfl,rfl,rfl,rfl,rfl,(by rw [Yw];rfl),(by rw [Yw];exact Sub.trans (Sub.one (K:=zC) (a:=i139) (K2:=zX qs 4) (a2:= .slice (some (i139,0)) 1 (some 1) 4) (x2:=([⟨7,0,0,pk [7,7,7,6] (within x2 4)⟩]:List qG)) (gY (en:=qs) (es:=4) (ys:=([⟨7,0,0,pk [7,7,7,6] (within x2 4)⟩]:List qG)) (fun _=>rfl) (by decide))) Y)⟩
    refine Z 7 J (z5 (fun z0B=> ?_) (fun z0B=> ?_))
    ·refine Z 4 J (zf (cs:= [_,_]) rfl rfl rfl (by decide) rfl fun i143=> ?_)
     refine Z 2 J (Z0 (vg _ _ _ (by omega)) J (zd (Sub.one (K:=zC) (a:=i143) (K2:=jZ ye 1) (a2:= .slice (some (i143,0)) 2 (some 2) 1) (x2:= [8,9]) (Yy (l:= [8,9]))) ?_))
     have eB:=y4 (v:=x2) (n:=2) (by decide)
     have SU:=GD (l:= [8,9]) (k:=within (x2) 2) ⟨eB.1,eB.2⟩
     refine qJ rfl (fun _ h=>W6 ye 1 rfl rfl rfl eB.1 (by exact eB.2) h) ?_
     refine qJ rfl (fun _ h=>gM ye 1 (j:=0) rfl rfl rfl SU rfl h) ?_
     refine bu [_,_,_,_] J Y Y J (zf (cs:= [_,_,_,_]) rfl rfl rfl (by decide) rfl fun i150=> ?_)
     refine Z 2 J ?_
     have Yw:qn (within x1 24) x2= [⟨7,0,0,pk [8,9] (within x2 2)⟩]:=by unfold qn;rw [if_neg (by omega),if_neg (by omega),if_neg (by omega),if_neg (by omega),if_neg (by omega),if_neg (by omega),if_pos (by omega)]
     exact⟨i150,rfl,rfl,rfl,rfl,rfl,(by rw [Yw];rfl),(by rw [Yw];exact Sub.trans (Sub.one (K:=zC) (a:=i150) (K2:=zX qs 4) (a2:= .slice (some (i150,0)) 1 (some 1) 4) (x2:=([⟨7,0,0,pk [8,9] (within x2 2)⟩]:List qG)) (gY (en:=qs) (es:=4) (ys:=([⟨7,0,0,pk [8,9] (within x2 2)⟩]:List qG)) (fun _=>rfl) (by decide))) Y)⟩
    refine Z 7 J (z5 (fun z0C=> ?_) (fun z0C=> ?_))
    ·refine Z 6 J (Z0 (vg _ _ _ (by omega)) J ?_)
     have z5E:=y4 (v:=x2) (n:=1000) (by decide)
     refine bu [_,_,_,_] J Y Y J (Z 1 J (ml J (Z 2 J (zo rfl (fun _=>zG rfl rfl rfl (yn (by assumption) (by omega))) ?_))))
     refine Z0 (vg _ _ _ (by omega)) J ?_
     have z5F:=y4 (v:=x2.tdiv 8) (n:=8) (by decide)
     refine ad J (bu [_,_,_,_] J Y Y J (zf (cs:= [_,_,_,_,_,_,_,_]) rfl rfl rfl (by decide) rfl fun i166=> ?_))
     refine Z 2 J ?_
     have Yw:qn (within x1 24) x2= [⟨1,4,0,within x2 1000⟩,⟨4,4,6,8*wb x2+within (x2.tdiv 8) 8⟩]:=by unfold qn;rw [if_neg (by omega),if_neg (by omega),if_neg (by omega),if_neg (by omega),if_neg (by omega),if_neg (by omega),if_neg (by omega),if_pos (by omega)]
     exact⟨i166,rfl,rfl,rfl,rfl,rfl,(by rw [Yw];rfl),(by rw [Yw];exact Sub.trans (Sub.one (K:=zC) (a:=i166) (K2:=zX qs 4) (a2:= .slice (some (i166,0)) 2 (some 2) 4) (x2:=([⟨1,4,0,within x2 1000⟩,⟨4,4,6,8*wb x2+within (x2.tdiv 8) 8⟩]:List qG)) (gY (en:=qs) (es:=4) (ys:=([⟨1,4,0,within x2 1000⟩,⟨4,4,6,8*wb x2+within (x2.tdiv 8) 8⟩]:List qG)) (fun _=>rfl) (by decide))) Y)⟩
    refine Z 7 J (z5 (fun z0D=> ?_) (fun z0D=> ?_))
    ·refine Z 5 J (ml J (Z 2 J (zo rfl (fun _=>zG rfl rfl rfl (yn (by assumption) (by omega))) ?_)))
     refine Z0 (vg _ _ _ (by omega)) J ?_
     have z5G:=y4 (v:=x2.tdiv 8) (n:=8) (by decide)
     refine ad J (bu [_,_,_,_] J Y Y J (zf (cs:= [_,_,_,_]) rfl rfl rfl (by decide) rfl fun i178=> ?_))
     refine Z 2 J ?_
     have Yw:qn (within x1 24) x2= [⟨3,3,6,8*wb x2+within (x2.tdiv 8) 8⟩]:=by unfold qn;rw [if_neg (by omega),if_neg (by omega),if_neg (by omega),if_neg (by omega),if_neg (by omega),if_neg (by omega),if_neg (by omega),if_neg (by omega),if_pos (by omega)]
     exact⟨i178,rfl,rfl,rfl,rfl,rfl,(by rw [Yw];rfl),(by rw [Yw];exact Sub.trans (Sub.one (K:=zC) (a:=i178) (K2:=zX qs 4) (a2:= .slice (some (i178,0)) 1 (some 1) 4) (x2:=([⟨3,3,6,8*wb x2+within (x2.tdiv 8) 8⟩]:List qG)) (gY (en:=qs) (es:=4) (ys:=([⟨3,3,6,8*wb x2+within (x2.tdiv 8) 8⟩]:List qG)) (fun _=>rfl) (by decide))) Y)⟩
    refine Z 7 J (z5 (fun z0E=> ?_) (fun z0E=> ?_))
    ·refine Z 5 J (ml J (Z 2 J (zo rfl (fun _=>zG rfl rfl rfl (yn (by assumption) (by omega))) ?_)))
     refine Z0 (vg _ _ _ (by omega)) J ?_
     have z5H:=y4 (v:=x2.tdiv 8) (n:=8) (by decide)
     refine ad J (bu [_,_,_,_] J Y Y J (zf (cs:= [_,_,_,_]) rfl rfl rfl (by decide) rfl fun i190=> ?_))
     refine Z 2 J ?_
     have Yw:qn (within x1 24) x2= [⟨5,0,6,8*wb x2+within (x2.tdiv 8) 8⟩]:=by unfold qn;rw [if_neg (by omega),if_neg (by omega),if_neg (by omega),if_neg (by omega),if_neg (by omega),if_neg (by omega),if_neg (by omega),if_neg (by omega),if_neg (by omega),if_pos (by omega)]
     exact⟨i190,rfl,rfl,rfl,rfl,rfl,(by rw [Yw];rfl),(by rw [Yw];exact Sub.trans (Sub.one (K:=zC) (a:=i190) (K2:=zX qs 4) (a2:= .slice (some (i190,0)) 1 (some 1) 4) (x2:=([⟨5,0,6,8*wb x2+within (x2.tdiv 8) 8⟩]:List qG)) (gY (en:=qs) (es:=4) (ys:=([⟨5,0,6,8*wb x2+within (x2.tdiv 8) 8⟩]:List qG)) (fun _=>rfl) (by decide))) Y)⟩
    refine Z 7 J (z5 (fun z0F=> ?_) (fun z0F=> ?_))
    ·refine Z 4 J (zf (cs:= [_,_,_,_,_,_]) rfl rfl rfl (by decide) rfl fun i194=> ?_)
     refine Z 2 J (Z0 (vg _ _ _ (by omega)) J (zd (Sub.one (K:=zC) (a:=i194) (K2:=jZ ye 1) (a2:= .slice (some (i194,0)) 6 (some 6) 1) (x2:= [2048,2056,3584,4095,4096,65535]) (Yy (l:= [2048,2056,3584,4095,4096,65535]))) ?_))
     have eC:=y4 (v:=x2) (n:=6) (by decide)
     have SV:=GD (l:= [2048,2056,3584,4095,4096,65535]) (k:=within (x2) 6) ⟨eC.1,eC.2⟩
     refine qJ rfl (fun _ h=>W6 ye 1 rfl rfl rfl eC.1 (by exact eC.2) h) ?_
     refine qJ rfl (fun _ h=>gM ye 1 (j:=0) rfl rfl rfl SV rfl h) ?_
     refine bu [_,_,_,_] J Y Y J (zf (cs:= [_,_,_,_]) rfl rfl rfl (by decide) rfl fun i201=> ?_)
     refine Z 2 J ?_
     have Yw:qn (within x1 24) x2= [⟨3,5,6,pk [2048,2056,3584,4095,4096,65535] (within x2 6)⟩]:=by unfold qn;rw [if_neg (by omega),if_neg (by omega),if_neg (by omega),if_neg (by omega),if_neg (by omega),if_neg (by omega),if_neg (by omega),if_neg (by omega),if_neg (by omega),if_neg (by omega),if_pos (by omega)]
     exact⟨i201,rfl,rfl,rfl,rfl,rfl,(by rw [Yw];rfl),(by rw [Yw];exact Sub.trans (Sub.one (K:=zC) (a:=i201) (K2:=zX qs 4) (a2:= .slice (some (i201,0)) 1 (some 1) 4) (x2:=([⟨3,5,6,pk [2048,2056,3584,4095,4096,65535] (within x2 6)⟩]:List qG)) (gY (en:=qs) (es:=4) (ys:=([⟨3,5,6,pk [2048,2056,3584,4095,4096,65535] (within x2 6)⟩]:List qG)) (fun _=>rfl) (by decide))) Y)⟩
    refine Z 7 J (z5 (fun z0G=> ?_) (fun z0G=> ?_))
    ·refine Z 6 J (Z0 (vg _ _ _ (by omega)) J (Z 2 J (zo rfl (fun _=>zG rfl rfl rfl (yn (by assumption) (by omega))) ?_)))
     refine Z0 (vg _ _ _ (by omega)) J (bu [_,_,_,_] J Y Y J (Z 2 J (zo rfl (fun _=>zG rfl rfl rfl (yn (by assumption) (by omega))) ?_)))
     refine Z0 (vg _ _ _ (by omega)) J (Z 2 J (zo rfl (fun _=>zG rfl rfl rfl (yn (by assumption) (by omega))) ?_))
     refine Z0 (vg _ _ _ (by omega)) J (bu [_,_,_,_] J Y Y J (zf (cs:= [_,_,_,_,_,_,_,_]) rfl rfl rfl (by decide) rfl fun i222=> ?_))
     refine Z 2 J ?_
     have Yw:qn (within x1 24) x2= [⟨2,within x2 6,within (x2.tdiv 8) 6,0⟩,⟨6,within (x2.tdiv 64) 8,0,within (x2.tdiv 8) 24⟩]:=by unfold qn;rw [if_neg (by omega),if_neg (by omega),if_neg (by omega),if_neg (by omega),if_neg (by omega),if_neg (by omega),if_neg (by omega),if_neg (by omega),if_neg (by omega),if_neg (by omega),if_neg (by omega),if_pos (by omega)]
     exact⟨i222,rfl,rfl,rfl,rfl,rfl,(by rw [Yw];rfl),(by rw [Yw];exact Sub.trans (Sub.one (K:=zC) (a:=i222) (K2:=zX qs 4) (a2:= .slice (some (i222,0)) 2 (some 2) 4) (x2:=([⟨2,within x2 6,within (x2.tdiv 8) 6,0⟩,⟨6,within (x2.tdiv 64) 8,0,within (x2.tdiv 8) 24⟩]:List qG)) (gY (en:=qs) (es:=4) (ys:=([⟨2,within x2 6,within (x2.tdiv 8) 6,0⟩,⟨6,within (x2.tdiv 64) 8,0,within (x2.tdiv 8) 24⟩]:List qG)) (fun _=>rfl) (by decide))) Y)⟩
    refine Z 6 J (Z0 (vg _ _ _ (by omega)) J (Z 2 J (zo rfl (fun _=>zG rfl rfl rfl (yn (by assumption) (by omega))) ?_)))
    refine Z0 (vg _ _ _ (by omega)) J (Z 2 J (Z0 (vg _ _ _ (by omega)) J (bu [_,_,_,_] J Y Y J (zf (cs:= [_,_,_,_]) rfl rfl rfl (by decide) rfl fun i57=> ?_))))
    refine Z 2 J ?_
    have Yw:qn (within x1 24) x2= [⟨4,within x2 8,within (x2.tdiv 8) 8,within x2 4200⟩]:=by unfold qn;rw [if_neg (by omega),if_neg (by omega),if_neg (by omega),if_neg (by omega),if_neg (by omega),if_neg (by omega),if_neg (by omega),if_neg (by omega),if_neg (by omega),if_neg (by omega),if_neg (by omega),if_neg (by omega)]
    exact⟨i57,rfl,rfl,rfl,rfl,rfl,(by rw [Yw];rfl),(by rw [Yw];exact Sub.trans (Sub.one (K:=zC) (a:=i57) (K2:=zX qs 4) (a2:= .slice (some (i57,0)) 1 (some 1) 4) (x2:=([⟨4,within x2 8,within (x2.tdiv 8) 8,within x2 4200⟩]:List qG)) (gY (en:=qs) (es:=4) (ys:=([⟨4,within x2 8,within (x2.tdiv 8) 8,within x2 4200⟩]:List qG)) (fun _=>rfl) (by decide))) Y)⟩
   rintro T L0 ⟨i9,hl,g0,g3,g4,g5,g9,yU⟩
   obtain⟨tg,rfl⟩:=I3 hl g0 g3 g4 g5 g9
   clear hl g0 g3 g4 g5 g9
   refine yE yU ?_
   clear yU L0
   have z7H:=U8 l m
   have au:=(A7 (within x1 24) x2).1
   refine O 3 J (qJ rfl (fun _ h=>yI rfl rfl rfl rfl rfl h) ?_)
   refine Z 1 J (qJ rfl (fun _ h=>yI rfl rfl rfl rfl rfl h) ?_)
   refine ad J (Z 1 J (z5 (fun z0H=> ?_) (fun z0H=> ?_)))
   ·refine Z 5 J (tR rfl rfl rfl rfl rfl rfl rfl (by omega) (fun _=>rfl) fun z6G z6K z6M=> ?_)
    refine Z 4 J (ad J (Z 2 J ?_))
    have kD:gW l (m+1)=gW l m++qn (within x1 24) x2:=by show(if _ then _ else _)=_;rw [HV,dr,if_pos (by omega)]
    exact Or.inl ⟨rfl,_,by omega,m+1,_,by omega,rfl,rfl,rfl,rfl,rfl,rfl,(by rw [kD];exact Y)⟩
   refine Z 5 J (ad J (Z 2 J ?_))
   have kD:gW l (m+1)=gW l m:=by show(if _ then _ else _)=_;rw [HV,dr,if_neg (by omega)]
   exact Or.inl ⟨rfl,_,by omega,m+1,ov,by omega,rfl,rfl,rfl,rfl,rfl,rfl,(by rw [kD];exact Y)⟩
  refine Z 4 J (Or.inr ⟨nofun,?_⟩)
  refine OX 6 J (zI J J J ?_)
  have hE:wI l=gW l m:=by unfold wI;congr 1;omega
  rw [hE]
  exact⟨_,rfl,Y⟩
 refine Z 7 J (Or.inr ⟨nofun,?_⟩)
 refine OX 6 J (zI J J J ?_)
 have hE:wI l=gW l m:=by unfold wI;congr 1;omega
 rw [hE]
 exact⟨_,rfl,Y⟩
end Go.Proofs.YtlhcpplnlgehbaaGreat
