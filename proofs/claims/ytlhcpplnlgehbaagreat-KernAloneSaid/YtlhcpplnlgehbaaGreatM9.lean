/- Part of the proof: KKern5, KKern6, KBootS, KBoot, KAl, PIn, KPlay, KPlay2. Names and blanks are cut short to keep within the size of a claim. -/
import Derived.Test.YtlhcpplnlgehbaaGreatM3
import Derived.Test.YtlhcpplnlgehbaaGreatM4
import Derived.Test.YtlhcpplnlgehbaaGreatM8
set_option linter.unusedVariables false
set_option linter.unusedSimpArgs false
set_option maxRecDepth 100000
namespace Go.Proofs.YtlhcpplnlgehbaaGreat
open Go Go.RowKit Go.Px
theorem UD {w:Nat→Nat} {code:List yl} {pc:Int} {i:yl} (h:qh code pc=some i) (h7:i.op≠7) (h3: ¬(i.op=3∨i.op=4∨i.op=5)): ∃w2 p2,qn w code pc=some (w2,p2):=by
 have hk:=CX (Yh h)
 unfold qn
 rw [h]
 dsimp only
 by_cases e1:i.op=1
 ·rw [if_pos e1];exact⟨_,_,rfl⟩
 rw [if_neg e1]
 by_cases e2:i.op=2
 ·rw [if_pos e2];exact⟨_,_,rfl⟩
 rw [if_neg e2,if_pos (by omega)]
 split<;>exact⟨_,_,rfl⟩
theorem wy {S:KS} {c p:Nat} {x:yg} {i:yl} (hq:S.Q.cpu (c:Nat)=(p:Nat)) (hx:S.pr p=some x) (hi:qh x.code x.pc=some i):S.runP c=(true,S.instr c p x i):=by
 unfold KS.runP
 rw [hq,show((p:Nat):Int).toNat=p from rfl,hx]
 dsimp only
 rw [hi]
theorem JE {S:KS} {c p:Nat} {x:yg} (hq:S.Q.cpu (c:Nat)=(p:Nat)) (hx:S.pr p=some x) (hi:qh x.code x.pc=none):S.runP c=(false,S):=by
 unfold KS.runP
 rw [hq,show((p:Nat):Int).toNat=p from rfl,hx]
 dsimp only
 rw [hi]
theorem fg {S:KS} {c:Nat} (hc:c<S.Q.n):(S.pick c).Q.cpu (c:Nat)=(S.Q.pick c).1:=by
 show(S.Q.pick c).2.cpu (c:Nat)=_
 unfold zV.cpu
 rw [zV.pick_n,if_pos (by omega)]
 exact(S.Q.pick_on c hc).2.1
theorem Ay (R:List SP) (k:Nat) (L:KL) (S:KS) (b:Nat) (hok:S.Okk b) (hb:b≤300) (hg:S.N.gen≤900000000) (c:Nat) (hc:c<S.Q.n):zy 53 [vp k 0,vi c] (ent zp k (L,S)::R) fun w L2=>w= .bool (S.run c).1∧L2=ent zp k (L,(S.run c).2)::R:=by
 refine zS (zr k L S) fun y _=> ?_
 dsimp only [yE,List.cons_append,List.nil_append]
 refine SW.intro rfl Tryz.func53 rfl ?_
 refine O0 8 J (fa J Y (lf J Y Q7 (Z 1 J (Z1 (V4 _ _ S.Q (c:Nat)) J Y (Z 7 J (z0 (fun h15=> ?_) (fun h15=> ?_)))))))
 ·refine Z 7 J (fa J Y (lf J Y Q7 (Z 1 J (Z1 (Qv _ _ S.Q (c:Nat)) J Y (zR (Sub.trans ?_ (vP (k:=k) (R:=R) (L:=L) (S:=S) (S':=S.pick c) (y:=y) (y':=y) (zV.pick_n _ _) (fun _=>rfl) rfl rfl (show kF L S y=kF L (S.pick c) y from rfl))) ?_)))))
  ·exact Y
  have hok1:=hok.pick hc
  have hc1:c<(S.pick c).Q.n:=by { show c<(S.Q.pick c).2.n;rw [zV.pick_n];exact hc }
  refine Z 6 J (z0 (fun h23=> ?_) (fun h23=> ?_))
  ·refine Z 7 J (zE J J J ?_)
   have e:S.run c=(false,S.pick c):=by { unfold KS.run;rw [if_pos h15,if_pos h23] }
   rw [e]
   exact fq
  refine Z 6 J (Z1 (vo _ _ _ (S.pick c) c hc1 hok1.runs (by have:(S.pick c).N.gen=S.N.gen:=rfl;omega)) J Y ?_)
  obtain⟨SS,hSS⟩: ∃SS,SS=(S.pick c).leave c:=⟨_,rfl⟩
  have hsm:=ui (S.pick c) c
  have hlg:=uE hok1 c
  have hokS:=hok1.leave c
  rw [←hSS]at hsm hlg hokS ⊢
  have hcS:c<SS.Q.n:=by rw [hsm.2.1];exact hc1
  have hgS:SS.N.gen≤1000000000:=by { have:(S.pick c).N.gen=S.N.gen:=rfl;omega }
  have hcp:SS.Q.cpu (c:Nat)=(S.Q.pick c).1:=by rw [hsm.2.1,fg hc]
  have h0S:0≤SS.Q.cpu (c:Nat):=by rw [hcp];omega
  have hrun:S.run c=SS.runP c:=by { rw [hSS];exact(if_pos h15).trans (if_neg h23) }
  rw [←hcp]
  refine Z 3 J ?_
  obtain⟨hp4,x,hx0⟩:=hokS.runs c hcS h0S
  obtain⟨p,hpq⟩: ∃p:Nat,SS.Q.cpu (c:Nat)=p:=⟨_,(Int.toNat_of_nonneg h0S).symm⟩
  rw [hpq]at hp4 hx0
  have hp:p<4:=hp4
  have hx:SS.pr p=some x:=hx0
  rw [hpq]
  have hxo:=hokS.pr p x hx
  have hcd:=hxo.code
  have hpc:=hxo.pc
  refine qw (zr k L SS) fun y2 _=> ?_
  dsimp only [yE,List.cons_append,List.nil_append]
  refine zR (Sub.trans (M:=yE k L SS y2 R) Y (Zh (y:=y2) hp hx)) ?_
  dsimp only [Zn,Zq]
  refine uw (K:=zP qN 4) (q6 (y2.cd p) x.code) fun hcdo=> ?_
  refine Z 3 J (fa J Y (zf rfl (fun _=>zh rfl rfl rfl (by omega) (by omega)) ?_))
  refine lf J Y (yy (p:=p) (L:=L) (S:=SS) (y:=y2) hp hx) (Z 1 J (fa J Y (lN J Y Y J J (Z1 (kY _ x.w (y2.cd p) x.code (by omega) x.pc) J Y (Z 3 J (zN (fun h39=> ?_) (fun h39=> ?_)))))))
  ·obtain⟨i,hni⟩:=Option.isSome_iff_exists.1 h39
   rw [hni]
   dsimp only [Option.getD_some]
   have hi:=Yh hni
   refine zd rfl rfl rfl fun i6=> ?_
   refine sN J Y Y J J J (Z 13 J (fa J Y (ld J Y J (Z 5 J (z0 (fun h66=> ?_) (fun h66=> ?_))))))
   ·refine Z 7 J (lN J Y Y J J (zR (Sub.trans ?_ (kern_closeP (k:=k) (R:=R) (L:=L) (S:=SS) (S':=SS) (y:=y2) (y':=y2) (x':=x) hp rfl (fun _=>rfl) (wE hx) (fun j _=>rfl) rfl rfl)) ?_))
    ·exact Y
    refine Z1 (tJ _ _ _ SS b hokS hb hgS c p x hcS hx i) J Y (Z 6 J (zE J J J ?_))
    rw [hrun,wy hpq hx hni,show SS.instr c p x i=SS.call c p x i from if_pos h66]
    exact fq
   refine Z 7 J (z0 (fun h73=> ?_) (fun h73=> ?_))
   ·refine Z 9 J (lN J Y Y J J (zR (Sub.trans ?_ (kern_closeP (k:=k) (R:=R) (L:=L) (S:=SS) (S':=SS) (y:=y2) (y':=y2) (x':=x) hp rfl (fun _=>rfl) (wE hx) (fun j _=>rfl) rfl rfl)) ?_))
    ·exact Y
    refine Z1 (gx _ _ _ SS b hokS hb hgS c p x hcS hx i hi) J Y (Z 6 J (zE J J J ?_))
    rw [hrun,wy hpq hx hni,show SS.instr c p x i=SS.memory c p x i from(if_neg h66).trans (if_pos (.inl h73))]
    exact fq
   refine Z 6 J (z0 (fun h74=> ?_) (fun h74=> ?_))
   ·refine Z 9 J (lN J Y Y J J (zR (Sub.trans ?_ (kern_closeP (k:=k) (R:=R) (L:=L) (S:=SS) (S':=SS) (y:=y2) (y':=y2) (x':=x) hp rfl (fun _=>rfl) (wE hx) (fun j _=>rfl) rfl rfl)) ?_))
    ·exact Y
    refine Z1 (gx _ _ _ SS b hokS hb hgS c p x hcS hx i hi) J Y (Z 6 J (zE J J J ?_))
    rw [hrun,wy hpq hx hni,show SS.instr c p x i=SS.memory c p x i from(if_neg h66).trans (if_pos (.inr (.inl h74)))]
    exact fq
   refine Z 5 J (z0 (fun h75=> ?_) (fun h75=> ?_))
   ·refine Z 7 J (lN J Y Y J J (zR (Sub.trans ?_ (kern_closeP (k:=k) (R:=R) (L:=L) (S:=SS) (S':=SS) (y:=y2) (y':=y2) (x':=x) hp rfl (fun _=>rfl) (wE hx) (fun j _=>rfl) rfl rfl)) ?_))
    ·exact Y
    refine Z1 (gx _ _ _ SS b hokS hb hgS c p x hcS hx i hi) J Y (Z 6 J (zE J J J ?_))
    rw [hrun,wy hpq hx hni,show SS.instr c p x i=SS.memory c p x i from(if_neg h66).trans (if_pos (.inr (.inr h75)))]
    exact fq
   refine Z 3 J (zO [0,0,1,5,15,31,0,0,64,320,960,1984,4032,8128,16320,32704,65472,131008,131008,262143,786431,1835007] [([0,1,2,3,4,5,6,7,8,9,10,11,12,13,14],[5,11,14],some 15),([16,17,18,19,20],[5],some 21),([],[],none)] (by kernel_rfl) ?_)
   refine z4 (ZK 3 J (zj J Y (vN rfl (fun _=>zh rfl rfl rfl (by omega) (by omega)) ?_)))
   refine jS J Y (yy (p:=p) (L:=L) (S:=SS) (y:=y2) hp hx) (ZK 3 J (zj J Y (vN rfl (fun _=>zh rfl rfl rfl (by omega) (by omega)) ?_)))
   refine jS J Y (yy (p:=p) (L:=L) (S:=SS) (y:=y2) hp hx) (ZK 1 J (zj J Y (Vl J Y Y J J (z5 ⟨(uY J Y (yy (p:=p) (L:=L) (S:=SS) (y:=y2) hp hx) J (z3 _ rfl) (uY J Y (yy (p:=p) (L:=L) (S:=SS) (y:=y2) hp hx) J (z3 _ rfl) (YC J Y Y J J J (z3 _ (ZP hcdo)) z6))),?_⟩))))
   refine yG (bC _ x.w (y2.cd p) x.code (by omega) x.pc) rfl (fun _=>rfl) ?_
   intro u60 L60 hp60
   obtain⟨w2,p2,hpl⟩:=UD (w:=x.w) hni h66 (by omega)
   rw [hpl]at hp60
   obtain⟨v60,rfl,rfl⟩:=hp60
   refine yD (v:=v60) fun av60 cv60 ev60 hvv60 _=> ?_
   subst hvv60
   refine zF (z4 (ZK 4 J (zj J Y (z5 ⟨(uY J Y (yy (p:=p) (L:=L) (S:=SS) (y:=y2) hp hx) J (z3 _ rfl) z6),?_⟩))))
   refine sN J Y Y J J J (zF (z4 (z5 ⟨z6,?_⟩)))
   refine OX 5 J (zE J J J ?_)
   have h345: ¬(i.op=3∨i.op=4∨i.op=5):=by omega
   have e:SS.instr c p x i=SS.setP p (some (yg.mk w2 p2 x.code x.A x.fm x.sm x.S)):=by { unfold KS.instr;rw [if_neg h66,if_neg h345,hpl];rfl }
   rw [hrun,wy hpq hx hni,e]
   refine⟨_,⟨rfl,rfl⟩,Sub.trans (Sub.one (K:=z8) (a:=y2.a p) (K2:=z8) (a2:=y2.a p) (x2:=jC (w2) ((.slice av60 x.code.length cv60 ev60)) (p2)++ [vp (y2.v p) 0]) fun _ e=>e) (Sub.trans ?_ (kern_closeP (k:=k) (R:=R) (L:=L) (S:=SS) (S':=(SS.setP p (some (yg.mk w2 p2 x.code x.A x.fm x.sm x.S)))) (y:=y2) (y':=(y2.setCd p (.slice av60 x.code.length cv60 ev60))) (x':=(yg.mk w2 p2 x.code x.A x.fm x.sm x.S)) hp rfl (fun _=>rfl) jM (fun j hj=>jJ hj) rfl (QF hx)))⟩
   exact Y
  refine zd rfl rfl rfl fun i6=> ?_
  refine sN J Y Y J J J (Z 14 J (zE J J J ?_))
  have hni:qh x.code x.pc=none:=by { cases h:qh x.code x.pc with|none=>rfl|some i=>rw [h]at h39;cases h39 }
  rw [hrun,JE hpq hx hni]
  refine⟨_,⟨rfl,rfl⟩,Sub.trans ?_ (kern_closeP (k:=k) (R:=R) (L:=L) (S:=SS) (S':=SS) (y:=y2) (y':=y2) (x':=x) hp rfl (fun _=>rfl) (wE hx) (fun j _=>rfl) rfl rfl)⟩
  exact Y
 refine zR (Sub.trans (M:=yE k L S y R) Y yT) ?_
 obtain⟨SS,hSS⟩: ∃SS,SS=S:=⟨_,rfl⟩
 rw [←hSS]at hok hc hg h15 ⊢
 have hokS:=hok
 have hcS:=hc
 have hgS:SS.N.gen≤1000000000:=by omega
 have h0S:0≤SS.Q.cpu (c:Nat):=by omega
 have hrun:SS.run c=SS.runP c:=if_neg h15
 refine Z 5 J ?_
 obtain⟨hp4,x,hx0⟩:=hokS.runs c hcS h0S
 obtain⟨p,hpq⟩: ∃p:Nat,SS.Q.cpu (c:Nat)=p:=⟨_,(Int.toNat_of_nonneg h0S).symm⟩
 rw [hpq]at hp4 hx0
 have hp:p<4:=hp4
 have hx:SS.pr p=some x:=hx0
 rw [hpq]
 have hxo:=hokS.pr p x hx
 have hcd:=hxo.code
 have hpc:=hxo.pc
 refine qw (zr k L SS) fun y2 _=> ?_
 dsimp only [yE,List.cons_append,List.nil_append]
 refine zR (Sub.trans (M:=yE k L SS y2 R) Y (Zh (y:=y2) hp hx)) ?_
 dsimp only [Zn,Zq]
 refine uw (K:=zP qN 4) (q6 (y2.cd p) x.code) fun hcdo=> ?_
 refine Z 3 J (fa J Y (zf rfl (fun _=>zh rfl rfl rfl (by omega) (by omega)) ?_))
 refine lf J Y (yy (p:=p) (L:=L) (S:=SS) (y:=y2) hp hx) (Z 1 J (fa J Y (lN J Y Y J J (Z1 (kY _ x.w (y2.cd p) x.code (by omega) x.pc) J Y (Z 3 J (zN (fun h39=> ?_) (fun h39=> ?_)))))))
 ·obtain⟨i,hni⟩:=Option.isSome_iff_exists.1 h39
  rw [hni]
  dsimp only [Option.getD_some]
  have hi:=Yh hni
  refine zd rfl rfl rfl fun i6=> ?_
  refine sN J Y Y J J J (Z 13 J (fa J Y (ld J Y J (Z 5 J (z0 (fun h66=> ?_) (fun h66=> ?_))))))
  ·refine Z 7 J (lN J Y Y J J (zR (Sub.trans ?_ (kern_closeP (k:=k) (R:=R) (L:=L) (S:=SS) (S':=SS) (y:=y2) (y':=y2) (x':=x) hp rfl (fun _=>rfl) (wE hx) (fun j _=>rfl) rfl rfl)) ?_))
   ·exact Y
   refine Z1 (tJ _ _ _ SS b hokS hb hgS c p x hcS hx i) J Y (Z 6 J (zE J J J ?_))
   rw [hrun,wy hpq hx hni,show SS.instr c p x i=SS.call c p x i from if_pos h66]
   exact fq
  refine Z 7 J (z0 (fun h73=> ?_) (fun h73=> ?_))
  ·refine Z 9 J (lN J Y Y J J (zR (Sub.trans ?_ (kern_closeP (k:=k) (R:=R) (L:=L) (S:=SS) (S':=SS) (y:=y2) (y':=y2) (x':=x) hp rfl (fun _=>rfl) (wE hx) (fun j _=>rfl) rfl rfl)) ?_))
   ·exact Y
   refine Z1 (gx _ _ _ SS b hokS hb hgS c p x hcS hx i hi) J Y (Z 6 J (zE J J J ?_))
   rw [hrun,wy hpq hx hni,show SS.instr c p x i=SS.memory c p x i from(if_neg h66).trans (if_pos (.inl h73))]
   exact fq
  refine Z 6 J (z0 (fun h74=> ?_) (fun h74=> ?_))
  ·refine Z 9 J (lN J Y Y J J (zR (Sub.trans ?_ (kern_closeP (k:=k) (R:=R) (L:=L) (S:=SS) (S':=SS) (y:=y2) (y':=y2) (x':=x) hp rfl (fun _=>rfl) (wE hx) (fun j _=>rfl) rfl rfl)) ?_))
   ·exact Y
   refine Z1 (gx _ _ _ SS b hokS hb hgS c p x hcS hx i hi) J Y (Z 6 J (zE J J J ?_))
   rw [hrun,wy hpq hx hni,show SS.instr c p x i=SS.memory c p x i from(if_neg h66).trans (if_pos (.inr (.inl h74)))]
   exact fq
  refine Z 5 J (z0 (fun h75=> ?_) (fun h75=> ?_))
  ·refine Z 7 J (lN J Y Y J J (zR (Sub.trans ?_ (kern_closeP (k:=k) (R:=R) (L:=L) (S:=SS) (S':=SS) (y:=y2) (y':=y2) (x':=x) hp rfl (fun _=>rfl) (wE hx) (fun j _=>rfl) rfl rfl)) ?_))
   ·exact Y
   refine Z1 (gx _ _ _ SS b hokS hb hgS c p x hcS hx i hi) J Y (Z 6 J (zE J J J ?_))
   rw [hrun,wy hpq hx hni,show SS.instr c p x i=SS.memory c p x i from(if_neg h66).trans (if_pos (.inr (.inr h75)))]
   exact fq
  refine Z 3 J (zO [0,0,1,5,15,31,0,0,64,320,960,1984,4032,8128,16320,32704,65472,131008,131008,262143,786431,1835007] [([0,1,2,3,4,5,6,7,8,9,10,11,12,13,14],[5,11,14],some 15),([16,17,18,19,20],[5],some 21),([],[],none)] (by kernel_rfl) ?_)
  refine z4 (ZK 3 J (zj J Y (vN rfl (fun _=>zh rfl rfl rfl (by omega) (by omega)) ?_)))
  refine jS J Y (yy (p:=p) (L:=L) (S:=SS) (y:=y2) hp hx) (ZK 3 J (zj J Y (vN rfl (fun _=>zh rfl rfl rfl (by omega) (by omega)) ?_)))
  refine jS J Y (yy (p:=p) (L:=L) (S:=SS) (y:=y2) hp hx) (ZK 1 J (zj J Y (Vl J Y Y J J (z5 ⟨(uY J Y (yy (p:=p) (L:=L) (S:=SS) (y:=y2) hp hx) J (z3 _ rfl) (uY J Y (yy (p:=p) (L:=L) (S:=SS) (y:=y2) hp hx) J (z3 _ rfl) (YC J Y Y J J J (z3 _ (ZP hcdo)) z6))),?_⟩))))
  refine yG (bC _ x.w (y2.cd p) x.code (by omega) x.pc) rfl (fun _=>rfl) ?_
  intro u60 L60 hp60
  obtain⟨w2,p2,hpl⟩:=UD (w:=x.w) hni h66 (by omega)
  rw [hpl]at hp60
  obtain⟨v60,rfl,rfl⟩:=hp60
  refine yD (v:=v60) fun av60 cv60 ev60 hvv60 _=> ?_
  subst hvv60
  refine zF (z4 (ZK 4 J (zj J Y (z5 ⟨(uY J Y (yy (p:=p) (L:=L) (S:=SS) (y:=y2) hp hx) J (z3 _ rfl) z6),?_⟩))))
  refine sN J Y Y J J J (zF (z4 (z5 ⟨z6,?_⟩)))
  refine OX 5 J (zE J J J ?_)
  have h345: ¬(i.op=3∨i.op=4∨i.op=5):=by omega
  have e:SS.instr c p x i=SS.setP p (some (yg.mk w2 p2 x.code x.A x.fm x.sm x.S)):=by { unfold KS.instr;rw [if_neg h66,if_neg h345,hpl];rfl }
  rw [hrun,wy hpq hx hni,e]
  refine⟨_,⟨rfl,rfl⟩,Sub.trans (Sub.one (K:=z8) (a:=y2.a p) (K2:=z8) (a2:=y2.a p) (x2:=jC (w2) ((.slice av60 x.code.length cv60 ev60)) (p2)++ [vp (y2.v p) 0]) fun _ e=>e) (Sub.trans ?_ (kern_closeP (k:=k) (R:=R) (L:=L) (S:=SS) (S':=(SS.setP p (some (yg.mk w2 p2 x.code x.A x.fm x.sm x.S)))) (y:=y2) (y':=(y2.setCd p (.slice av60 x.code.length cv60 ev60))) (x':=(yg.mk w2 p2 x.code x.A x.fm x.sm x.S)) hp rfl (fun _=>rfl) jM (fun j hj=>jJ hj) rfl (QF hx)))⟩
  exact Y
 refine zd rfl rfl rfl fun i6=> ?_
 refine sN J Y Y J J J (Z 14 J (zE J J J ?_))
 have hni:qh x.code x.pc=none:=by { cases h:qh x.code x.pc with|none=>rfl|some i=>rw [h]at h39;cases h39 }
 rw [hrun,JE hpq hx hni]
 refine⟨_,⟨rfl,rfl⟩,Sub.trans ?_ (kern_closeP (k:=k) (R:=R) (L:=L) (S:=SS) (S':=SS) (y:=y2) (y':=y2) (x':=x) hp rfl (fun _=>rfl) (wE hx) (fun j _=>rfl) rfl rfl)⟩
 exact Y
theorem sG (R:List SP) (k:Nat) (L:KL) (S:KS) (b:Nat) (hok:S.Okk b) (hb:b≤300) (hg:S.N.gen≤900000000) (c:Nat) (hc:c<S.Q.n):zy 54 [vp k 0,vi c] (ent zp k (L,S)::R) fun w L2=>w= .tuple []∧L2=ent zp k (L,S.tick c)::R:=by
 refine zS (zr k L S) fun y _=> ?_
 dsimp only [yE,List.cons_append,List.nil_append]
 refine SW.intro rfl Tryz.func54 rfl ?_
 refine O0 4 J (fa J Y (lf J Y Q7 (Z 1 J (Z1 (V4 _ _ S.Q (c:Nat)) J Y (Z 6 J (fa J Y (lf J Y Q7 (Z 1 J (Z1 (Qv _ _ S.Q (c:Nat)) J Y (zR (Sub.trans ?_ (vP (k:=k) (R:=R) (L:=L) (S:=S) (S':=S.pick c) (y:=y) (y':=y) (zV.pick_n _ _) (fun _=>rfl) rfl rfl (show kF L S y=kF L (S.pick c) y from rfl))) ?_))))))))))
 ·exact Y
 have hok1:=hok.pick hc
 have hc1:c<(S.pick c).Q.n:=by { show c<(S.Q.pick c).2.n;rw [zV.pick_n];exact hc }
 refine Z 6 J (z0 (fun h18=> ?_) (fun h18=> ?_))
 ·obtain⟨hp4,x,hx0⟩:=hok.runs c hc h18
  obtain⟨p,hpq⟩: ∃p:Nat,S.Q.cpu (c:Nat)=p:=⟨_,(Int.toNat_of_nonneg h18).symm⟩
  rw [hpq]at hp4 hx0
  have hp:p<4:=hp4
  have hx:(S.pick c).pr p=some x:=hx0
  rw [hpq]
  refine Z 6 J (Z1 (G7 _ _ _ (S.pick c) c p x hc1 hp hx) J Y ?_)
  obtain⟨ST,hST⟩: ∃ST,ST=(S.pick c).enter c p x:=⟨_,rfl⟩
  rw [←hST]
  have hokT:ST.Okk b:=by rw [hST];exact hok1.enter c p x
  have hcT:c<ST.Q.n:=by rw [hST];exact hc1
  have hgT:ST.N.gen≤4611686018427387000:=by { have:ST.N.gen=S.N.gen:=(by rw [hST]);omega }
  have hti:S.tick c=ST.leave c:=by { unfold KS.tick KS.enterP;rw [if_pos h18,hpq,show((p:Nat):Int).toNat=p from rfl,hx,hST] }
  refine Z 4 J (Z1 (vo _ _ _ ST c hcT hokT.runs hgT) J Y (Z 1 J (qz J J ?_)))
  rw [hti]
  exact fq
 refine Z 6 J ?_
 obtain⟨ST,hST⟩: ∃ST,ST=S.pick c:=⟨_,rfl⟩
 rw [←hST]
 have hokT:ST.Okk b:=by rw [hST];exact hok1
 have hcT:c<ST.Q.n:=by rw [hST];exact hc1
 have hgT:ST.N.gen≤4611686018427387000:=by { have:ST.N.gen=S.N.gen:=(by rw [hST]);omega }
 have hti:S.tick c=ST.leave c:=by { unfold KS.tick;rw [if_neg h18,hST] }
 refine Z1 (vo _ _ _ ST c hcT hokT.runs hgT) J Y (Z 1 J (qz J J ?_))
 rw [hti]
 exact fq
theorem J7 (S:KS) (c:Nat):S.setX c (S.U c).xs S.H=S:=by
 have e:(fun d=>if d=c then({ S.U c with xs:=(S.U c).xs } :fQ)else S.U d)=S.U:=by
  funext d
  split
  ·rename_i h;rw [h]
  rfl
 show({ S with H:=S.H,U:=_ } :KS)=S
 rw [e]
theorem lg (S:KS) (L:KL) (c:Nat) (f w:Int): ∃r xs H2,S.warm1 c f w=(r,S.setX c xs H2)∧(S.cpu L c).warm S.M S.H f w=(r,(S.setX c xs H2).cpu L c,H2):=by
 unfold KS.warm1 u4.warm
 obtain⟨⟨h1,h2,h3,_⟩,_,_,_,_⟩:=vT (S.mm c) S.M S.H false false (8*(256+f)+w).toNat 0
 by_cases hc:(0≤f∧f<S.M.n)∧0≤w∧w<8
 ·rw [if_pos hc,if_pos hc,JO]
  rcases hr:(S.mm c).trans S.M S.H false false (8*(256+f)+w).toNat with⟨⟨pl,ft⟩,X2,H2⟩
  rw [hr]at h1 h2 h3
  dsimp only at h1 h2 h3 ⊢
  by_cases hf:ft≠0
  ·rw [if_pos hf,if_pos hf]
   exact⟨_,X2.xs,H2,rfl,by rw [jx S L c H2 h1 h2 h3]⟩
  rw [if_neg hf,if_neg hf]
  exact⟨_,X2.xs,(H2.touch c pl).2,rfl,by rw [jx S L c (H2.touch c pl).2 h1 h2 h3]⟩
 rw [if_neg hc,if_neg hc]
 exact⟨_,(S.U c).xs,S.H,by rw [J7],by rw [J7]⟩
theorem sy (R:List SP) (k:Nat) (L:KL) (S:KS) (b:Nat) (hok:S.Okk b) (hb:b≤300) (hg:S.N.gen≤900000000) (c:Nat) (hc:c<S.Q.n) (f w0:Int):zy 57 [vp k 0,vi c,vi f,vi w0] (ent zp k (L,S)::R) fun w L2=>w= .bool (S.warm c f w0).1∧L2=ent zp k (L,(S.warm c f w0).2)::R:=by
 refine zS (zr k L S) fun y _=> ?_
 dsimp only [yE,List.cons_append,List.nil_append]
 refine SW.intro rfl Tryz.func57 rfl ?_
 refine O0 8 J (fa J Y (lf J Y Q7 (Z 1 J (Z1 (V4 _ _ S.Q (c:Nat)) J Y (Z 7 J (z0 (fun h18=> ?_) (fun h18=> ?_)))))))
 ·refine Z 7 J (zE J J J ?_)
  rw [show S.warm c f w0=(false,S)from if_pos h18]
  refine⟨_,⟨rfl,rfl⟩,Sub.trans (M:=yE k L S y R) Y yT⟩
 refine zR (Sub.trans (M:=yE k L S y R) Y yT) ?_
 obtain⟨hp4,x,hx0⟩:=hok.runs c hc (by omega)
 obtain⟨p,hpq⟩: ∃p:Nat,S.Q.cpu (c:Nat)=p:=⟨_,(Int.toNat_of_nonneg (by omega)).symm⟩
 rw [hpq]at hp4 hx0
 have hp:p<4:=hp4
 have hx:S.pr p=some x:=hx0
 rw [hpq]
 refine Z 8 J (Z1 (G7 _ _ _ S c p x hc hp hx) J Y ?_)
 obtain⟨SE,hSE⟩: ∃SE,SE=S.enter c p x:=⟨_,rfl⟩
 rw [←hSE]
 have hokE:SE.Okk b:=by rw [hSE];exact hok.enter c p x
 have hcE:c<SE.Q.n:=by rw [hSE];exact hc
 have hgE:SE.N.gen=S.N.gen:=by rw [hSE]
 refine qw (zr k L SE) fun y3 _=> ?_
 dsimp only [yE,List.cons_append,List.nil_append]
 have hl:((List.range SE.Q.n).map L.c).length=SE.Q.n:=by simp
 have hlc:((List.range SE.Q.n).map L.c)[c]? =some (L.c c):=vw L.c hcE
 refine zR (Sub.trans (M:=yE k L SE y3 R) Y (UK (y:=y3) hcE)) ?_
 dsimp only [mi]
 refine uw (K:=zP uJ 1) (q6 y3.cv ((List.range SE.Q.n).map L.c)) fun hcv=> ?_
 replace hcv:=uK hcv
 refine Z 2 J (zO [0,1,3,7,0,31,63,0,128,384,896,0,2048,6144,14336,0,0,131071,262143] [([0,1,2,3,4,5,6,7,8,9,10,11,12,13,14,15,16],[3,6,10,14],some 17),([18],[],none)] (by kernel_rfl) ?_)
 refine z4 (ZK 2 J (zj J Y (jS J Y (wt (L:=L) (S:=SE) (y:=y3)) (ZK 1 J (uW rfl (fun _ h=>yM rfl rfl rfl (by omega) (by omega) h) ?_)))))
 refine Wm 0 J Y J hlc J (ZK 2 J (zj J Y (uW rfl (fun _ h=>wF rfl rfl (by omega) (by exact C8 (L:=L) (S:=SE) (y:=y3)) h) ?_)))
 refine ZK 2 J (zj J Y (jS J Y (VS (L:=L) (S:=SE) (y:=y3)) (ZK 2 J (z5 ⟨(uY J Y (wt (L:=L) (S:=SE) (y:=y3)) J (z3 _ hcv) (wV rfl (fun _ h=>qo (j:=0) rfl rfl rfl hlc rfl h) rfl rfl (z3 _ rfl) (wV rfl (fun _ h=>wF rfl rfl (by omega) (by exact C8 (L:=L) (S:=SE) (y:=y3)) h) rfl rfl (z3 _ rfl) (uY J Y (VS (L:=L) (S:=SE) (y:=y3)) J (z3 _ rfl) z6)))),?_⟩))))
 refine Z3 (aX _ _ (SE.cpu L c) (SE.W L) L.h SE.M SE.H f w0) J Y Y Y ?_
 obtain⟨r,xs,H2,hw1,hw2⟩:=lg SE L c f w0
 rw [hw2]
 dsimp only
 refine zR (Sub.trans ?_ (qB (k:=k) (R:=R) (L:=L) (S:=SE) (S':=SE.setX c xs H2) (y:=y3) (y':=y3) (u:=(SE.setX c xs H2).cpu L c) hcE rfl rfl (fun j hj=>QU SE L xs H2 hj) rfl rfl (show kF L SE y3=kF L (SE.setX c xs H2) y3 from rfl))) ?_
 ·exact Y
 have hokW:=hokE.warm1 c f w0
 rw [hw1]at hokW
 dsimp only at hokW
 obtain⟨SW,hSW⟩: ∃SW,SW=SE.setX c xs H2:=⟨_,rfl⟩
 rw [←hSW]
 rw [←hSW]at hokW
 have hcW:c<SW.Q.n:=by rw [hSW];exact hcE
 have hgW:SW.N.gen≤4611686018427387000:=by { have:SW.N.gen=SE.N.gen:=(by rw [hSW]);omega }
 have hww:S.warm c f w0=(r,SW.leave c):=by { unfold KS.warm KS.enterP;rw [if_neg h18,hpq,show((p:Nat):Int).toNat=p from rfl,hx];dsimp only;rw [←hSE,hw1,←hSW] }
 refine zF (z4 (ZK 1 J (z5 ⟨z6,?_⟩)))
 refine OX 4 J (Z1 (vo _ _ _ SW c hcW hokW.runs hgW) J Y (Z 7 J (zE J J J ?_)))
 rw [hww]
 exact fq
theorem ns (S:KS) (c:Nat):S.setU c (S.U c)=S:=by
 have e:(fun d=>if d=c then S.U c else S.U d)=S.U:=by
  funext d
  split
  ·rename_i h;rw [h]
  rfl
 show({ S with U:=_ } :KS)=S
 rw [e]
theorem fC (S:KS) (c:Nat) (z:Int):S.forget c z=(decide (0≤z∧z<((S.U c).xs.length:Nat)),S.setU c { S.U c with xs:=if 0≤z∧z<((S.U c).xs.length:Nat)then(S.U c).xs.eraseIdx z.toNat else(S.U c).xs }):=by
 unfold KS.forget
 by_cases h:0≤z∧z<((S.U c).xs.length:Nat)
 ·rw [if_pos h,if_pos h,decide_eq_true h]
 rw [if_neg h,if_neg h,decide_eq_false h]
 exact congrArg (Prod.mk false) (ns S c).symm
theorem lA (S:KS) (L:KL) (c:Nat) (M:zA) (H:zw) (cpu:Int) (a d:Nat) (e:Int):(S.cpu L c).X.chain M H cpu a d e=(S.mm c).chain M H cpu a d e:=rfl
theorem ur {S:KS} {x:wN} {c:Nat} (h:0≤x.cpu∧x.cpu<S.Q.n) (hc:x.cpu=(c:Nat)):S.step x=S.stepAt c x:=by
 unfold KS.step
 rw [if_pos h,hc];rfl
theorem Vq (R:List SP) (k:Nat) (L:KL) (S:KS) (b:Nat) (hok:S.Okk b) (hb:b≤300) (hg:S.N.gen≤900000000) (x:wN) (hxa:x.a≤9223372036854775807) (hxb:x.b≤9223372036854775807):zy 30 [vp k 0,.agg [vi x.d,vi x.cpu,vi x.a,vi x.b,vi x.c]] (ent zp k (L,S)::R) fun w L2=>w= .bool (S.step x).1∧L2=ent zp k (L,(S.step x).2)::R:=by
 refine zS (zr k L S) fun y _=> ?_
 dsimp only [yE,List.cons_append,List.nil_append]
 have hl:((List.range S.Q.n).map L.c).length=S.Q.n:=by simp
 refine yQ (K:=zP uJ 1) (q6 y.cv ((List.range S.Q.n).map L.c)) fun hcv=> ?_
 replace hcv:=uK hcv
 refine SW.intro rfl Tryz.func30 rfl ?_
 refine O0 2 J (yW rfl rfl rfl rfl fun i3=> ?_)
 refine Z 4 J (zO [0,1,3,7,15,31,15,79,207,463,975,2047,4095] [([0,1,2,3,4,5,6,7,8,9,10,11,12],[1,2,5,9,10,11],none)] (by kernel_rfl) ?_)
 refine z4 (zj J Y (ye J Y J (ZK 1 J (qJ (fun h8=> ?_) (fun h8=> ?_)))))
 ·refine ZK 10 J (z5 ⟨(y6 J Y J J J (gv J J J (by rw [decide_eq_true h8];rfl) (zx rfl (zx rfl (zx rfl (zx rfl z6)))))),?_⟩)
  refine OX 6 J (zE J J J ?_)
  rw [show S.step x=(false,S)from if_neg (by omega)]
  refine⟨_,⟨rfl,rfl⟩,Sub.trans (M:=yE k L S y R) Y yT⟩
 refine ZK 1 J (zj J Y (ye J Y J (ZK 2 J (zj J Y (jS J Y wt (uW rfl (fun _ h=>y0 rfl rfl rfl rfl rfl h) ?_))))))
 refine js (congrArg (fun n:Nat=>vi n) hl) ?_
 refine ZK 1 J (qJ (fun h17=> ?_) (fun h17=> ?_))
 ·refine ZK 1 J (z5 ⟨(y6 J Y J J J (gv J J J (by rw [decide_eq_false h8];rfl) (y6 J Y J J J (uY J Y wt J (z3 _ hcv) (wV rfl (fun _ h=>y0 rfl rfl rfl rfl rfl h) rfl rfl (by rw [hl];exact z3 _ rfl) (gv J J J (by rw [decide_eq_true h17];rfl) z6)))))),?_⟩)
  refine OX 6 J (zE J J J ?_)
  rw [show S.step x=(false,S)from if_neg (by omega)]
  refine⟨_,⟨rfl,rfl⟩,Sub.trans (M:=yE k L S y R) Y yT⟩
 refine ZK 1 J (z5 ⟨(y6 J Y J J J (gv J J J (by rw [decide_eq_false h8];rfl) (y6 J Y J J J (uY J Y wt J (z3 _ hcv) (wV rfl (fun _ h=>y0 rfl rfl rfl rfl rfl h) rfl rfl (by rw [hl];exact z3 _ rfl) (gv J J J (by rw [decide_eq_false h17];rfl) z6)))))),?_⟩)
 refine OX 3 J ?_
 have hb0:0≤x.cpu∧x.cpu<S.Q.n:=by omega
 obtain⟨c,hcx⟩: ∃c:Nat,x.cpu=c:=⟨x.cpu.toNat,by omega⟩
 have hc:c<S.Q.n:=by omega
 rw [hcx]
 have hlc:((List.range S.Q.n).map L.c)[c]? =some (L.c c):=vw L.c hc
 refine zu (Sub.trans (M:=yE k L S y (ent z8 i3 (AVal.agg [vi x.d,vi (c:Nat),vi x.a,vi x.b,vi x.c]).cells::R)) Y (UK (y:=y) hc)) ?_
 dsimp only [mi]
 refine zO [0,1,3,7,0,16,63,127,255,511] [([0,1,2,3,4,5,6,7],[3,5,7],some 8),([9],[],none)] (by kernel_rfl) ?_
 refine z4 (ZK 2 J (zj J Y (jS J Y wt (zj J Y (ye J Y J (uW rfl (fun _ h=>yM rfl rfl rfl (by omega) (by omega) h) ?_))))))
 refine Wm 0 J Y J hlc J (z5 ⟨(uY J Y wt J (z3 _ hcv) (y6 J Y J J J (wV rfl (fun _ h=>qo (j:=0) rfl rfl rfl hlc rfl h) rfl rfl (z3 _ rfl) z6))),?_⟩)
 refine Z1 (Qw _ _ (S.cpu L c)) J Y (zF (z4 (ZK 1 J (z5 ⟨z6,?_⟩))))
 refine OX 3 J (fa J Y (ld J Y J (Z 5 J (z0 (fun h31=> ?_) (fun h31=> ?_)))))
 ·refine Z 6 J (fa J Y (ld J Y J (zR (Sub.trans ?_ (qB (k:=k) (R:=R) (L:=L) (S:=S) (S':=S) (y:=y) (y':=y) (u:=S.cpu L c) hc rfl rfl (fun _ _=>rfl) rfl rfl rfl)) ?_)))
  ·exact Y
  refine Z1 (Ay _ _ _ S b hok hb hg c hc) J Y (Z 3 J (zE J J J ?_))
  rw [ur hb0 hcx]
  rw [show S.stepAt c x=S.run c by unfold KS.stepAt;rw [if_pos h31]]
  exact fq
 refine Z 6 J (z0 (fun h37=> ?_) (fun h37=> ?_))
 ·refine Z 6 J (fa J Y (ld J Y J (zR (Sub.trans ?_ (qB (k:=k) (R:=R) (L:=L) (S:=S) (S':=S) (y:=y) (y':=y) (u:=S.cpu L c) hc rfl rfl (fun _ _=>rfl) rfl rfl rfl)) ?_)))
  ·exact Y
  refine Z1 (sG _ _ _ S b hok hb hg c hc) J Y (Z 6 J (zE J J J ?_))
  rw [ur hb0 hcx]
  rw [show S.stepAt c x=(true,S.tick c)by unfold KS.stepAt;rw [if_neg h31,if_pos h37]]
  exact fq
 refine Z 6 J (z0 (fun h43=> ?_) (fun h43=> ?_))
 ·refine Z 4 J (zO [0,1,3,7,0,16,0,64,255,511] [([0,1,2,3,4,5,6,7],[3,5,7],some 8),([9],[],none)] (by kernel_rfl) ?_)
  refine z4 (ZK 2 J (zj J Y (jS J Y VS (zj J Y (ye J Y J (zj J Y (ye J Y J (z5 ⟨(uY J Y VS J (z3 _ rfl) (y6 J Y J J J (y6 J Y J J J z6))),?_⟩))))))))
  refine Z1 (rL _ _ S.H (c:Nat) x.a) J Y (zF (z4 (ZK 1 J (z5 ⟨z6,?_⟩))))
  refine OX 1 J (zE J J J ?_)
  rw [ur hb0 hcx]
  rw [show S.stepAt c x=((S.H.evict (c:Nat) x.a).1,({ S with H:=(S.H.evict (c:Nat) x.a).2 } :KS))by unfold KS.stepAt;rw [if_neg h31,if_neg h37,if_pos h43]]
  refine⟨_,⟨rfl,rfl⟩,Sub.trans ?_ (qB (k:=k) (R:=R) (L:=L) (S:=S) (S':=({ S with H:=(S.H.evict (c:Nat) x.a).2 } :KS)) (y:=y) (y':=y) (u:=S.cpu L c) hc rfl rfl (fun _ _=>rfl) rfl rfl (show kF L S y=kF L ({ S with H:=(S.H.evict (c:Nat) x.a).2 } :KS) y from rfl))⟩
  exact Y
 refine Z 6 J (z0 (fun h54=> ?_) (fun h54=> ?_))
 ·refine Z 4 J (zO [0,1,0,4,15,31] [([0,2,3],[3],some 1),([],[3],some 4),([5],[],none)] (by kernel_rfl) ?_)
  refine z4 (ZK 1 J (zj J Y (ye J Y J (z5 ⟨(y6 J Y J J J z6),?_⟩))))
  refine qw (wz (L.c c) (S.cpu L c)) fun _ _=> ?_
  dsimp only [UZ,List.cons_append,List.nil_append]
  refine Z1 (U4 _ _ (S.cpu L c).X) J Y (zF (z4 (z5 ⟨(y6 J Y J J J z6),?_⟩)))
  refine qw (wx (L.u c) (S.cpu L c).X) fun _ hXo=> ?_
  dsimp only [VO,List.cons_append,List.nil_append]
  refine Z1 (fL _ _ (S.U c).xs x.a) J Y (zR (Sub.mk2 (p:=ent vW (L.u c) { (S.cpu L c).X with xs:=(if 0≤x.a∧x.a<((S.U c).xs.length:Nat)then(S.U c).xs.eraseIdx x.a.toNat else(S.U c).xs) }) (yi (a:=L.u c) (X:= { (S.cpu L c).X with xs:=(if 0≤x.a∧x.a<((S.U c).xs.length:Nat)then(S.U c).xs.eraseIdx x.a.toNat else(S.U c).xs) }) (by { intro z hz;refine hXo z ?_;revert hz;show z ∈ (if _ then _ else _)→_;split;exact List.mem_of_mem_eraseIdx;exact id })) (Sub.refl _)) ?_)
  refine zR (Sub.mk2 (p:=ent vv (L.c c) { S.cpu L c with X:= { (S.cpu L c).X with xs:=(if 0≤x.a∧x.a<((S.U c).xs.length:Nat)then(S.U c).xs.eraseIdx x.a.toNat else(S.U c).xs) } }) (yj (C:= { S.cpu L c with X:= { (S.cpu L c).X with xs:=(if 0≤x.a∧x.a<((S.U c).xs.length:Nat)then(S.U c).xs.eraseIdx x.a.toNat else(S.U c).xs) } })) (Sub.refl _)) ?_
  refine zF (z4 (ZK 1 J (z5 ⟨z6,?_⟩)))
  refine OX 1 J (zE J J J ?_)
  rw [ur hb0 hcx]
  rw [show S.stepAt c x=S.forget c x.a by unfold KS.stepAt;rw [if_neg h31,if_neg h37,if_neg h43,if_pos h54],fC]
  refine⟨_,⟨rfl,rfl⟩,Sub.trans ?_ (qB (k:=k) (R:=R) (L:=L) (S:=S) (S':=(S.setU c { S.U c with xs:=(if 0≤x.a∧x.a<((S.U c).xs.length:Nat)then(S.U c).xs.eraseIdx x.a.toNat else(S.U c).xs) })) (y:=y) (y':=y) (u:= { S.cpu L c with X:= { (S.cpu L c).X with xs:=(if 0≤x.a∧x.a<((S.U c).xs.length:Nat)then(S.U c).xs.eraseIdx x.a.toNat else(S.U c).xs) } }) hc rfl pC (fun j hj=>kd hj) rfl rfl (show kF L S y=kF L (S.setU c { S.U c with xs:=(if 0≤x.a∧x.a<((S.U c).xs.length:Nat)then(S.U c).xs.eraseIdx x.a.toNat else(S.U c).xs) }) y from rfl))⟩
  exact Y
 refine Z 6 J (z0 (fun h61=> ?_) (fun h61=> ?_))
 ·refine Z 6 J (fa J Y (ld J Y J (fa J Y (ld J Y J (fa J Y (ld J Y J (zR (Sub.trans ?_ (qB (k:=k) (R:=R) (L:=L) (S:=S) (S':=S) (y:=y) (y':=y) (u:=S.cpu L c) hc rfl rfl (fun _ _=>rfl) rfl rfl rfl)) ?_)))))))
  ·exact Y
  refine Z1 (sy _ _ _ S b hok hb hg c hc _ _) J Y (Z 3 J (zE J J J ?_))
  rw [ur hb0 hcx]
  rw [show S.stepAt c x=S.warm c x.a x.b by unfold KS.stepAt;rw [if_neg h31,if_neg h37,if_neg h43,if_neg h54,if_pos h61]]
  exact fq
 refine Z 6 J (z0 (fun h71=> ?_) (fun h71=> ?_))
 ·refine Z 5 J (zO [0,1,3,7,0,16,63,127,255,511,1023,2047,4095,8191,16383,32767,65535,131071] [([0,1,2,3,4,5],[3,5],some 6),([7,8,9,10,11,12,13,14,15,16,17],[7,10,11,15,16],none)] (by kernel_rfl) ?_)
  refine z4 (ZK 2 J (zj J Y (jS J Y Q7 (zj J Y (ye J Y J (z5 ⟨(uY J Y Q7 J (z3 _ rfl) (y6 J Y J J J z6)),?_⟩))))))
  refine Z1 (V4 _ _ S.Q (c:Nat)) J Y (zF (z4 (ZK 1 J (qJ (fun h79=> ?_) (fun h79=> ?_)))))
  ·refine ZK 10 J (z5 ⟨(gv J J J (by rw [decide_eq_true h79];rfl) (zx rfl (zx rfl (zx rfl (zx rfl z6))))),?_⟩)
   refine OX 6 J (zE J J J ?_)
   rw [ur hb0 hcx]
   rw [show S.stepAt c x=(false,S)by unfold KS.stepAt;rw [if_neg h31,if_neg h37,if_neg h43,if_neg h54,if_neg h61,if_pos h71];exact if_pos (by omega)]
   refine⟨_,⟨rfl,rfl⟩,Sub.trans ?_ (qB (k:=k) (R:=R) (L:=L) (S:=S) (S':=S) (y:=y) (y':=y) (u:=S.cpu L c) hc rfl rfl (fun _ _=>rfl) rfl rfl (show kF L S y=kF L S y from rfl))⟩
   exact Y
  refine ZK 1 J (zj J Y (ye J Y J (ZK 1 J (qJ (fun h83=> ?_) (fun h83=> ?_)))))
  ·refine ZK 6 J (z5 ⟨(gv J J J (by rw [decide_eq_false h79];rfl) (y6 J Y J J J (gv J J J (by rw [decide_eq_true h83];rfl) (zx rfl (zx rfl z6))))),?_⟩)
   refine OX 6 J (zE J J J ?_)
   rw [ur hb0 hcx]
   rw [show S.stepAt c x=(false,S)by unfold KS.stepAt;rw [if_neg h31,if_neg h37,if_neg h43,if_neg h54,if_neg h61,if_pos h71];exact if_pos (by omega)]
   refine⟨_,⟨rfl,rfl⟩,Sub.trans ?_ (qB (k:=k) (R:=R) (L:=L) (S:=S) (S':=S) (y:=y) (y':=y) (u:=S.cpu L c) hc rfl rfl (fun _ _=>rfl) rfl rfl (show kF L S y=kF L S y from rfl))⟩
   exact Y
  refine ZK 2 J (zj J Y (ye J Y J (ZK 1 J (qJ (fun h88=> ?_) (fun h88=> ?_)))))
  ·refine ZK 1 J (z5 ⟨(gv J J J (by rw [decide_eq_false h79];rfl) (y6 J Y J J J (gv J J J (by rw [decide_eq_false h83];rfl) (y6 J Y J J J (gv J J J (by rw [decide_eq_true h88];rfl) z6))))),?_⟩)
   refine OX 6 J (zE J J J ?_)
   rw [ur hb0 hcx]
   rw [show S.stepAt c x=(false,S)by unfold KS.stepAt;rw [if_neg h31,if_neg h37,if_neg h43,if_neg h54,if_neg h61,if_pos h71];exact if_pos (by omega)]
   refine⟨_,⟨rfl,rfl⟩,Sub.trans ?_ (qB (k:=k) (R:=R) (L:=L) (S:=S) (S':=S) (y:=y) (y':=y) (u:=S.cpu L c) hc rfl rfl (fun _ _=>rfl) rfl rfl (show kF L S y=kF L S y from rfl))⟩
   exact Y
  refine ZK 1 J (z5 ⟨(gv J J J (by rw [decide_eq_false h79];rfl) (y6 J Y J J J (gv J J J (by rw [decide_eq_false h83];rfl) (y6 J Y J J J (gv J J J (by rw [decide_eq_false h88];rfl) z6))))),?_⟩)
  refine OX 3 J (zO [0,1,3,7,15,0,32,96,224,0,0,1024,0,4096,12288,0,32768,98304,0,262144,1048575] [([0,1,2,3,4,5,6,7,8,9,10,11,12,13,14,15,16,17,18,19],[4,8,11,13,14,16,17,19],some 20),([],[],none)] (by kernel_rfl) ?_)
  refine z4 (ZK 2 J (zj J Y (zj J Y (jS J Y xD (ZK 2 J (zj J Y (jS J Y VS (ZK 1 J (zj J Y (ye J Y J (zj J Y (ye J Y J (vN rfl (fun _=>qT rfl rfl (yu (by omega))) ?_)))))))))))))
  refine js (WB (by omega)) ?_
  refine zj J Y (ye J Y J (vN rfl (fun _=>qT rfl rfl (yu (by omega))) ?_))
  refine js (WB (by omega)) ?_
  refine zj J Y (ye J Y J (z5 ⟨(uY J Y xD J (z3 _ rfl) (uY J Y VS J (z3 _ rfl) (y6 J Y J J J (y6 J Y J J J (vF rfl (fun _=>qT rfl rfl (yu (by omega))) rfl rfl (by rw [WB (by omega)];exact z3 _ rfl) (y6 J Y J J J (vF rfl (fun _=>qT rfl rfl (yu (by omega))) rfl rfl (by rw [WB (by omega)];exact z3 _ rfl) (y6 J Y J J J z6)))))))),?_⟩))
  refine qw (wz (L.c c) (S.cpu L c)) fun _ _=> ?_
  dsimp only [UZ,List.cons_append,List.nil_append]
  refine Z3 (rV _ L.m L.h (L.u c) S.M S.H (S.cpu L c).X (c:Nat) x.a.toNat x.b.toNat x.c) J Y Y Y ?_
  rw [lA]
  refine zR (Sub.mk2 (p:=ent vv (L.c c) (S.cpu L c)) (yj (C:=S.cpu L c)) (Sub.refl _)) ?_
  refine zF (z4 (z5 ⟨z6,?_⟩))
  refine OX 5 J (zE J J J ?_)
  rw [ur hb0 hcx]
  rw [show S.stepAt c x=(true,({ S with H:=((S.mm c).chain S.M S.H (c:Nat) x.a.toNat x.b.toNat x.c).2 } :KS))by unfold KS.stepAt;rw [if_neg h31,if_neg h37,if_neg h43,if_neg h54,if_neg h61,if_pos h71];exact if_neg (by omega)]
  refine⟨_,⟨rfl,rfl⟩,Sub.trans ?_ (qB (k:=k) (R:=R) (L:=L) (S:=S) (S':=({ S with H:=((S.mm c).chain S.M S.H (c:Nat) x.a.toNat x.b.toNat x.c).2 } :KS)) (y:=y) (y':=y) (u:=S.cpu L c) hc rfl rfl (fun _ _=>rfl) rfl rfl (show kF L S y=kF L ({ S with H:=((S.mm c).chain S.M S.H (c:Nat) x.a.toNat x.b.toNat x.c).2 } :KS) y from rfl))⟩
  exact Y
 refine Z 9 J (zE J J J ?_)
 rw [ur hb0 hcx]
 rw [show S.stepAt c x=(false,S)by unfold KS.stepAt;rw [if_neg h31,if_neg h37,if_neg h43,if_neg h54,if_neg h61,if_neg h71]]
 refine⟨_,⟨rfl,rfl⟩,Sub.trans ?_ (qB (k:=k) (R:=R) (L:=L) (S:=S) (S':=S) (y:=y) (y':=y) (u:=S.cpu L c) hc rfl rfl (fun _ _=>rfl) rfl rfl (show kF L S y=kF L S y from rfl))⟩
 exact Y
theorem SW.out {P:Program} {F:z9} {hook:yZ} {f:FuncId} {vs:List AVal} {L:List SP} {Q Q':AVal→List SP→Prop} (h:SW P F hook f vs L Q) (k: ∀v L',Q v L'→ ∃L2,Q' v L2∧Sub L' L2):SW P F hook f vs L Q':=
 fun H hH=>(h H hH).mono fun v H' ⟨L',a,b⟩=>by
  obtain⟨L2,c,d⟩:=k v L' a
  exact⟨L2,c,b.sub d⟩
theorem kern_cpu {f:FuncId} {vs:List AVal} {R:List SP} {k:Nat} {L:KL} {S:KS} {c:Nat} (hc:c<S.Q.n) {Q:AVal→Prop} (h: ∀R',zy f vs (ent vv (L.c c) (S.cpu L c)::R') fun w L2=>Q w∧L2=ent vv (L.c c) (S.cpu L c)::R'):zy f vs (ent zp k (L,S)::R) fun w L2=>Q w∧L2=ent zp k (L,S)::R:=by
 refine zS (zr k L S) fun y _=> ?_
 refine SW.sub ?_ (Sub.trans (M:=yE k L S y R) (Sub.refl _) (UK (y:=y) hc))
 refine SW.sub (SW.out (h (ent zI k (18,kF L S y)::ent (zP uJ 1) y.cv ((List.range S.Q.n).map L.c)::ent zQ L.m S.M::ent zX L.p ⟨L.m,S.Rf⟩::ent y5 L.sw S.Ws::ent qI L.h S.H::ent qm L.n S.N::ent z8 L.pp [.chan (some y.ch)]::ent yh y.ch (4,S.ww.map vu)::
 ent wO L.q S.Q::ent (zG Zo) k ((List.range S.Q.n).erase c,fun i=>(L.c i,S.cpu L i))::ent (zG ve) k (List.range 4,S.prs L y)::R)) ?_) Y
 rintro v _ ⟨hq,rfl⟩
 exact⟨_,⟨hq,rfl⟩,Sub.trans Y (qB (S:=S) (S':=S) (y:=y) (y':=y) (cv:=y.cv) (f:=kF L S y) (u:=S.cpu L c) hc rfl rfl (fun _ _=>rfl) rfl rfl rfl)⟩
theorem kern_mmu {f:FuncId} {vs:List AVal} {R:List SP} {k:Nat} {L:KL} {S:KS} {c:Nat} (hc:c<S.Q.n) {Q:AVal→Prop} (h: ∀R',zy f vs (ent vW (L.u c) (S.cpu L c).X::R') fun w L2=>Q w∧L2=ent vW (L.u c) (S.cpu L c).X::R'):zy f vs (ent zp k (L,S)::R) fun w L2=>Q w∧L2=ent zp k (L,S)::R:=
 kern_cpu hc fun R'=>by
  refine zS (wz (L.c c) (S.cpu L c)) fun _ _=> ?_
  refine SW.sub (SW.out (h (ent z8 (L.c c) (fF (S.cpu L c))::R')) ?_) (show Px.Sub (ent z8 (L.c c) (fF (S.cpu L c))::ent vW (L.u c) (S.cpu L c).X::R') _ from Y)
  rintro v _ ⟨hq,rfl⟩
  exact⟨_,⟨hq,rfl⟩,Sub.mk2 (yj (C:=S.cpu L c)) (Sub.refl _)⟩
theorem la {f:FuncId} {vs:List AVal} {R:List SP} {k:Nat} {L:KL} {S:KS} {Q:AVal→Prop} (h: ∀R',zy f vs (ent qm L.n S.N::R') fun w L2=>Q w∧L2=ent qm L.n S.N::R'):zy f vs (ent zp k (L,S)::R) fun w L2=>Q w∧L2=ent zp k (L,S)::R:=by
 refine zS (zr k L S) fun y _=> ?_
 refine SW.sub (SW.out (h (ent zI k (18,kF L S y)::ent (zP uJ 1) y.cv ((List.range S.Q.n).map L.c)::ent zQ L.m S.M::ent zX L.p ⟨L.m,S.Rf⟩::ent y5 L.sw S.Ws::ent qI L.h S.H::ent z8 L.pp [.chan (some y.ch)]::ent yh y.ch (4,S.ww.map vu)::
 ent wO L.q S.Q::ent (zG Zo) k (List.range S.Q.n,fun i=>(L.c i,S.cpu L i))::ent (zG ve) k (List.range 4,S.prs L y)::R)) ?_) (show Px.Sub (yE k L S y R) _ from Y)
 rintro v _ ⟨hq,rfl⟩
 exact⟨_,⟨hq,rfl⟩,Sub.trans (M:=yE k L S y R) Y yT⟩
theorem Yd (k:Nat) (x:KL×KS): ∀h,zp k x h→x.2.M.Ok:=by
 rintro h ⟨y,_,s⟩
 have s1:yd [ent zQ x.1.m x.2.M] h:=(show Px.Sub (yE k x.1 x.2 y []) [ent zQ x.1.m x.2.M]from Y).h h s
 obtain⟨a,_,_,h2,_,h4,_⟩:=s1
 exact qD _ _ a h4
def KS.of (S:KS) (z:Int):Option yg:=if 0≤z∧z<4 then S.pr z.toNat else none
theorem W2 (R:List SP) (k:Nat) (L:KL) (S:KS):zy 34 [vp k 0] (ent zp k (L,S)::R) fun w L2=>w=vp L.n 0∧L2=ent zp k (L,S)::R:=by
 refine zS (zr k L S) fun y _=> ?_
 dsimp only [yE,List.cons_append,List.nil_append]
 refine SW.intro rfl Tryz.func34 rfl ?_
 refine O0 8 J (fa J Y (lf J Y QQ (Z 3 J (zE J J J (⟨_,⟨rfl,rfl⟩,Sub.trans (M:=yE k L S y R) Y yT⟩)))))
theorem cK (R:List SP) (k:Nat) (L:KL) (S:KS) (z:Int):zy 19 [vp k 0,vi z] (ent zp k (L,S)::R) fun w L2=>w=vi (S.Q.cpu z)∧L2=ent zp k (L,S)::R:=by
 refine zS (zr k L S) fun y _=> ?_
 dsimp only [yE,List.cons_append,List.nil_append]
 refine SW.intro rfl Tryz.func19 rfl ?_
 refine O0 8 J (fa J Y (lf J Y Q7 (Z 1 J (Z1 (V4 _ _ S.Q z) J Y (Z 3 J (zE J J J (⟨_,⟨rfl,rfl⟩,Sub.trans (M:=yE k L S y R) Y yT⟩)))))))
theorem iC (R:List SP) (k:Nat) (L:KL) (S:KS) (y:KY) (z:Int):zy 75 [vp k 0,vi z] (ent zI k (18,kF L S y)::R) fun w L2=>w=(if 0≤z∧z<4 then S.pcell y z.toNat else .ptr none)∧L2=ent zI k (18,kF L S y)::R:=by
 refine SW.intro rfl Tryz.func75 rfl ?_
 refine O0 9 J (z0 (fun h6=> ?_) (fun h6=> ?_))
 ·refine Z 11 J (zE J J J ?_)
  rw [if_neg (by omega)]
  exact fq
 refine Z 3 J (z0 (fun h9=> ?_) (fun h9=> ?_))
 ·refine Z 8 J (zE J J J ?_)
  rw [if_neg (by omega)]
  exact fq
 have hz:0≤z∧z<4:=by omega
 have hz4:z.toNat<4:=by omega
 refine Z 9 J (fa J Y (zf rfl (fun _=>zh rfl rfl rfl (by omega) (by omega)) ?_))
 refine lf J Y (tI (L:=L) (S:=S) (y:=y) (i:=z.toNat) hz4) (Z 3 J (zE J J J ?_))
 rw [if_pos hz]
 exact fq
theorem ij (R:List SP) (k:Nat) (L:KL) (S:KS) (z:Int):zy 26 [vp k 0,vi z] (ent zp k (L,S)::R) fun w L2=>w=(if 0≤z∧z<S.Q.n then vp (L.c z.toNat) 0 else .ptr none)∧L2=ent zp k (L,S)::R:=by
 refine zS (zr k L S) fun y _=> ?_
 dsimp only [yE,List.cons_append,List.nil_append]
 have hl:((List.range S.Q.n).map L.c).length=S.Q.n:=by simp
 refine SW.intro rfl Tryz.func26 rfl ?_
 refine O0 9 J (z0 (fun h6=> ?_) (fun h6=> ?_))
 ·refine Z 16 J (zE J J J ?_)
  rw [if_neg (by omega)]
  exact⟨_,⟨rfl,rfl⟩,Sub.trans (M:=yE k L S y R) Y yT⟩
 refine Z 4 J (fa J Y (lf J Y wt (yo rfl (fun _ h=>y0 rfl rfl rfl rfl rfl h) ?_)))
 refine yn (congrArg (fun n:Nat=>vi n) hl) ?_
 refine Z 1 J (z0 (fun h14=> ?_) (fun h14=> ?_))
 ·refine Z 8 J (zE J J J ?_)
  rw [if_neg (by omega)]
  exact⟨_,⟨rfl,rfl⟩,Sub.trans (M:=yE k L S y R) Y yT⟩
 have hz:0≤z∧z<S.Q.n:=by omega
 have hlc:((List.range S.Q.n).map L.c)[z.toNat]? =some (L.c z.toNat):=vw L.c (by omega)
 refine Z 8 J (fa J Y (lf J Y wt (Z 1 J (yo rfl (fun _ h=>yM rfl rfl rfl (by omega) (by omega) h) ?_))))
 refine lE 0 J Y J hlc J (Z 3 J (zE J J J ?_))
 rw [if_pos hz]
 exact⟨_,⟨rfl,rfl⟩,Sub.trans (M:=yE k L S y R) Y yT⟩
theorem se {S:KS} {y:KY} {z:Int} (h:S.of z=none):(if 0≤z∧z<4 then S.pcell y z.toNat else .ptr none)=AVal.ptr none:=by
 unfold KS.of at h
 split
 ·rename_i hz
  rw [if_pos hz]at h
  unfold KS.pcell;rw [h]
 rfl
theorem aT {S:KS} {y:KY} {p:Nat} {x:yg} (hp:p<4) (hx:S.pr p=some x):(if 0≤((p:Nat):Int)∧((p:Nat):Int)<4 then S.pcell y ((p:Nat):Int).toNat else .ptr none)=vp (y.a p) 0:=by
 rw [if_pos (by omega),show((p:Nat):Int).toNat=p from rfl]
 unfold KS.pcell;rw [hx]
theorem fG (R:List SP) (k:Nat) (L:KL) (S:KS) (z:Int) (hz:S.of z=none):zy 39 [vp k 0,vi z] (ent zp k (L,S)::R) fun w L2=>w= .tuple [.agg (jC (fun _=>0) (.slice none 0 (some 0) 0) 0),.bool false]∧L2=ent zp k (L,S)::R:=by
 refine zS (zr k L S) fun y _=> ?_
 dsimp only [yE,List.cons_append,List.nil_append]
 refine SW.intro rfl Tryz.func39 rfl ?_
 refine O0 2 J (zd rfl rfl rfl fun i4=> ?_)
 refine Z 6 J (Z1 (iC _ _ L S y z) J Y (yn (se hz) ?_))
 refine Z 6 J (zf rfl (fun _=>zC rfl rfl rfl rfl) ?_)
 refine Z 4 J (bu [_,_,_,_,_,_,_,_,_,_] J Y Y J (sN J Y Y J J J (Z 3 J (⟨.inr rfl,_,fun _ h=>(zi (y8 rfl (yS rfl (Nat.le_of_ble_eq_true rfl) h)) (zi (za rfl) q7)),?_⟩))))
 exact⟨_,⟨rfl,rfl⟩,Sub.trans (M:=yE k L S y R) Y yT⟩
theorem pD (R:List SP) (k:Nat) (L:KL) (S:KS) (p:Nat) (x:yg) (hp:p<4) (hx:S.pr p=some x) (hcl:x.code.length≤1000):zy 39 [vp k 0,vi p] (ent zp k (L,S)::R) fun w L2=> ∃v,w= .tuple [.agg (jC x.w v x.pc),.bool true]∧L2=ent (zP qN 4) v x.code::ent zp k (L,S)::R:=by
 refine zS (zr k L S) fun y _=> ?_
 dsimp only [yE,List.cons_append,List.nil_append]
 refine SW.sub ?_ (Zh hp hx (k:=k) (L:=L) (S:=S) (y:=y) (R:=R))
 dsimp only [Zn,Zq]
 refine SW.intro rfl Tryz.func39 rfl ?_
 refine O0 2 J (zd rfl rfl rfl fun i4=> ?_)
 refine Z 4 J (uw (K:=zP qN 4) (q6 (y.cd p) x.code) fun hcd0=> ?_)
 generalize y.cd p=cd0 at hcd0 ⊢
 refine yD (v:=cd0) fun acd0 ccd0 ecd0 hvcd0 _=> ?_
 subst hvcd0
 refine Z 2 J (Z1 (iC _ _ L S y (p:Nat)) J Y (yn (aT hp hx) ?_))
 refine Z 6 J (zf rfl (fun _=>zC rfl rfl rfl rfl) ?_)
 refine Z 7 J (fa J Y (lN J Y Y J J (zd rfl rfl rfl fun i7=> ?_)))
 refine sN J Y Y J J J (Z 3 J (fa J Y (ld J Y J (yG (Wq _ _ _ (by omega)) rfl (fun _=>rfl) ?_))))
 rintro u20 _ rfl
 refine yD (v:=u20) fun au20 cu20 eu20 hvu20 _=> ?_
 subst hvu20
 refine fa J Y (sO J Y J J J (Z 3 J (lN J Y Y J J (sN J Y Y J J J (Z 3 J (⟨.inr rfl,_,fun _ h=>(zi (y8 rfl (yS rfl (Nat.le_of_ble_eq_true rfl) h)) (zi (za rfl) q7)),?_⟩))))))
 refine⟨_,⟨_,rfl,rfl⟩,Sub.trans (Sub.one (K:=z8) (a:=y.a p) (K2:=z8) (a2:=y.a p) (x2:=jC (x.w) ((.slice acd0 x.code.length ccd0 ecd0)) (x.pc)++ [vp (y.v p) 0]) fun _ e=>e) (Sub.trans (M:=ent (zP qN 4) (.slice au20 x.code.length cu20 eu20) x.code::rX k L S y p x (.slice acd0 x.code.length ccd0 ecd0) R) Y (Sub.keep (fO hp hx)))⟩
def jK (x:AVal×List yl):SP:=ent (zP qN 4) x.1 x.2
abbrev kB (cv:AVal) (vs:Nat→AVal) (cs:List (List yl)):List SP:= [ent (zP vd 1) cv ((List.range cs.length).map vs),ent (zG jK) 0 (List.range cs.length,fun i=>(vs i,cs.getD i []))]
def Zv (cv:AVal) (cs:List (List yl)):SP:=fun h=> ∃vs:Nat→AVal,True∧yd (kB cv vs cs) h
theorem dM (cv:AVal) (cs:List (List yl)): ∀h,Zv cv cs h→ ∃vs:Nat→AVal,True∧yd (kB cv vs cs) h:=fun _ h=>h
theorem vZ {cv:AVal} {cs:List (List yl)} {vs:Nat→AVal} : ∀h,yd (kB cv vs cs) h→Zv cv cs h:=fun _ s=>⟨vs,trivial,s⟩
abbrev W8 (n:Nat):List AVal:= [vu n]
def yb (M:zA) (l:List Nat):Nat→zA
 |0=>M
 |j+1=>if j<16 then(yb M l j).write (8+(j:Nat)) (l.getD j 0)else yb M l j
abbrev KS.zero (fr cpus:Int) (kpti inv:Bool) (M:zA):KS:=⟨fr,cpus,kpti,inv,M,[],[],⟨cpus.toNat,fun _=>⟨4,2,fun _=> []⟩,⟨8,4,fun _=> []⟩⟩,⟨fun _=>0,cpus.toNat,fun _ _=>false,0⟩,zV.new cpus.toNat,[],fun _=>⟨0,0,[]⟩,fun _=>none⟩
abbrev yg.new (code:List yl) (Sp:zm):yg:=⟨fun _=>0,0,code,qR,[],[],Sp⟩
abbrev KS.born (S:KS) (i:Nat) (code:List yl) (s:PM) (Sp:zm):KS:= { S with M:=s.M,Rf:=s.R,Q:=S.Q.wake (i:Nat),pr:=fun q=>if q=i then some (yg.new code Sp)else S.pr q }
def KS.procsTo (S:KS) (cs:List (List yl)):Nat→Option KS
 |0=>some S
 |j+1=>match S.procsTo cs j with
  |none=>none
  |some T=>match PM.space ⟨T.M,T.Rf⟩ T.kpti 3 13 (j:Nat)with
   |none=>none
   |some (s,Sp)=>some (T.born j (cs.getD j []) s Sp)
def KS.startTo (S:KS):Nat→KS
 |0=>S
 |c+1=>((S.startTo c).pick c).leave c
def zn (fr:Int) (kpti:Bool):zA:=JK (zA.new (min fr 64).toNat) kpti
def jD (fr cpus:Int) (kpti inv:Bool) (secret:List Nat) (cs:List (List yl)):Int×Option KS:=
 if qt fr cpus=false then(1,none)else
 if 4<cs.length∨(cs.any fun c=> !q8 c)=true then(1,none)else
 match(KS.zero fr cpus kpti inv (yb (zn fr kpti) secret secret.length)).procsTo cs cs.length with
 |none=>(5,none)
 |some S=>(0,some (S.startTo cpus.toNat))
def uP (q:Nat→Bool):Nat→Int
 |0=> -1
 |n+1=>if 0≤uP q n then uP q n else if q n then(n:Nat)else-1
theorem Wv {q:Nat→Bool} : ∀ {n:Nat},(∀j,j<n→q j=false)→uP q n= -1:=by
 intro n
 induction n with
 |zero=>intro _;rfl
 |succ n ih=>
  intro h
  unfold uP
  rw [ih fun j hj=>h j (by omega),if_neg (by decide),h n (by omega)];rfl
theorem dL {q:Nat→Bool} {c:Nat} (hc:q c=true) (ho: ∀j,j<c→q j=false): ∀ {n:Nat},c<n→uP q n=(c:Nat):=by
 intro n
 induction n with
 |zero=>intro h;omega
 |succ n ih=>
  intro h
  unfold uP
  rcases Nat.lt_or_ge c n with h1|h1
  ·rw [ih h1,if_pos (by omega)]
  have:c=n:=by omega
  subst this
  rw [Wv ho,if_neg (by decide),if_pos hc]
theorem pV (q:Nat→Bool): ∀n:Nat,decide (uP q n≥0)=(List.range n).any q:=by
 intro n
 induction n with
 |zero=>rfl
 |succ n ih=>
  rw [List.range_succ,List.any_append,←ih]
  simp only [List.any_cons,List.any_nil,Bool.or_false]
  by_cases h:0≤uP q n
  ·rw [show uP q (n+1)=uP q n from if_pos h,show decide (uP q n≥0)=true from decide_eq_true h];rfl
  rw [show uP q (n+1)=if q n then((n:Nat):Int)else-1 from if_neg h,show decide (uP q n≥0)=false from decide_eq_false h]
  cases hq:q n with
  |true=>simp
  |false=>simp
theorem bJ (cs:List (List yl)) (p:List yl→Bool):(List.range cs.length).any (fun j=>p (cs.getD j []))=cs.any p:=by
 have:cs=(List.range cs.length).map fun j=>cs.getD j []:=by
  apply List.ext_getElem?
  intro j
  by_cases h:j<cs.length
  ·rw [List.getElem?_map,List.getElem?_range h]
   simp [List.getElem?_eq_getElem h]
  rw [List.getElem?_eq_none (by omega),List.getElem?_eq_none (by simp;omega)]
 conv=>rhs;rw [this]
 rw [List.any_map];rfl
structure J9 (S T:KS) (j:Nat):Prop where
 fr:T.fr=S.fr
 cpus:T.cpus=S.cpus
 kpti:T.kpti=S.kpti
 inv:T.inv=S.inv
 Ws:T.Ws=S.Ws
 H:T.H=S.H
 N:T.N=S.N
 ww:T.ww=S.ww
 U:T.U=S.U
 n:T.Q.n=S.Q.n
 on:T.Q.on=S.Q.on
 last:T.Q.last=S.Q.last
 no: ∀q,j≤q→T.pr q=none
 al: ∀q,T.Q.al q=(T.pr q).isSome
 old: ∀q,q<j→(T.pr q).isSome=true
theorem J9.next {S T:KS} {j:Nat} (h:J9 S T j) (hj:j<4) (code:List yl) (s:PM) (Sp:zm):J9 S (T.born j code s Sp) (j+1):=by
 have hw:T.Q.wake (j:Nat)=T.Q.setAl j true:=if_pos (by omega)
 refine⟨h.fr,h.cpus,h.kpti,h.inv,h.Ws,h.H,h.N,h.ww,h.U,?_,?_,?_,fun q hq=> ?_,fun q=> ?_,fun q hq=> ?_⟩
 ·show(T.Q.wake j).n=_;rw [hw];exact h.n
 ·show(T.Q.wake j).on=_;rw [hw];exact h.on
 ·show(T.Q.wake j).last=_;rw [hw];exact h.last
 ·show(if q=j then _ else T.pr q)=none
  rw [if_neg (by omega)];exact h.no q (by omega)
 ·show(T.Q.wake j).al q=(if q=j then some (yg.new code Sp)else T.pr q).isSome
  rw [hw]
  show(if q=j then true else T.Q.al q)=_
  split
  ·rfl
  exact h.al q
 show(if q=j then some (yg.new code Sp)else T.pr q).isSome=true
 split
 ·rfl
 exact h.old q (by omega)
theorem ZS {S:KS} (hS:J9 S S 0) (cs:List (List yl)) (hl:cs.length≤4): ∀ {j:Nat} {T:KS},j≤cs.length→S.procsTo cs j=some T→J9 S T j:=by
 intro j
 induction j with
 |zero=>intro T _ h;cases h;exact hS
 |succ j ih=>
  intro T hj h
  unfold KS.procsTo at h
  split at h
  ·cases h
  rename_i T1 h1
  split at h
  ·cases h
  cases h
  exact(ih (by omega) h1).next (by omega) _ _ _
theorem WY (fr cpus:Int) (kpti inv:Bool) (M:zA):J9 (KS.zero fr cpus kpti inv M) (KS.zero fr cpus kpti inv M) 0:=
 ⟨rfl,rfl,rfl,rfl,rfl,rfl,rfl,rfl,rfl,rfl,rfl,rfl,fun _ _=>rfl,fun _=>rfl,fun _ h=>absurd h (Nat.not_lt_zero _)⟩
theorem pb {S:KS} (hS: ∀p,S.pr p=none) (hR:qe S.Rf 1) (cs:List (List yl)) (hc: ∀c,c ∈ cs→q8 c=true): ∀ {j:Nat} {T:KS},j≤cs.length→S.procsTo cs j=some T→(∀p x,T.pr p=some x→x.Ok 1)∧qe T.Rf 1:=by
 intro j
 induction j with
 |zero=>intro T _ h;cases h;exact⟨fun p x hx=>(by rw [hS p]at hx;cases hx),hR⟩
 |succ j ih=>
  intro T hj h
  unfold KS.procsTo at h
  split at h
  ·cases h
  rename_i T1 h1
  obtain⟨g1,g2⟩:=ih (by omega) h1
  split at h
  ·cases h
  rename_i s Sp hs
  cases h
  refine⟨fun p x hx=> ?_,WJ hs g2 (by decide)⟩
  have hx:(if p=j then some (yg.new (cs.getD j []) Sp)else T1.pr p)=some x:=hx
  split at hx
  ·cases hx
   have hlt:j<cs.length:=by omega
   have hcode:q8 (cs.getD j [])=true:=hc _ (by rw [List.getD_eq_getElem?_getD,List.getElem?_eq_getElem hlt];exact List.getElem_mem hlt)
   refine⟨fun _=>Nat.zero_le _,?_,⟨Int.le_refl _,by show(0:Int)≤24;omega⟩,?_⟩
   ·unfold q8 at hcode
    rw [Bool.and_eq_true]at hcode
    exact of_decide_eq_true hcode.1
   have:=Wj hs
   show Sp.tables.length≤_;omega
  exact g1 p x hx
theorem xg {fr cpus:Int} {kpti inv:Bool} {M:zA} (hcp:1≤cpus∧cpus≤2) (cs:List (List yl)) (hl:cs.length≤4) (hc: ∀c,c ∈ cs→q8 c=true) {T:KS} (h:(KS.zero fr cpus kpti inv M).procsTo cs cs.length=some T):T.Okk 1∧T.N.gen=0∧T.Q.n=cpus.toNat:=by
 have hb:=ZS (WY fr cpus kpti inv M) cs hl (Nat.le_refl _) h
 obtain⟨h1,h2⟩:=pb (S:=KS.zero fr cpus kpti inv M) (fun _=>rfl) (fun z=>show(0:Int)≤1 by decide) cs hc (Nat.le_refl _) h
 have hn:T.Q.n=cpus.toNat:=hb.n
 refine⟨⟨by rw [hn];omega,by rw [hb.N,hn],by rw [hb.H,hn],⟨fun d hd h0=> ?_,fun d e hd he hde h0=> ?_⟩,fun p _=>hb.al p,fun p hp=>hb.no p (by omega),h1,fun z=>by have:=h2 z;omega,fun a ha=> ?_,Nat.le_refl _⟩,by rw [hb.N],hn⟩
 ·rw [hb.on]at h0
  have h0:(0:Int)≤ -1:=h0
  omega
 ·rw [hb.on]at h0
  have h0:(0:Int)≤ -1:=h0
  omega
 rw [hb.ww]at ha;cases ha
theorem WQ {T:KS} (h:T.Okk 1): ∀j,j≤T.Q.n→(T.startTo j).Okk 1∧(T.startTo j).N.gen≤T.N.gen+3*j∧(T.startTo j).Q.n=T.Q.n:=by
 intro j
 induction j with
 |zero=>intro _;exact⟨h,by show T.N.gen≤_;omega,rfl⟩
 |succ j ih=>
  intro hj
  obtain⟨h1,h2,h3⟩:=ih (by omega)
  have h4:=h1.pick (c:=j) (by omega)
  have h5:=uE h4 j
  have h6:((T.startTo j).pick j).N.gen=(T.startTo j).N.gen:=rfl
  refine⟨h4.leave j,?_,?_⟩
  ·show(((T.startTo j).pick j).leave j).N.gen≤_
   push_cast;omega
  show(((T.startTo j).pick j).leave j).Q.n=_
  rw [(ui _ _).2.1]
  show((T.startTo j).Q.pick j).2.n=_
  rw [zV.pick_n];exact h3
abbrev bY (k:Nat) (L:KL) (S:KS) (y:KY) (j:Nat) (R:List SP):List SP:=
 ent zI k (18,kF L S y)::ent (zP uJ 1) y.cv ((List.range j).map L.c)::ent zQ L.m S.M::ent zX L.p ⟨L.m,S.Rf⟩::ent y5 L.sw S.Ws::ent qI L.h S.H::ent qm L.n S.N::ent z8 L.pp [.chan (some y.ch)]::ent yh y.ch (4,S.ww.map vu)::
 ent wO L.q S.Q::ent (zG Zo) k (List.range j,fun i=>(L.c i,S.cpu L i))::ent (zG ve) k (List.range 4,S.prs L y)::R
theorem eg (L:KL) (fr cpus:Int) (kpti inv:Bool) (M:zA) (ch:Nat): ∀j,j<18→([vi fr,vi cpus,.bool kpti,.bool inv,vp L.m 0,vp L.p 0,vp L.sw 0,vi 3,vi 13,.ptr none,.ptr none,.ptr none,.ptr none,.slice none 0 (some 0) 0,vp L.h 0,vp L.n 0,vp L.pp 0,vp L.q 0]:List AVal)[j]? =some (kF L (KS.zero fr cpus kpti inv M) ⟨.slice none 0 (some 0) 0,fun _=>0,fun _=>0,fun _=> .slice none 0 (some 0) 0,ch⟩ j):=by
 intro j hj
 match j,hj with
 |0,_=>rfl
 |1,_=>rfl
 |2,_=>rfl
 |3,_=>rfl
 |4,_=>rfl
 |5,_=>rfl
 |6,_=>rfl
 |7,_=>rfl
 |8,_=>rfl
 |9,_=>rfl
 |10,_=>rfl
 |11,_=>rfl
 |12,_=>rfl
 |13,_=>rfl
 |14,_=>rfl
 |15,_=>rfl
 |16,_=>rfl
 |17,_=>rfl
 |j+18,hj=>exact absurd hj (by omega)
theorem Gg {k:Nat} {f:Nat→Nat×Nat×AVal×Option (yg×jX)} (hf: ∀j,(f j).2.2.2=none) (R:List SP): ∀n,Sub R (ent (zG ve) k (List.range n,f)::R)
 |0=>jq
 |n+1=>by
  refine(Gg (k:=k) hf R n).trans ?_
  have e:ve (f n)=yd []:=by unfold ve;rw [hf n]
  have h1:Sub (ent (zG ve) k (List.range n,f)::R) (ve (f n)::ent (zG ve) k (List.range n,f)::R):=⟨fun h s=>by
   rw [e]
   exact qL (L:= []) s⟩
  exact h1.trans (gt (K:=ve) (g:=f) fun _ _=>rfl)
theorem th {k:Nat} {L:KL} {fr cpus:Int} {kpti inv:Bool} {M:zA} {ch:Nat} {R:List SP} :
 Sub (ent z8 k [vi fr,vi cpus,.bool kpti,.bool inv,vp L.m 0,vp L.p 0,vp L.sw 0,vi 3,vi 13,.ptr none,.ptr none,.ptr none,.ptr none,.slice none 0 (some 0) 0,vp L.h 0,vp L.n 0,vp L.pp 0,vp L.q 0]::ent zQ L.m M::ent zX L.p ⟨L.m,[]⟩::ent y5 L.sw []::ent qI L.h ⟨cpus.toNat,fun _=>⟨4,2,fun _=> []⟩,⟨8,4,fun _=> []⟩⟩::
  ent qm L.n ⟨fun _=>0,cpus.toNat,fun _ _=>false,0⟩::ent z8 L.pp [.chan (some ch)]::ent yh ch (4,([]:List AVal))::ent wO L.q (zV.new cpus.toNat)::R)
  (bY k L (KS.zero fr cpus kpti inv M) ⟨.slice none 0 (some 0) 0,fun _=>0,fun _=>0,fun _=> .slice none 0 (some 0) 0,ch⟩ 0 R):=by
 refine Sub.trans (Sub.one (K:=z8) (a:=k) (K2:=zI) (a2:=k) (x2:=(18,kF L (KS.zero fr cpus kpti inv M) ⟨.slice none 0 (some 0) 0,fun _=>0,fun _=>0,fun _=> .slice none 0 (some 0) 0,ch⟩)) fun f hf=>wG (cs:= [vi fr,vi cpus,.bool kpti,.bool inv,vp L.m 0,vp L.p 0,vp L.sw 0,vi 3,vi 13,.ptr none,.ptr none,.ptr none,.ptr none,.slice none 0 (some 0) 0,vp L.h 0,vp L.n 0,vp L.pp 0,vp L.q 0]) (eg L fr cpus kpti inv M ch) f hf) ?_
 refine Sub.keep ?_
 refine(Sub.nilE (α:=Nat) (en:=uJ) (es:=1) (fun _=>rfl) (by decide) 0 _).trans ?_
 refine Sub.keep ?_
 iterate 8 refine Sub.keep ?_
 exact(Gg (k:=k) (f:=(KS.zero fr cpus kpti inv M).prs L ⟨.slice none 0 (some 0) 0,fun _=>0,fun _=>0,fun _=> .slice none 0 (some 0) 0,ch⟩) (fun _=>rfl) R 4).trans (jq (K:=Zo) (b:=k) (f:=fun i=>(L.c i,(KS.zero fr cpus kpti inv M).cpu L i)))
theorem tW {k i a v n:Nat} {L:KL} {S:KS} {y:KY} {cd:AVal} {code:List yl} {s:PM} {Sp:zm} {R:List SP} (hi:i<4) (hS:S.pr i=none):
 Sub (ent zI k (18,vK (kF L S y) (i+9) (vp a 0))::ent (zP uJ 1) y.cv ((List.range n).map L.c)::ent zQ L.m s.M::ent zX L.p ⟨L.m,s.R⟩::ent y5 L.sw S.Ws::ent qI L.h S.H::ent qm L.n S.N::ent z8 L.pp [.chan (some y.ch)]::ent yh y.ch (4,S.ww.map vu)::ent wO L.q (S.Q.wake (i:Nat))::
  ent (zG Zo) k (List.range n,fun j=>(L.c j,S.cpu L j))::Zq a v cd (fun _=>0) 0 code ⟨S.W L,(i:Nat),qR,[],[],Sp⟩ (ent (zG ve) k (List.range 4,S.prs L y)::R))
  (bY k L (S.born i code s Sp) ⟨y.cv,fun j=>if j=i then a else y.a j,fun j=>if j=i then v else y.v j,fun j=>if j=i then cd else y.cd j,y.ch⟩ n R):=by
 have hf:vK (kF L S y) (i+9) (vp a 0)=kF L (S.born i code s Sp) ⟨y.cv,fun j=>if j=i then a else y.a j,fun j=>if j=i then v else y.v j,fun j=>if j=i then cd else y.cd j,y.ch⟩:=by
  funext j
  refine pJ hi (by simp only [KS.pcell,if_true]) (fun j hj=> ?_) (fun j h=> ?_) j
  ·simp only [KS.pcell,if_neg hj]
  exact We h
 rw [hf]
 iterate 11 refine Sub.keep ?_
 have e1:Sub (Zq a v cd (fun _=>0) 0 code ⟨S.W L,(i:Nat),qR,[],[],Sp⟩ (ent (zG ve) k (List.range 4,S.prs L y)::R)) (ent (zG ve) k (List.range 4,S.prs L y)::Zq a v cd (fun _=>0) 0 code ⟨S.W L,(i:Nat),qR,[],[],Sp⟩ R):=Y
 refine e1.trans ((bO (p:=i) hi (by simp only [KS.prs,hS,Option.map_none])).trans ?_)
 have e2:Sub (ent (zG ve) k ((List.range 4).erase i,S.prs L y)::Zq a v cd (fun _=>0) 0 code ⟨S.W L,(i:Nat),qR,[],[],Sp⟩ R) (Zq a v cd (fun _=>0) 0 code ⟨S.W L,(i:Nat),qR,[],[],Sp⟩ (ent (zG ve) k ((List.range 4).erase i,S.prs L y)::R)):=Y
 exact e2.trans (Ze (x:=yg.new code Sp) hi (by simp only [KS.prs,if_true,Option.map_some]) fun j hj=>by simp only [KS.prs,if_neg hj])
theorem rG {k c u t n:Nat} {L:KL} {S:KS} {y:KY} {cv:AVal} {R:List SP} (hU:S.U n=⟨0,0,[]⟩):
 Sub (ent zI k (18,vK (kF L S y) 13 cv)::ent (zP uJ 1) cv ((List.range n).map L.c++ [c])::ent zQ L.m S.M::ent zX L.p ⟨L.m,S.Rf⟩::ent y5 L.sw S.Ws::ent qI L.h S.H::ent qm L.n S.N::ent z8 L.pp [.chan (some y.ch)]::ent yh y.ch (4,S.ww.map vu)::ent wO L.q S.Q::
  ent vv c ⟨S.fr,S.cpus,S.kpti,S.inv,(n:Nat),u,⟨(n:Nat),0,0,t,[]⟩⟩::ent (zG Zo) k (List.range n,fun j=>(L.c j,S.cpu L j))::ent (zG ve) k (List.range 4,S.prs L y)::R)
  (bY k { L with c:=fun d=>if d=n then c else L.c d,u:=fun d=>if d=n then u else L.u d,t:=fun d=>if d=n then t else L.t d } S { y with cv:=cv } (n+1) R):=by
 have hf:vK (kF L S y) 13 cv=kF { L with c:=fun d=>if d=n then c else L.c d,u:=fun d=>if d=n then u else L.u d,t:=fun d=>if d=n then t else L.t d } S { y with cv:=cv } :=by
  funext j
  unfold vK
  by_cases e:j=13
  ·rw [if_pos e,e];rfl
  rw [if_neg e]
  rcases(by omega:j<9∨(9≤j∧j<13)∨14≤j)with h|h|h
  ·match j,h with
   |0,_=>rfl
   |1,_=>rfl
   |2,_=>rfl
   |3,_=>rfl
   |4,_=>rfl
   |5,_=>rfl
   |6,_=>rfl
   |7,_=>rfl
   |8,_=>rfl
  ·rcases(by omega:j=9∨j=10∨j=11∨j=12)with rfl|rfl|rfl|rfl<;>rfl
  match j,h with
  |14,_=>rfl
  |15,_=>rfl
  |16,_=>rfl
  |j+17,_=>rfl
 have hc:(List.range (n+1)).map (fun d=>if d=n then c else L.c d)=(List.range n).map L.c++ [c]:=by
  rw [List.range_succ,List.map_append,List.map_singleton,if_pos rfl]
  congr 1
  exact List.map_congr_left fun d hd=>if_neg (by have:=List.mem_range.1 hd;omega)
 rw [hf]
 unfold bY
 dsimp only
 rw [hc]
 iterate 10 refine Sub.keep ?_
 have hu:(⟨S.fr,S.cpus,S.kpti,S.inv,(n:Nat),u,⟨(n:Nat),0,0,t,[]⟩⟩:u4)=S.cpu { L with c:=fun d=>if d=n then c else L.c d,u:=fun d=>if d=n then u else L.u d,t:=fun d=>if d=n then t else L.t d } n:=by
  simp only [KS.cpu,hU,if_true]
 rw [hu]
 have:=gt (K:=Zo) (b:=k) (n:=n) (f:=fun j=>(L.c j,S.cpu L j)) (g:=fun j=>((if j=n then c else L.c j),S.cpu { L with c:=fun d=>if d=n then c else L.c d,u:=fun d=>if d=n then u else L.u d,t:=fun d=>if d=n then t else L.t d } j)) (R:=ent (zG ve) k (List.range 4,S.prs L y)::R) (fun j hj=>by
  simp only [KS.cpu,if_neg (show j≠n by omega)])
 simp only [if_true]at this
 exact this
theorem du {P:Program} {F:z9} {hook:yZ} {ops:Array Oper} {o:Oper} {l:List Oper} {T:Tm} {L:List SP} {Q:Tm→List SP→Prop} {t:TypeId} {x:Operand} {kk:IntKind} {n:Nat} (hM:(match yO P t with
 |some (.chan _ e)=>(match qC P e with
  |some b=>Nat.ble b yN
  |none=>false)
 |_=>false)=true) (hw:zJ ops T o=some true) (ho:o.op= .makeChan t x) (hx:opnd T x=some (.int kk (.lit (n:Nat)))) (hn:n≤1024) (k: ∀i,WO P F hook ops l (ze T o.dst (.chan (some i))) (ent yh i (n,[])::L) Q):WO P F hook ops (o::l) T L Q:=by
 intro H hH
 split at hM
 ·rename_i d e hu
  split at hM
  ·rename_i b hb
   have n1:vU (.int kk (.lit ((n:Nat):Int)))=some n:=rfl
   have b1:Nat.ble n 1024=true:=Nat.ble_eq_true_of_le hn
   exact qQ hw (v:= .chan (some H.next)) (H':=H.alloc (.chan n [] 0 0)) (by simp only [yJ,ho,um,hu,hx,n1,hb,b1,hM,Bool.and_true,cond_true]) (k _ _ (hH.alloc fun f hf=>⟨0,0,hf⟩))
  cases hM
 cases hM
theorem Gy {vs:Nat→AVal} {cs:List (List yl)} {j:Nat} (hj:j<cs.length) (R:List SP):Sub (ent (zG jK) 0 (List.range cs.length,fun i=>(vs i,cs.getD i []))::R) (ent (zP qN 4) (vs j) (cs.getD j [])::ent (zG jK) 0 ((List.range cs.length).erase j,fun i=>(vs i,cs.getD i []))::R):=
 star_pick (K:=jK) (b:=0) (f:=fun i=>(vs i,cs.getD i [])) (qc hj)
theorem xU {vs:Nat→AVal} {cs:List (List yl)} {j:Nat} (hj:j<cs.length) (R:List SP):Sub (ent (zP qN 4) (vs j) (cs.getD j [])::ent (zG jK) 0 ((List.range cs.length).erase j,fun i=>(vs i,cs.getD i []))::R) (ent (zG jK) 0 (List.range cs.length,fun i=>(vs i,cs.getD i []))::R):=
 star_put (K:=jK) (b:=0) (f:=fun i=>(vs i,cs.getD i [])) (g:=fun i=>(vs i,cs.getD i [])) (qc hj) List.nodup_range fun _ _ _=>rfl
theorem tr (R:List SP):zy 65 [] (R) fun w L2=> ∃i c,w=vp i 0∧L2=ent yh c (4,[])::ent z8 i [.chan (some c)]::R:=by
 refine SW.intro rfl Tryz.func65 rfl ?_
 refine O0 6 J (du (n:=4) (by kernel_rfl) rfl rfl rfl (by decide) fun i1=> ?_)
 refine bu [_] J Y Y J (yW rfl rfl rfl rfl fun i3=> ?_)
 exact Z 3 J (zE J J J ⟨_,⟨i3,i1,rfl,rfl⟩,(Sub.one (K:=z8) (a:=i3) (K2:=z8) (a2:=i3) (x2:= [.chan (some i1)]) fun _ e=>e).trans Y⟩)
theorem CZ (R:List SP) (v:AVal) (code:List yl) (hn:code.length≤1000000):zy 61 [v] (ent (zP qN 4) v code::R) fun w L2=>w= .bool (!q8 code)∧L2=ent (zP qN 4) v code::R:=by
 refine SW.intro rfl Tryz.func61 rfl ?_
 exact O0 7 J (Z1 (fY _ _ code hn) J Y (Z 4 J (zE J J J fq)))
theorem eu (E R:List SP) (v:AVal) (xs:List AVal) (hn:xs.length≤1000000) (q:Nat→Bool) (f:FuncId) (a b:List AVal) (hf: ∀j x,xs[j]? =some x→ ∀R',zy f (a++ [x]++b) (E++R') fun w L=>w= .bool (q j)∧L=E++R'):zy 101 [v,.func f a b] (ent (zP vd 1) v xs::(E++R)) fun w L=>w=vi (uP q xs.length)∧L=ent (zP vd 1) v xs::(E++R):=by
 refine SW.intro rfl Tryz.func101 rfl ?_
 refine O0 8 J (yo rfl (fun _ h=>y0 rfl rfl rfl rfl rfl h) ?_)
 refine Z 3 J (zl (fun j T LZ=> ∃(c:Nat),(c≤xs.length)∧(∀k:Nat,k<c→q k=false)∧j=xs.length-c∧T.len=2∧Tm.get 0 T=some (v)∧Tm.get 1 T=some (.func f a b)∧Tm.get 7 T=some (vi (xs.length:Nat))∧Tm.get 8 T=some (vi (c:Nat))∧Sub LZ (ent (zP vd 1) v xs::(E++R))) (xs.length) ⟨0,by omega,fun k h=>absurd h (Nat.not_lt_zero k),by omega,rfl,rfl,rfl,rfl,rfl,Y⟩ ?_)
 rintro j T L0 ⟨c,hc,hno,rfl,hl,g0,g1,g7,g8,hsb⟩
 obtain⟨tg,rfl⟩:=W7 hl g0 g1 g7 g8
 clear hl g0 g1 g7 g8
 refine zu hsb ?_
 clear hsb L0
 refine O0 3 J (z0 (fun h9=> ?_) (fun h9=> ?_))
 ·refine Z 16 J ?_
  obtain⟨x,hx⟩: ∃x,xs[c]? =some x:=⟨xs[c]'(by omega),List.getElem?_eq_getElem (by omega)⟩
  refine yo rfl (fun _ h=>yM rfl rfl rfl (by omega) (by omega) h) ?_
  refine lE 0 J Y J hx J (zR (jn (ent (zP vd 1) v xs) E R) ?_)
  refine Z0 (hf c x hx (ent (zP vd 1) v xs::R)) J (zR (uu (ent (zP vd 1) v xs) E R) ?_)
  refine zN (fun h16=> ?_) (fun h16=> ?_)
  ·refine Z 8 J (Or.inr ⟨nofun,?_⟩)
   exact zE J J J ⟨_,⟨congrArg vi (dL h16 hno (by omega)).symm,rfl⟩,Y⟩
  refine Z 4 J (ad J (Z 2 J ?_))
  exact Or.inl ⟨rfl,_,by omega,c+1,by omega,fun k hk=>by { rcases Nat.lt_succ_iff_lt_or_eq.1 hk with hk|rfl;exact hno k hk;exact h16 },rfl,rfl,rfl,rfl,rfl,rfl,Y⟩
 refine Z 4 J (Or.inr ⟨nofun,?_⟩)
 exact OX 5 J (zE J J J ⟨_,⟨congrArg vi (Wv fun k hk=>hno k (by omega)).symm,rfl⟩,Y⟩)
theorem aC (E R:List SP) (v:AVal) (xs:List AVal) (hn:xs.length≤1000000) (q:Nat→Bool) (f:FuncId) (a b:List AVal) (hf: ∀j x,xs[j]? =some x→ ∀R',zy f (a++ [x]++b) (E++R') fun w L=>w= .bool (q j)∧L=E++R'):zy 60 [v,.func f a b] (ent (zP vd 1) v xs::(E++R)) fun w L=>w= .bool ((List.range xs.length).any q)∧L=ent (zP vd 1) v xs::(E++R):=by
 refine SW.intro rfl Tryz.func60 rfl ?_
 exact O0 8 J (Z0 (eu _ _ _ _ hn q f a b hf) J (Z 4 J (zE J J J ⟨_,⟨congrArg AVal.bool (pV q xs.length),rfl⟩,Y⟩)))
theorem Ca (L:KL) (fr cpus:Int) (kpti inv:Bool) (M M2:zA) (y:KY):kF L (KS.zero fr cpus kpti inv M) y=kF L (KS.zero fr cpus kpti inv M2) y:=rfl
theorem kI {S:KS} {cs:List (List yl)} {jj:Nat} (h:S.procsTo cs (jj+1)=none): ∀ {n:Nat},jj<n→S.procsTo cs n=none:=by
 intro n
 induction n with
 |zero=>intro h;omega
 |succ n ih=>
  intro hn
  rcases Nat.lt_or_ge jj n with h1|h1
  ·unfold KS.procsTo
   rw [ih h1]
  have:jj=n:=by omega
  subst this
  exact h
theorem mc {fr cpus:Int} (h:qt fr cpus=true):1≤cpus∧cpus≤2∧24≤fr∧fr≤64:=by
 unfold qt uV at h
 rw [Bool.and_eq_true]at h
 have h1:=of_decide_eq_true h.1
 have h2:=of_decide_eq_true h.2
 exact⟨h2.2.2.2.1,h2.2.2.2.2,h1,h2.2.1⟩
set_option maxHeartbeats 1000000 in
theorem ay (R:List SP) (fr cpus:Int) (kpti inv:Bool) (sv:AVal) (secret:List Nat) (hsm:secret.length≤1000000) (hsw: ∀x,x ∈ secret→x≤18446744073709551615) (cv:AVal) (cs:List (List yl)) (hcm:cs.length≤1000000) (hcl: ∀jj,(cs.getD jj []).length≤1000000):zy 32 [.agg (jW fr cpus kpti inv),sv,cv] (ent (zP W8 1) sv secret::ent Zv cv cs::R) fun w L2=>match jD fr cpus kpti inv secret cs with|(e,some S)=> ∃k L,w= .tuple [vp k 0,vi e]∧L2=ent zp k (L,S)::ent (zP W8 1) sv secret::ent Zv cv cs::R|(e,none)=>w= .tuple [.ptr none,vi e]∧L2=ent (zP W8 1) sv secret::ent Zv cv cs::R:=by
 refine zS (dM cv cs) fun vs _=> ?_
 dsimp only [kB,List.cons_append,List.nil_append]
 have hvl:((List.range cs.length).map vs).length=cs.length:=by simp
 refine SW.intro rfl Tryz.func32 rfl ?_
 refine O0 2 J (yW rfl rfl rfl rfl fun i3=> ?_)
 refine Z 5 J (lN J Y Y J J (o_call (aJ _ _ _ _ _) rfl (fun _=>rfl) ?_))
 intro u21 L21 hp21
 rcases hb:qt fr cpus with _|_
 ·rw [hb,if_neg nofun]at hp21
  obtain⟨rfl,rfl⟩:=hp21
  refine Z 3 J (zd rfl rfl rfl fun i8=> ?_)
  refine sN J Y Y J J J (Z 6 J (zf rfl (fun _=>zC rfl rfl rfl (vI rfl)) (GM (by omega) ?_)))
  refine Z 9 J (qO J J J J ?_)
  rw [show jD fr cpus kpti inv secret cs=(1,none)from if_pos hb]
  exact⟨_,⟨rfl,rfl⟩,Sub.trans (M:=ent (zP W8 1) sv secret::ent (zP vd 1) cv ((List.range cs.length).map vs)::ent (zG jK) 0 (List.range cs.length,fun i=>(vs i,cs.getD i []))::R) Y (Sub.keep (Sub.mk2 (vZ (vs:=vs)) (Sub.refl _)))⟩
 rw [hb,if_pos rfl]at hp21
 obtain⟨m,p,sw,rfl,rfl⟩:=hp21
 rw [show JK (zA.new (min fr 64).toNat) kpti=zn fr kpti from rfl]
 obtain⟨hc1,hc2,hf1,hf2⟩:=mc hb
 have hcn:(min (max 1 cpus) 2).toNat=cpus.toNat:=by omega
 refine Z 3 J (zd rfl rfl rfl fun i8=> ?_)
 refine sN J Y Y J J J (Z 6 J (zf rfl (fun _=>zC rfl rfl rfl (vI rfl)) (qM (by omega) ?_)))
 refine Z 7 J (yo rfl (fun _ h=>y0 rfl rfl rfl rfl rfl h) ?_)
 refine yn (congrArg (fun n:Nat=>vi n) hvl) ?_
 refine Z 1 J (z0 (fun h29=> ?_) (fun h29=> ?_))
 ·refine Z 12 J (qO J J J J ?_)
  have hbad:4<cs.length∨(cs.any fun c=> !q8 c)=true:=by { exact .inl (by omega) }
  rw [show jD fr cpus kpti inv secret cs=(1,none)by unfold jD;rw [if_neg (by rw [hb];nofun),if_pos hbad]]
  exact⟨_,⟨rfl,rfl⟩,Sub.trans (M:=ent (zP W8 1) sv secret::ent (zP vd 1) cv ((List.range cs.length).map vs)::ent (zG jK) 0 (List.range cs.length,fun i=>(vs i,cs.getD i []))::R) Y (Sub.keep (Sub.mk2 (vZ (vs:=vs)) (Sub.refl _)))⟩
 refine Z 2 J (zR (M:=ent (zP vd 1) cv ((List.range cs.length).map vs)::([ent (zG jK) 0 (List.range cs.length,fun i=>(vs i,cs.getD i []))]++(ent z8 i8 (Uc (Wd.mk fr cpus kpti inv m p sw 3 13))::ent z8 i3 (AVal.agg (jW fr cpus kpti inv)).cells::ent zQ m (zn fr kpti)::ent zX p ⟨m,[]⟩::ent y5 sw []::ent (zP W8 1) sv secret::R))) (show Px.Sub _ (ent (zP vd 1) cv ((List.range cs.length).map vs)::ent (zG jK) 0 (List.range cs.length,fun i=>(vs i,cs.getD i []))::ent z8 i8 (Uc (Wd.mk fr cpus kpti inv m p sw 3 13))::ent z8 i3 (AVal.agg (jW fr cpus kpti inv)).cells::ent zQ m (zn fr kpti)::ent zX p ⟨m,[]⟩::ent y5 sw []::ent (zP W8 1) sv secret::R)from Y) ?_)
 refine Z0 (aC [ent (zG jK) 0 (List.range cs.length,fun i=>(vs i,cs.getD i []))] _ cv ((List.range cs.length).map vs) (by omega) (fun jj=> !q8 (cs.getD jj [])) 61 [] [] (fun jj x hx R2=>by { have hj:jj<cs.length:=by { have:=(List.getElem?_eq_some_iff.1 hx).1;simpa using this };have hxv:x=vs jj:=by { rw [vw vs hj]at hx;cases hx;rfl };subst hxv;exact SW.sub (SW.out (CZ (ent (zG jK) 0 ((List.range cs.length).erase jj,fun i=>(vs i,cs.getD i []))::R2) (vs jj) (cs.getD jj []) (hcl jj)) (by { rintro v _ ⟨hv,rfl⟩;exact⟨_,⟨hv,rfl⟩,xU hj R2⟩ })) (Gy hj R2) })) J ?_
 dsimp only [List.cons_append,List.nil_append]
 refine zN (fun h32=> ?_) (fun h32=> ?_)
 ·refine Z 9 J (qO J J J J ?_)
  have hbad:4<cs.length∨(cs.any fun c=> !q8 c)=true:=by { right;rw [←bJ cs fun c=> !q8 c,←hvl];exact h32 }
  rw [show jD fr cpus kpti inv secret cs=(1,none)by unfold jD;rw [if_neg (by rw [hb];nofun),if_pos hbad]]
  exact⟨_,⟨rfl,rfl⟩,Sub.trans (M:=ent (zP W8 1) sv secret::ent (zP vd 1) cv ((List.range cs.length).map vs)::ent (zG jK) 0 (List.range cs.length,fun i=>(vs i,cs.getD i []))::R) Y (Sub.keep (Sub.mk2 (vZ (vs:=vs)) (Sub.refl _)))⟩
 have hgood: ¬(4<cs.length∨(cs.any fun c=> !q8 c)=true):=by { rintro (h|h);exact h29 (by omega);rw [←bJ cs fun c=> !q8 c,←hvl,h32]at h;cases h }
 have hl4:cs.length≤4:=by { rcases Nat.lt_or_ge 4 cs.length with h|h;exact absurd (.inl h) hgood;exact h }
 have hcok: ∀c,c ∈ cs→q8 c=true:=fun c hc=>by { cases h:q8 c with|true=>rfl|false=>exact absurd (.inr (List.any_eq_true.2 ⟨c,hc,by rw [h];rfl⟩)) hgood }
 refine Z 5 J (zO [0,0,2,6,0,16,62,126,0,256,1022,2047,4095,8191] [([0,1,2,4,5,8,9],[0,2,5,9],some 3),([],[0,5,9],some 6),([],[0,9],some 7),([],[0,9],some 10),([11,12,13],[0],none)] (by kernel_rfl) ?_)
 refine z4 (Vl J Y Y J J (zj J Y (ye J Y J (zj J Y (ye J Y J (zj J Y (ye J Y J (z5 ⟨(YC J Y Y J J J (z3 _ rfl) (y6 J Y J J J (y6 J Y J J J (y6 J Y J J J z6)))),?_⟩))))))))
 refine o_call (AF _ cpus) rfl (fun _=>rfl) ?_
 rintro _ _ ⟨n37,rfl,rfl⟩
 rw [hcn]
 refine zF (z4 (z5 ⟨(YC J Y Y J J J (z3 _ rfl) (y6 J Y J J J (y6 J Y J J J z6))),?_⟩))
 refine o_call (AK _ cpus) rfl (fun _=>rfl) ?_
 rintro _ _ ⟨n40,rfl,rfl⟩
 rw [hcn]
 refine zF (z4 (z5 ⟨(YC J Y Y J J J (z3 _ rfl) (y6 J Y J J J z6)),?_⟩))
 refine o_call (tr _) rfl (fun _=>rfl) ?_
 rintro _ _ ⟨n41,c41,rfl,rfl⟩
 refine zF (z4 (z5 ⟨(YC J Y Y J J J (z3 _ rfl) (y6 J Y J J J z6)),?_⟩))
 refine o_call (BA _ cpus) rfl (fun _=>rfl) ?_
 rintro _ _ ⟨n44,rfl,rfl⟩
 rw [hcn]
 refine zF (z4 (p7 [_,_,_,_,_,_,_,_,_,_,_,_,_,_,_,_,_,_] J Y Y J (ky rfl rfl rfl rfl fun i46=> ?_)))
 refine ZK 1 J (z5 ⟨(YC J Y Y J J J (z3 _ rfl) z6),?_⟩)
 refine OX 3 J (zR (Sub.trans (Sub.one (K:=z8) (a:=i46) (K2:=z8) (a2:=i46) (x2:= [vi fr,vi cpus,.bool kpti,.bool inv,vp m 0,vp p 0,vp sw 0,vi 3,vi 13,.ptr none,.ptr none,.ptr none,.ptr none,.slice none 0 (some 0) 0,vp n37 0,vp n40 0,vp n41 0,vp n44 0]) fun _ e=>e) (Sub.trans ?_ (th (k:=i46) (L:=(KL.mk m p sw n37 n40 n41 n44 (fun _=>0) (fun _=>0) (fun _=>0))) (fr:=fr) (cpus:=cpus) (kpti:=kpti) (inv:=inv) (M:=zn fr kpti) (ch:=c41) (R:=ent z8 i8 (Uc ⟨fr,cpus,kpti,inv,m,p,sw,3,13⟩)::ent z8 i3 (AVal.agg (jW fr cpus kpti inv)).cells::ent (zP W8 1) sv secret::ent (zP vd 1) cv ((List.range cs.length).map vs)::ent (zG jK) 0 (List.range cs.length,fun i=>(vs i,cs.getD i []))::R)))) ?_)
 ·exact Y
 dsimp only [bY]
 refine Z 1 J (yo rfl (fun _ h=>y0 rfl rfl rfl rfl rfl h) ?_)
 refine Z 3 J (zl (fun j T LZ=> ∃(jj:Nat),(jj≤secret.length)∧j=secret.length-jj∧T.len=9∧Tm.get 3 T=some (vp i3 0)∧Tm.get 8 T=some (vp i8 0)∧Tm.get 10 T=some (vp i46 0)∧Tm.get 2 T=some (cv)∧Tm.get 47 T=some (sv)∧Tm.get 48 T=some (vi (secret.length:Nat))∧Tm.get 49 T=some (vi (jj:Nat))∧Sub LZ (ent zI i46 (18,kF (KL.mk m p sw n37 n40 n41 n44 (fun _=>0) (fun _=>0) (fun _=>0)) (KS.zero fr cpus kpti inv (zn fr kpti)) (KY.mk (.slice none 0 (some 0) 0) (fun _=>0) (fun _=>0) (fun _=> .slice none 0 (some 0) 0) c41))::ent (zP uJ 1) (KY.mk (.slice none 0 (some 0) 0) (fun _=>0) (fun _=>0) (fun _=> .slice none 0 (some 0) 0) c41).cv ((List.range 0).map (KL.mk m p sw n37 n40 n41 n44 (fun _=>0) (fun _=>0) (fun _=>0)).c)::ent zQ m (yb (zn fr kpti) secret jj)::ent zX p ⟨m,(KS.zero fr cpus kpti inv (zn fr kpti)).Rf⟩::ent y5 sw (KS.zero fr cpus kpti inv (zn fr kpti)).Ws::ent qI n37 (KS.zero fr cpus kpti inv (zn fr kpti)).H::ent qm n40 (KS.zero fr cpus kpti inv (zn fr kpti)).N::ent z8 n41 [.chan (some (KY.mk (.slice none 0 (some 0) 0) (fun _=>0) (fun _=>0) (fun _=> .slice none 0 (some 0) 0) c41).ch)]::ent yh (KY.mk (.slice none 0 (some 0) 0) (fun _=>0) (fun _=>0) (fun _=> .slice none 0 (some 0) 0) c41).ch (4,(KS.zero fr cpus kpti inv (zn fr kpti)).ww.map vu)::ent wO n44 (KS.zero fr cpus kpti inv (zn fr kpti)).Q::ent (zG Zo) i46 (List.range 0,fun d=>((KL.mk m p sw n37 n40 n41 n44 (fun _=>0) (fun _=>0) (fun _=>0)).c d,(KS.zero fr cpus kpti inv (zn fr kpti)).cpu (KL.mk m p sw n37 n40 n41 n44 (fun _=>0) (fun _=>0) (fun _=>0)) d))::ent (zG ve) i46 (List.range 4,(KS.zero fr cpus kpti inv (zn fr kpti)).prs (KL.mk m p sw n37 n40 n41 n44 (fun _=>0) (fun _=>0) (fun _=>0)) (KY.mk (.slice none 0 (some 0) 0) (fun _=>0) (fun _=>0) (fun _=> .slice none 0 (some 0) 0) c41))::ent z8 i8 (Uc ⟨fr,cpus,kpti,inv,m,p,sw,3,13⟩)::ent z8 i3 (AVal.agg (jW fr cpus kpti inv)).cells::ent (zP W8 1) sv secret::ent (zP vd 1) cv ((List.range cs.length).map vs)::ent (zG jK) 0 (List.range cs.length,fun i=>(vs i,cs.getD i []))::R)) (secret.length) ⟨0,by omega,by omega,rfl,rfl,rfl,rfl,rfl,rfl,rfl,rfl,(show Px.Sub _ (ent zI i46 (18,kF (KL.mk m p sw n37 n40 n41 n44 (fun _=>0) (fun _=>0) (fun _=>0)) (KS.zero fr cpus kpti inv (zn fr kpti)) (KY.mk (.slice none 0 (some 0) 0) (fun _=>0) (fun _=>0) (fun _=> .slice none 0 (some 0) 0) c41))::ent (zP uJ 1) (KY.mk (.slice none 0 (some 0) 0) (fun _=>0) (fun _=>0) (fun _=> .slice none 0 (some 0) 0) c41).cv ((List.range 0).map (KL.mk m p sw n37 n40 n41 n44 (fun _=>0) (fun _=>0) (fun _=>0)).c)::ent zQ m (zn fr kpti)::ent zX p ⟨m,(KS.zero fr cpus kpti inv (zn fr kpti)).Rf⟩::ent y5 sw (KS.zero fr cpus kpti inv (zn fr kpti)).Ws::ent qI n37 (KS.zero fr cpus kpti inv (zn fr kpti)).H::ent qm n40 (KS.zero fr cpus kpti inv (zn fr kpti)).N::ent z8 n41 [.chan (some (KY.mk (.slice none 0 (some 0) 0) (fun _=>0) (fun _=>0) (fun _=> .slice none 0 (some 0) 0) c41).ch)]::ent yh (KY.mk (.slice none 0 (some 0) 0) (fun _=>0) (fun _=>0) (fun _=> .slice none 0 (some 0) 0) c41).ch (4,(KS.zero fr cpus kpti inv (zn fr kpti)).ww.map vu)::ent wO n44 (KS.zero fr cpus kpti inv (zn fr kpti)).Q::ent (zG Zo) i46 (List.range 0,fun d=>((KL.mk m p sw n37 n40 n41 n44 (fun _=>0) (fun _=>0) (fun _=>0)).c d,(KS.zero fr cpus kpti inv (zn fr kpti)).cpu (KL.mk m p sw n37 n40 n41 n44 (fun _=>0) (fun _=>0) (fun _=>0)) d))::ent (zG ve) i46 (List.range 4,(KS.zero fr cpus kpti inv (zn fr kpti)).prs (KL.mk m p sw n37 n40 n41 n44 (fun _=>0) (fun _=>0) (fun _=>0)) (KY.mk (.slice none 0 (some 0) 0) (fun _=>0) (fun _=>0) (fun _=> .slice none 0 (some 0) 0) c41))::ent z8 i8 (Uc ⟨fr,cpus,kpti,inv,m,p,sw,3,13⟩)::ent z8 i3 (AVal.agg (jW fr cpus kpti inv)).cells::ent (zP W8 1) sv secret::ent (zP vd 1) cv ((List.range cs.length).map vs)::ent (zG jK) 0 (List.range cs.length,fun i=>(vs i,cs.getD i []))::R)from Y)⟩ ?_)
 rintro j T L0 ⟨jj,hj,rfl,hl,g3,g8,g10,g2,g47,g48,g49,hsb⟩
 obtain⟨tg,rfl⟩:=Cw hl g3 g8 g10 g2 g47 g48 g49
 clear hl g3 g8 g10 g2 g47 g48 g49
 refine zu hsb ?_
 clear hsb L0
 refine O0 3 J (z0 (fun h50=> ?_) (fun h50=> ?_))
 ·refine Z 9 J ?_
  have hjs:jj<secret.length:=by omega
  obtain⟨sx,hsx0⟩: ∃sx,secret[jj]? =some sx:=⟨secret[jj],List.getElem?_eq_getElem hjs⟩
  have hsx:secret.getD jj 0=sx:=by rw [List.getD_eq_getElem?_getD,hsx0];rfl
  have hsxw:=hsw sx (List.mem_iff_getElem?.2 ⟨_,hsx0⟩)
  refine yo rfl (fun _ h=>yM rfl rfl rfl (by omega) (by omega) h) ?_
  refine lE 0 J Y J hsx0 J (Z 7 J (z0 (fun h55=> ?_) (fun h55=> ?_)))
  ·refine Z 3 J (fa J Y (ld J Y J (Z 1 J (ad J (Z 1 J (Z1 (jT _ _ (yb (zn fr kpti) secret jj) _ (by omega) sx hsxw) J Y (Z 2 J (ad J (Z 2 J ?_)))))))))
   exact Or.inl ⟨rfl,_,by omega,jj+1,by omega,rfl,rfl,rfl,rfl,rfl,rfl,rfl,rfl,rfl,(by have e:yb (zn fr kpti) secret (jj+1)=(yb (zn fr kpti) secret jj).write (8+(jj:Nat)) (secret.getD jj 0):=if_pos (by omega);rw [e,hsx];exact Y)⟩
  refine Z 4 J (ad J (Z 2 J ?_))
  exact Or.inl ⟨rfl,_,by omega,jj+1,by omega,rfl,rfl,rfl,rfl,rfl,rfl,rfl,rfl,rfl,(by have e:yb (zn fr kpti) secret (jj+1)=yb (zn fr kpti) secret jj:=if_neg (by omega);rw [e];exact Y)⟩
 refine Z 4 J (Or.inr ⟨nofun,?_⟩)
 refine OX 4 J (yo rfl (fun _ h=>y0 rfl rfl rfl rfl rfl h) ?_)
 refine yn (congrArg (fun n:Nat=>vi n) hvl) ?_
 refine Z 3 J ?_
 have hjs:jj=secret.length:=by omega
 subst hjs
 refine zu (Sub.trans (Sub.one (K:=zI) (a:=i46) (K2:=zI) (a2:=i46) (x2:=(18,kF (KL.mk m p sw n37 n40 n41 n44 (fun _=>0) (fun _=>0) (fun _=>0)) (KS.zero fr cpus kpti inv (yb (zn fr kpti) secret secret.length)) (KY.mk (.slice none 0 (some 0) 0) (fun _=>0) (fun _=>0) (fun _=> .slice none 0 (some 0) 0) c41))) fun f e=>(congrArg (fun q=>zI i46 (18,q) f) (Ca (KL.mk m p sw n37 n40 n41 n44 (fun _=>0) (fun _=>0) (fun _=>0)) fr cpus kpti inv (zn fr kpti) (yb (zn fr kpti) secret secret.length) (KY.mk (.slice none 0 (some 0) 0) (fun _=>0) (fun _=>0) (fun _=> .slice none 0 (some 0) 0) c41))).mp e) (show Px.Sub _ (ent zI i46 (18,kF (KL.mk m p sw n37 n40 n41 n44 (fun _=>0) (fun _=>0) (fun _=>0)) (KS.zero fr cpus kpti inv (yb (zn fr kpti) secret secret.length)) (KY.mk (.slice none 0 (some 0) 0) (fun _=>0) (fun _=>0) (fun _=> .slice none 0 (some 0) 0) c41))::ent (zP uJ 1) (KY.mk (.slice none 0 (some 0) 0) (fun _=>0) (fun _=>0) (fun _=> .slice none 0 (some 0) 0) c41).cv ((List.range 0).map (KL.mk m p sw n37 n40 n41 n44 (fun _=>0) (fun _=>0) (fun _=>0)).c)::ent zQ m (KS.zero fr cpus kpti inv (yb (zn fr kpti) secret secret.length)).M::ent zX p ⟨m,(KS.zero fr cpus kpti inv (yb (zn fr kpti) secret secret.length)).Rf⟩::ent y5 sw (KS.zero fr cpus kpti inv (yb (zn fr kpti) secret secret.length)).Ws::ent qI n37 (KS.zero fr cpus kpti inv (yb (zn fr kpti) secret secret.length)).H::ent qm n40 (KS.zero fr cpus kpti inv (yb (zn fr kpti) secret secret.length)).N::ent z8 n41 [.chan (some (KY.mk (.slice none 0 (some 0) 0) (fun _=>0) (fun _=>0) (fun _=> .slice none 0 (some 0) 0) c41).ch)]::ent yh (KY.mk (.slice none 0 (some 0) 0) (fun _=>0) (fun _=>0) (fun _=> .slice none 0 (some 0) 0) c41).ch (4,(KS.zero fr cpus kpti inv (yb (zn fr kpti) secret secret.length)).ww.map vu)::ent wO n44 (KS.zero fr cpus kpti inv (yb (zn fr kpti) secret secret.length)).Q::ent (zG Zo) i46 (List.range 0,fun d=>((KL.mk m p sw n37 n40 n41 n44 (fun _=>0) (fun _=>0) (fun _=>0)).c d,(KS.zero fr cpus kpti inv (yb (zn fr kpti) secret secret.length)).cpu (KL.mk m p sw n37 n40 n41 n44 (fun _=>0) (fun _=>0) (fun _=>0)) d))::ent (zG ve) i46 (List.range 4,(KS.zero fr cpus kpti inv (yb (zn fr kpti) secret secret.length)).prs (KL.mk m p sw n37 n40 n41 n44 (fun _=>0) (fun _=>0) (fun _=>0)) (KY.mk (.slice none 0 (some 0) 0) (fun _=>0) (fun _=>0) (fun _=> .slice none 0 (some 0) 0) c41))::ent z8 i8 (Uc ⟨fr,cpus,kpti,inv,m,p,sw,3,13⟩)::ent z8 i3 (AVal.agg (jW fr cpus kpti inv)).cells::ent (zP W8 1) sv secret::ent (zP vd 1) cv ((List.range cs.length).map vs)::ent (zG jK) 0 (List.range cs.length,fun i=>(vs i,cs.getD i []))::R)from Y)) ?_
 refine zl (fun j T LZ=> ∃(jj:Nat) (KT:KS) (y:KY),(jj≤cs.length)∧((KS.zero fr cpus kpti inv (yb (zn fr kpti) secret secret.length)).procsTo cs jj=some KT)∧j=cs.length-jj∧T.len=9∧Tm.get 3 T=some (vp i3 0)∧Tm.get 8 T=some (vp i8 0)∧Tm.get 10 T=some (vp i46 0)∧Tm.get 63 T=some (cv)∧Tm.get 64 T=some (vi (cs.length:Nat))∧Tm.get 65 T=some (vi (jj:Nat))∧Sub LZ (ent zI i46 (18,kF (KL.mk m p sw n37 n40 n41 n44 (fun _=>0) (fun _=>0) (fun _=>0)) KT y)::ent (zP uJ 1) y.cv ((List.range 0).map (KL.mk m p sw n37 n40 n41 n44 (fun _=>0) (fun _=>0) (fun _=>0)).c)::ent zQ m KT.M::ent zX p ⟨m,KT.Rf⟩::ent y5 sw KT.Ws::ent qI n37 KT.H::ent qm n40 KT.N::ent z8 n41 [.chan (some y.ch)]::ent yh y.ch (4,KT.ww.map vu)::ent wO n44 KT.Q::ent (zG Zo) i46 (List.range 0,fun d=>((KL.mk m p sw n37 n40 n41 n44 (fun _=>0) (fun _=>0) (fun _=>0)).c d,KT.cpu (KL.mk m p sw n37 n40 n41 n44 (fun _=>0) (fun _=>0) (fun _=>0)) d))::ent (zG ve) i46 (List.range 4,KT.prs (KL.mk m p sw n37 n40 n41 n44 (fun _=>0) (fun _=>0) (fun _=>0)) y)::ent z8 i8 (Uc ⟨fr,cpus,kpti,inv,m,p,sw,3,13⟩)::ent z8 i3 (AVal.agg (jW fr cpus kpti inv)).cells::ent (zP W8 1) sv secret::ent (zP vd 1) cv ((List.range cs.length).map vs)::ent (zG jK) 0 (List.range cs.length,fun i=>(vs i,cs.getD i []))::R)) (cs.length) ⟨0,(KS.zero fr cpus kpti inv (yb (zn fr kpti) secret secret.length)),(KY.mk (.slice none 0 (some 0) 0) (fun _=>0) (fun _=>0) (fun _=> .slice none 0 (some 0) 0) c41),by omega,rfl,by omega,rfl,rfl,rfl,rfl,rfl,rfl,rfl,Y⟩ ?_
 rintro j T L0 ⟨jj,KT,y,hj,hT,rfl,hl,g3,g8,g10,g63,g64,g65,hsb⟩
 obtain⟨tg,rfl⟩:=oC hl g3 g8 g10 g63 g64 g65
 clear hl g3 g8 g10 g63 g64 g65
 refine zu hsb ?_
 clear hsb L0
 refine O0 3 J (z0 (fun h66=> ?_) (fun h66=> ?_))
 ·have hjc:jj<cs.length:=by omega
  have hj4:jj<4:=by omega
  have hB:=ZS (WY fr cpus kpti inv _) cs hl4 hj hT
  have hk2:KT.kpti=kpti:=hB.kpti
  have hprn:KT.pr jj=none:=hB.no jj (Nat.le_refl _)
  have hvx:=vw vs hjc
  have hal:KT.Q.alive (jj:Nat)=false:=by { unfold zV.alive;rw [show((jj:Nat):Int).toNat=jj from rfl,hB.al jj,hprn,Bool.and_comm];rfl }
  have hW:KT.W (KL.mk m p sw n37 n40 n41 n44 (fun _=>0) (fun _=>0) (fun _=>0))=(Wd.mk fr cpus kpti inv m p sw 3 13):=by simp only [KS.W,hB.fr,hB.cpus,hB.kpti,hB.inv]
  refine Z 9 J (yo rfl (fun _ h=>yM rfl rfl rfl (by omega) (by omega) h) ?_)
  refine lE 0 J Y J hvx J (Z 5 J (lN J Y Y J J (Z 1 J (Yc (rC _ (Wd.mk fr cpus kpti inv m p sw 3 13) (by show(3:Nat)<1099511627776;decide) (by show(13:Nat)<1099511627776;decide) KT.M KT.Rf (jj:Nat)) rfl (fun _=>rfl) ?_))))
  intro u73 L73 hp73
  rcases hsp:PM.space ⟨KT.M,KT.Rf⟩ KT.kpti 3 13 (jj:Nat)with _|⟨s,Sp⟩
  ·have hsp2:PM.space ⟨KT.M,KT.Rf⟩ (Wd.mk fr cpus kpti inv m p sw 3 13).kpti (Wd.mk fr cpus kpti inv m p sw 3 13).mp (Wd.mk fr cpus kpti inv m p sw 3 13).gate (jj:Nat)=none:=by { show PM.space _ kpti 3 13 _=none;rw [←hk2];exact hsp }
   rw [hsp2]at hp73
   obtain⟨rfl,rfl⟩:=hp73
   have hT2:(KS.zero fr cpus kpti inv (yb (zn fr kpti) secret secret.length)).procsTo cs (jj+1)=none:=by { unfold KS.procsTo;rw [hT];dsimp only;rw [hsp] }
   refine Z 19 J (Or.inr ⟨nofun,?_⟩)
   refine qO J J J J ?_
   have hno:(KS.zero fr cpus kpti inv (yb (zn fr kpti) secret secret.length)).procsTo cs cs.length=none:=kI hT2 hjc
   rw [show jD fr cpus kpti inv secret cs=(5,none)by unfold jD;rw [if_neg (by rw [hb];nofun),if_neg hgood,hno]]
   exact⟨_,⟨rfl,rfl⟩,Sub.trans (M:=ent (zP W8 1) sv secret::ent (zP vd 1) cv ((List.range cs.length).map vs)::ent (zG jK) 0 (List.range cs.length,fun i=>(vs i,cs.getD i []))::R) Y (Sub.keep (Sub.mk2 (vZ (vs:=vs)) (Sub.refl _)))⟩
  have hsp2:PM.space ⟨KT.M,KT.Rf⟩ (Wd.mk fr cpus kpti inv m p sw 3 13).kpti (Wd.mk fr cpus kpti inv m p sw 3 13).mp (Wd.mk fr cpus kpti inv m p sw 3 13).gate (jj:Nat)=some (s,Sp):=by { show PM.space _ kpti 3 13 _=_;rw [←hk2];exact hsp }
  rw [hsp2]at hp73
  obtain⟨n73,rfl,rfl⟩:=hp73
  have hT2:(KS.zero fr cpus kpti inv (yb (zn fr kpti) secret secret.length)).procsTo cs (jj+1)=some (KT.born jj (cs.getD jj []) s Sp):=by { unfold KS.procsTo;rw [hT];dsimp only;rw [hsp] }
  refine Z 15 J (zO [0,0,0,4,12,0,60,124,1,257,1023,2047] [([0,1,2,5,8,9],[],some 3),([4,6,7,10],[],some 11),([],[],none)] (by kernel_rfl) ?_)
  refine z4 (ZK 5 J (zj J Y (z5 ⟨z6,?_⟩)))
  refine zR (Sub.trans (M:=ent (zG jK) 0 (List.range cs.length,fun i=>(vs i,cs.getD i []))::ent Zs n73 (jX.mk (Wd.mk fr cpus kpti inv m p sw 3 13) (jj:Nat) qR [] [] Sp)::ent zI i46 (18,kF (KL.mk m p sw n37 n40 n41 n44 (fun _=>0) (fun _=>0) (fun _=>0)) KT y)::ent (zP uJ 1) y.cv ((List.range 0).map (KL.mk m p sw n37 n40 n41 n44 (fun _=>0) (fun _=>0) (fun _=>0)).c)::ent zQ m s.M::ent zX p ⟨m,s.R⟩::ent y5 sw KT.Ws::ent qI n37 KT.H::ent qm n40 KT.N::ent z8 n41 [.chan (some y.ch)]::ent yh y.ch (4,KT.ww.map vu)::ent wO n44 KT.Q::ent (zG Zo) i46 (List.range 0,fun d=>((KL.mk m p sw n37 n40 n41 n44 (fun _=>0) (fun _=>0) (fun _=>0)).c d,KT.cpu (KL.mk m p sw n37 n40 n41 n44 (fun _=>0) (fun _=>0) (fun _=>0)) d))::ent (zG ve) i46 (List.range 4,KT.prs (KL.mk m p sw n37 n40 n41 n44 (fun _=>0) (fun _=>0) (fun _=>0)) y)::ent z8 i8 (Uc ⟨fr,cpus,kpti,inv,m,p,sw,3,13⟩)::ent z8 i3 (AVal.agg (jW fr cpus kpti inv)).cells::ent (zP W8 1) sv secret::ent (zP vd 1) cv ((List.range cs.length).map vs)::R) Y (Gy hjc (ent Zs n73 (jX.mk (Wd.mk fr cpus kpti inv m p sw 3 13) (jj:Nat) qR [] [] Sp)::ent zI i46 (18,kF (KL.mk m p sw n37 n40 n41 n44 (fun _=>0) (fun _=>0) (fun _=>0)) KT y)::ent (zP uJ 1) y.cv ((List.range 0).map (KL.mk m p sw n37 n40 n41 n44 (fun _=>0) (fun _=>0) (fun _=>0)).c)::ent zQ m s.M::ent zX p ⟨m,s.R⟩::ent y5 sw KT.Ws::ent qI n37 KT.H::ent qm n40 KT.N::ent z8 n41 [.chan (some y.ch)]::ent yh y.ch (4,KT.ww.map vu)::ent wO n44 KT.Q::ent (zG Zo) i46 (List.range 0,fun d=>((KL.mk m p sw n37 n40 n41 n44 (fun _=>0) (fun _=>0) (fun _=>0)).c d,KT.cpu (KL.mk m p sw n37 n40 n41 n44 (fun _=>0) (fun _=>0) (fun _=>0)) d))::ent (zG ve) i46 (List.range 4,KT.prs (KL.mk m p sw n37 n40 n41 n44 (fun _=>0) (fun _=>0) (fun _=>0)) y)::ent z8 i8 (Uc ⟨fr,cpus,kpti,inv,m,p,sw,3,13⟩)::ent z8 i3 (AVal.agg (jW fr cpus kpti inv)).cells::ent (zP W8 1) sv secret::ent (zP vd 1) cv ((List.range cs.length).map vs)::R))) ?_
  refine yG (Wq _ (vs jj) (cs.getD jj []) (hcl jj)) rfl (fun _=>rfl) ?_
  rintro u81 _ rfl
  refine yD (v:=u81) fun au81 cu81 eu81 hvu81 _=> ?_
  subst hvu81
  refine zR (Sub.trans (M:=ent (zP qN 4) (vs jj) (cs.getD jj [])::ent (zG jK) 0 ((List.range cs.length).erase jj,fun i=>(vs i,cs.getD i []))::ent (zP qN 4) (AVal.slice au81 (cs.getD jj []).length cu81 eu81) (cs.getD jj [])::ent Zs n73 (jX.mk (Wd.mk fr cpus kpti inv m p sw 3 13) (jj:Nat) qR [] [] Sp)::ent zI i46 (18,kF (KL.mk m p sw n37 n40 n41 n44 (fun _=>0) (fun _=>0) (fun _=>0)) KT y)::ent (zP uJ 1) y.cv ((List.range 0).map (KL.mk m p sw n37 n40 n41 n44 (fun _=>0) (fun _=>0) (fun _=>0)).c)::ent zQ m s.M::ent zX p ⟨m,s.R⟩::ent y5 sw KT.Ws::ent qI n37 KT.H::ent qm n40 KT.N::ent z8 n41 [.chan (some y.ch)]::ent yh y.ch (4,KT.ww.map vu)::ent wO n44 KT.Q::ent (zG Zo) i46 (List.range 0,fun d=>((KL.mk m p sw n37 n40 n41 n44 (fun _=>0) (fun _=>0) (fun _=>0)).c d,KT.cpu (KL.mk m p sw n37 n40 n41 n44 (fun _=>0) (fun _=>0) (fun _=>0)) d))::ent (zG ve) i46 (List.range 4,KT.prs (KL.mk m p sw n37 n40 n41 n44 (fun _=>0) (fun _=>0) (fun _=>0)) y)::ent z8 i8 (Uc ⟨fr,cpus,kpti,inv,m,p,sw,3,13⟩)::ent z8 i3 (AVal.agg (jW fr cpus kpti inv)).cells::ent (zP W8 1) sv secret::ent (zP vd 1) cv ((List.range cs.length).map vs)::R) Y (xU hjc (ent (zP qN 4) (AVal.slice au81 (cs.getD jj []).length cu81 eu81) (cs.getD jj [])::ent Zs n73 (jX.mk (Wd.mk fr cpus kpti inv m p sw 3 13) (jj:Nat) qR [] [] Sp)::ent zI i46 (18,kF (KL.mk m p sw n37 n40 n41 n44 (fun _=>0) (fun _=>0) (fun _=>0)) KT y)::ent (zP uJ 1) y.cv ((List.range 0).map (KL.mk m p sw n37 n40 n41 n44 (fun _=>0) (fun _=>0) (fun _=>0)).c)::ent zQ m s.M::ent zX p ⟨m,s.R⟩::ent y5 sw KT.Ws::ent qI n37 KT.H::ent qm n40 KT.N::ent z8 n41 [.chan (some y.ch)]::ent yh y.ch (4,KT.ww.map vu)::ent wO n44 KT.Q::ent (zG Zo) i46 (List.range 0,fun d=>((KL.mk m p sw n37 n40 n41 n44 (fun _=>0) (fun _=>0) (fun _=>0)).c d,KT.cpu (KL.mk m p sw n37 n40 n41 n44 (fun _=>0) (fun _=>0) (fun _=>0)) d))::ent (zG ve) i46 (List.range 4,KT.prs (KL.mk m p sw n37 n40 n41 n44 (fun _=>0) (fun _=>0) (fun _=>0)) y)::ent z8 i8 (Uc ⟨fr,cpus,kpti,inv,m,p,sw,3,13⟩)::ent z8 i3 (AVal.agg (jW fr cpus kpti inv)).cells::ent (zP W8 1) sv secret::ent (zP vd 1) cv ((List.range cs.length).map vs)::R))) ?_
  refine zF (z4 (p7 [_,_,_,_,_,_,_,_,_,_] J Y Y J (p7 [_,_,_,_,_,_,_,_,_,_,_] J Y Y J (ky rfl rfl rfl rfl fun i85=> ?_))))
  refine vN rfl (fun _=>zh rfl rfl rfl (by omega) (by omega)) ?_
  refine z5 ⟨z6,?_⟩
  refine sF J Y J J (zF (z4 (z5 ⟨z6,?_⟩)))
  refine OX 3 J (fa J Y (lf J Y (og (L:=(KL.mk m p sw n37 n40 n41 n44 (fun _=>0) (fun _=>0) (fun _=>0))) (S:=KT) (y:=y) (q:=jj) (v:=vp i85 0) hj4) (Z 1 J (Z1 (mP _ _ KT.Q (jj:Nat) hal) J Y (Z 2 J (ad J (Z 2 J ?_)))))))
  exact Or.inl ⟨rfl,_,by omega,jj+1,(KT.born jj (cs.getD jj []) s Sp),(KY.mk y.cv (fun q=>if q=jj then i85 else y.a q) (fun q=>if q=jj then n73 else y.v q) (fun q=>if q=jj then(AVal.slice au81 (cs.getD jj []).length cu81 eu81)else y.cd q) y.ch),by omega,hT2,rfl,rfl,rfl,rfl,rfl,rfl,rfl,rfl,(Sub.trans (Sub.one (K:=zI) (a:=i46) (K2:=zI) (a2:=i46) (x2:=(18,vK (kF (KL.mk m p sw n37 n40 n41 n44 (fun _=>0) (fun _=>0) (fun _=>0)) KT y) (jj+9) (vp i85 0))) fun _ e=>e) (Sub.trans (Sub.one (K:=z8) (a:=i85) (K2:=z8) (a2:=i85) (x2:=jC (fun _=>0) (AVal.slice au81 (cs.getD jj []).length cu81 eu81) 0++ [vp n73 0]) fun _ e=>e) (Sub.trans (Sub.one (K:=Zs) (a:=n73) (K2:=Zs) (a2:=n73) (x2:=jX.mk (KT.W (KL.mk m p sw n37 n40 n41 n44 (fun _=>0) (fun _=>0) (fun _=>0))) (jj:Nat) qR [] [] Sp) fun _ e=>by rw [hW];exact e) (Sub.trans Y (tW (k:=i46) (i:=jj) (a:=i85) (v:=n73) (n:=0) (L:=(KL.mk m p sw n37 n40 n41 n44 (fun _=>0) (fun _=>0) (fun _=>0))) (S:=KT) (y:=y) (cd:=(AVal.slice au81 (cs.getD jj []).length cu81 eu81)) (code:=cs.getD jj []) (s:=s) (Sp:=Sp) (R:=ent z8 i8 (Uc ⟨fr,cpus,kpti,inv,m,p,sw,3,13⟩)::ent z8 i3 (AVal.agg (jW fr cpus kpti inv)).cells::ent (zP W8 1) sv secret::ent (zP vd 1) cv ((List.range cs.length).map vs)::ent (zG jK) 0 (List.range cs.length,fun i=>(vs i,cs.getD i []))::R) hj4 hprn)))))⟩
 refine Z 4 J (Or.inr ⟨nofun,?_⟩)
 refine OX 3 J (fa J Y (ld J Y J (Z 3 J ?_)))
 have hjs:jj=cs.length:=by omega
 subst hjs
 have hTT:=hT
 obtain⟨hok,hgn,hnQ⟩:=xg ⟨hc1,hc2⟩ cs hl4 hcok hTT
 have hB:=ZS (WY fr cpus kpti inv _) cs hl4 (Nat.le_refl _) hTT
 refine zl (fun j T LZ=> ∃(jj:Nat) (cf uf tf:Nat→Nat) (y:KY),(jj≤cpus.toNat)∧j=cpus.toNat-jj∧T.len=9∧Tm.get 3 T=some (vp i3 0)∧Tm.get 10 T=some (vp i46 0)∧Tm.get 97 T=some (vi cpus)∧Tm.get 98 T=some (vi (jj:Nat))∧Sub LZ (ent zI i46 (18,kF (KL.mk m p sw n37 n40 n41 n44 cf uf tf) KT y)::ent (zP uJ 1) y.cv ((List.range jj).map (KL.mk m p sw n37 n40 n41 n44 cf uf tf).c)::ent zQ m KT.M::ent zX p ⟨m,KT.Rf⟩::ent y5 sw KT.Ws::ent qI n37 KT.H::ent qm n40 KT.N::ent z8 n41 [.chan (some y.ch)]::ent yh y.ch (4,KT.ww.map vu)::ent wO n44 KT.Q::ent (zG Zo) i46 (List.range jj,fun d=>((KL.mk m p sw n37 n40 n41 n44 cf uf tf).c d,KT.cpu (KL.mk m p sw n37 n40 n41 n44 cf uf tf) d))::ent (zG ve) i46 (List.range 4,KT.prs (KL.mk m p sw n37 n40 n41 n44 cf uf tf) y)::ent z8 i8 (Uc ⟨fr,cpus,kpti,inv,m,p,sw,3,13⟩)::ent z8 i3 (AVal.agg (jW fr cpus kpti inv)).cells::ent (zP W8 1) sv secret::ent (zP vd 1) cv ((List.range cs.length).map vs)::ent (zG jK) 0 (List.range cs.length,fun i=>(vs i,cs.getD i []))::R)) (cpus.toNat) ⟨0,(fun _=>0),(fun _=>0),(fun _=>0),y,by omega,by omega,rfl,rfl,rfl,rfl,rfl,Y⟩ ?_
 rintro j T L0 ⟨jj,cf,uf,tf,y,hj,rfl,hl,g3,g10,g97,g98,hsb⟩
 obtain⟨tg,rfl⟩:=W7 hl g3 g10 g97 g98
 clear hl g3 g10 g97 g98
 refine zu hsb ?_
 clear hsb L0
 refine O0 3 J (z0 (fun h99=> ?_) (fun h99=> ?_))
 ·have hjn:jj<cpus.toNat:=by omega
  refine Z 8 J (uw (K:=zP uJ 1) (q6 y.cv ((List.range jj).map cf)) fun hcv=> ?_)
  replace hcv:=uK hcv
  refine Z 3 J (zO [0,0,2,6,14,0,0,96,224,510,1023,2047,4095] [([0,1,2,3,4,5,6],[4,5],some 7),([8],[4],some 9),([10,11],[],some 12),([],[],none)] (by kernel_rfl) ?_)
  refine z4 (ZK 3 J (zj J Y (jS J Y (wt (L:=(KL.mk m p sw n37 n40 n41 n44 cf uf tf)) (S:=KT) (y:=y)) (Vl J Y Y J J (ZK 1 J (z5 ⟨(uY J Y (wt (L:=(KL.mk m p sw n37 n40 n41 n44 cf uf tf)) (S:=KT) (y:=y)) J (z3 _ hcv) (YC J Y Y J J J (z3 _ rfl) z6)),?_⟩))))))
  refine o_call (lj _ fr cpus kpti inv (jj:Nat)) rfl (fun _=>rfl) ?_
  rintro _ _ ⟨n108,un108,t108,rfl,rfl⟩
  refine zF (z4 (va (cs:= [_]) rfl rfl rfl (by decide) rfl fun i109=> ?_))
  refine z5 ⟨(uY J Y (wt (L:=(KL.mk m p sw n37 n40 n41 n44 cf uf tf)) (S:=KT) (y:=y)) J (z3 _ hcv) z6),?_⟩
  refine gV rfl rfl rfl rfl rfl rfl rfl ([n108]) rfl rfl (by simp) (by rw [List.length_map,List.length_range];omega) rfl fun i110 q110 c110=> ?_
  refine zF (z4 (ZK 1 J (zj J Y (z5 ⟨z6,?_⟩))))
  refine sF J Y J J (zF (z4 (z5 ⟨z6,?_⟩)))
  refine OX 1 J (ad J (Z 2 J ?_))
  exact Or.inl ⟨rfl,_,by omega,jj+1,(fun d=>if d=jj then n108 else cf d),(fun d=>if d=jj then un108 else uf d),(fun d=>if d=jj then t108 else tf d),KY.mk (AVal.slice (some (i110,q110)) (((List.range jj).map cf).length+1) c110 1) y.a y.v y.cd y.ch,by omega,rfl,rfl,rfl,rfl,rfl,rfl,(Sub.trans (Sub.one (K:=zI) (a:=i46) (K2:=zI) (a2:=i46) (x2:=(18,vK (kF (KL.mk m p sw n37 n40 n41 n44 cf uf tf) KT y) 13 (AVal.slice (some (i110,q110)) (((List.range jj).map cf).length+1) c110 1))) fun _ e=>e) (Sub.trans (Sub.one (K:=vv) (a:=n108) (K2:=vv) (a2:=n108) (x2:=u4.mk KT.fr KT.cpus KT.kpti KT.inv (jj:Nat) un108 (yB.mk (jj:Nat) 0 0 t108 [])) fun _ e=>by rw [hB.fr,hB.cpus,hB.kpti,hB.inv];exact e) (Sub.trans Y (rG (k:=i46) (c:=n108) (u:=un108) (t:=t108) (n:=jj) (L:=(KL.mk m p sw n37 n40 n41 n44 cf uf tf)) (S:=KT) (y:=y) (cv:=(AVal.slice (some (i110,q110)) (((List.range jj).map cf).length+1) c110 1)) (R:=ent z8 i8 (Uc ⟨fr,cpus,kpti,inv,m,p,sw,3,13⟩)::ent z8 i3 (AVal.agg (jW fr cpus kpti inv)).cells::ent (zP W8 1) sv secret::ent (zP vd 1) cv ((List.range cs.length).map vs)::ent (zG jK) 0 (List.range cs.length,fun i=>(vs i,cs.getD i []))::R) (by rw [hB.U])))))⟩
 refine Z 4 J (Or.inr ⟨nofun,?_⟩)
 refine OX 3 J (fa J Y (ld J Y J (Z 3 J ?_)))
 obtain rfl:jj=KT.Q.n:=by omega
 refine zu (Sub.trans (M:=yE i46 (KL.mk m p sw n37 n40 n41 n44 cf uf tf) KT y (ent z8 i8 (Uc ⟨fr,cpus,kpti,inv,m,p,sw,3,13⟩)::ent z8 i3 (AVal.agg (jW fr cpus kpti inv)).cells::ent (zP W8 1) sv secret::ent (zP vd 1) cv ((List.range cs.length).map vs)::ent (zG jK) 0 (List.range cs.length,fun i=>(vs i,cs.getD i []))::R)) Y yT) ?_
 refine zl (fun j T LZ=> ∃(jj:Nat),(jj≤cpus.toNat)∧j=cpus.toNat-jj∧T.len=9∧Tm.get 10 T=some (vp i46 0)∧Tm.get 115 T=some (vi cpus)∧Tm.get 116 T=some (vi (jj:Nat))∧Sub LZ (ent zp i46 ((KL.mk m p sw n37 n40 n41 n44 cf uf tf),KT.startTo jj)::ent z8 i8 (Uc ⟨fr,cpus,kpti,inv,m,p,sw,3,13⟩)::ent z8 i3 (AVal.agg (jW fr cpus kpti inv)).cells::ent (zP W8 1) sv secret::ent (zP vd 1) cv ((List.range cs.length).map vs)::ent (zG jK) 0 (List.range cs.length,fun i=>(vs i,cs.getD i []))::R)) (cpus.toNat) ⟨0,by omega,by omega,rfl,rfl,rfl,rfl,(show Px.Sub _ (ent zp i46 ((KL.mk m p sw n37 n40 n41 n44 cf uf tf),KT)::ent z8 i8 (Uc ⟨fr,cpus,kpti,inv,m,p,sw,3,13⟩)::ent z8 i3 (AVal.agg (jW fr cpus kpti inv)).cells::ent (zP W8 1) sv secret::ent (zP vd 1) cv ((List.range cs.length).map vs)::ent (zG jK) 0 (List.range cs.length,fun i=>(vs i,cs.getD i []))::R)from Y)⟩ ?_
 rintro j T L0 ⟨jj,hj,rfl,hl,g10,g115,g116,hsb⟩
 obtain⟨tg,rfl⟩:=sA hl g10 g115 g116
 clear hl g10 g115 g116
 refine zu hsb ?_
 clear hsb L0
 refine O0 3 J (z0 (fun h117=> ?_) (fun h117=> ?_))
 ·have hjn:jj<cpus.toNat:=by omega
  obtain⟨hoks,hgs,hns⟩:=WQ hok jj (by omega)
  obtain⟨TS,hTS⟩: ∃TS,TS=KT.startTo jj:=⟨_,rfl⟩
  rw [←hTS]at hoks hgs hns ⊢
  have hcj:jj<TS.Q.n:=by omega
  have hok1:=hoks.pick hcj
  have hc1j:jj<(TS.pick jj).Q.n:=by { show jj<(TS.Q.pick jj).2.n;rw [zV.pick_n];exact hcj }
  have hg1:(TS.pick jj).N.gen≤4611686018427387000:=by { show TS.N.gen≤_;omega }
  refine Z 13 J (qw (zr i46 (KL.mk m p sw n37 n40 n41 n44 cf uf tf) TS) fun y9 _=> ?_)
  dsimp only [yE,List.cons_append,List.nil_append]
  refine Z 2 J (fa J Y (lf J Y (Q7 (L:=(KL.mk m p sw n37 n40 n41 n44 cf uf tf)) (S:=TS) (y:=y9)) (Z 1 J (Z1 (Qv _ _ TS.Q (jj:Nat)) J Y (zR (Sub.trans ?_ (vP (k:=i46) (R:=ent z8 i8 (Uc ⟨fr,cpus,kpti,inv,m,p,sw,3,13⟩)::ent z8 i3 (AVal.agg (jW fr cpus kpti inv)).cells::ent (zP W8 1) sv secret::ent (zP vd 1) cv ((List.range cs.length).map vs)::ent (zG jK) 0 (List.range cs.length,fun i=>(vs i,cs.getD i []))::R) (L:=(KL.mk m p sw n37 n40 n41 n44 cf uf tf)) (S:=TS) (S':=TS.pick jj) (y:=y9) (y':=y9) (zV.pick_n _ _) (fun _=>rfl) rfl rfl (show kF (KL.mk m p sw n37 n40 n41 n44 cf uf tf) TS y9=kF (KL.mk m p sw n37 n40 n41 n44 cf uf tf) (TS.pick jj) y9 from rfl))) ?_)))))
  ·exact Y
  refine Z 4 J (Z1 (vo _ i46 (KL.mk m p sw n37 n40 n41 n44 cf uf tf) (TS.pick jj) jj hc1j hok1.runs hg1) J Y (Z 2 J (ad J (Z 2 J ?_))))
  exact Or.inl ⟨rfl,_,by omega,jj+1,by omega,rfl,rfl,rfl,rfl,rfl,(by show Px.Sub _ (ent zp i46 ((KL.mk m p sw n37 n40 n41 n44 cf uf tf),((KT.startTo jj).pick jj).leave jj)::ent z8 i8 (Uc ⟨fr,cpus,kpti,inv,m,p,sw,3,13⟩)::ent z8 i3 (AVal.agg (jW fr cpus kpti inv)).cells::ent (zP W8 1) sv secret::ent (zP vd 1) cv ((List.range cs.length).map vs)::ent (zG jK) 0 (List.range cs.length,fun i=>(vs i,cs.getD i []))::R);rw [←hTS];exact Y)⟩
 refine Z 4 J (Or.inr ⟨nofun,?_⟩)
 refine OX 7 J (qO J J J J ?_)
 have hjn:jj=cpus.toNat:=by omega
 subst hjn
 rw [show jD fr cpus kpti inv secret cs=(0,some (KT.startTo cpus.toNat))by unfold jD;rw [if_neg (by rw [hb];nofun),if_neg hgood,hTT]]
 exact⟨_,⟨i46,(KL.mk m p sw n37 n40 n41 n44 cf uf tf),rfl,rfl⟩,Sub.trans (M:=ent zp i46 ((KL.mk m p sw n37 n40 n41 n44 cf uf tf),KT.startTo cpus.toNat)::ent (zP W8 1) sv secret::ent (zP vd 1) cv ((List.range cs.length).map vs)::ent (zG jK) 0 (List.range cs.length,fun i=>(vs i,cs.getD i []))::R) Y (Sub.keep (Sub.keep (Sub.mk2 (vZ (vs:=vs)) (Sub.refl _))))⟩
structure KS.K (o:Nat) (S T:KS):Prop where
 n:T.Q.n=S.Q.n
 on:T.Q.on o=S.Q.on o
 pr: ∀p:Nat,S.Q.on o=(p:Int)→T.pr p=S.pr p
 root:(T.U o).root=(S.U o).root
 gen:S.N.gen≤T.N.gen
 pcid:(T.U o).pcid=(S.U o).pcid∨S.N.gen<T.N.gen
def KS.Rt (S:KS) (d:Nat):Prop:= ∀(p:Nat) (x:yg),S.Q.on d=(p:Int)→S.pr p=some x→(S.U d).root=(x.S.user:Nat)
section
variable {S T V:KS} {b o c p:Nat} {x:yg}
theorem KS.K.refl (o:Nat) (S:KS):S.K o S:=⟨rfl,rfl,fun _ _=>rfl,rfl,Int.le_refl _,.inl rfl⟩
theorem KS.K.trans (h:KS.K o S T) (k:KS.K o T V):KS.K o S V:=
 ⟨k.n.trans h.n,k.on.trans h.on,fun p hp=>(k.pr p (h.on.trans hp)).trans (h.pr p hp),k.root.trans h.root,Int.le_trans h.gen k.gen,by
  have h1:=h.gen
  have k1:=k.gen
  rcases h.pcid with h2|h2
  ·rcases k.pcid with k2|k2
   ·exact .inl (k2.trans h2)
   exact .inr (by omega)
  exact .inr (by omega)⟩
theorem KS.K.rt (h:KS.K o S T) (hr:S.Rt o):T.Rt o:=fun p x hp hx=>by
 rw [h.root];exact hr p x (h.on.symm.trans hp) ((h.pr p (h.on.symm.trans hp)).symm.trans hx)
theorem QK {Q:zV} {c:Nat} (h:c<Q.n):Q.cpu (c:Nat)=Q.on c:=if_pos (by omega)
theorem m0 (hc:o≠c) (u:fQ):KS.K o S (S.setU c u):=by
 have e:(S.setU c u).U o=S.U o:=if_neg hc
 exact⟨rfl,rfl,fun _ _=>rfl,by rw [e],Int.le_refl _,.inl (by rw [e])⟩
theorem cE (hc:o≠c) (xs:List vB) (H:zw):KS.K o S (S.setX c xs H):=by
 have e:(S.setX c xs H).U o=S.U o:=if_neg hc
 exact⟨rfl,rfl,fun _ _=>rfl,by rw [e],Int.le_refl _,.inl (by rw [e])⟩
theorem l7 (j:Nat):KS.K o S (S.bareTo j):=by
 have e:((S.bareTo j).U o).root=(S.U o).root∧((S.bareTo j).U o).pcid=(S.U o).pcid:=by
  show((if o<j then { S.U o with xs:= [] } else S.U o:fQ)).root=_∧((if o<j then { S.U o with xs:= [] } else S.U o:fQ)).pcid=_
  split<;>exact⟨rfl,rfl⟩
 exact⟨rfl,rfl,fun _ _=>rfl,e.1,Int.le_refl _,.inl e.2⟩
theorem Dk {N:zW} (h:N.gen=S.N.gen):KS.K o S { S with N:=N } :=⟨rfl,rfl,fun _ _=>rfl,rfl,by show S.N.gen≤N.gen;omega,.inl rfl⟩
theorem JY (p:Nat):KS.K o S (S.flush p):=Dk (S.N.mustAll_n _).2
theorem Jt (p:Nat) (z:Int):KS.K o S (S.done p z).2:=by
 unfold KS.done;dsimp only;split
 ·exact JY p
 exact .refl o S
theorem WV (hp:S.Q.on o≠(p:Int)) (y:Option yg):KS.K o S (S.setP p y):=
 ⟨rfl,rfl,fun q hq=>if_neg (fun e=>hp (by rw [hq,e])),rfl,Int.le_refl _,.inl rfl⟩
theorem Y7 (hp:S.Q.on o≠(p:Int)) (x:yg) (v:z7):KS.K o S (S.putV p x v):=
 ⟨rfl,rfl,fun q hq=>if_neg (fun e=>hp (by rw [hq,e])),rfl,Int.le_refl _,.inl rfl⟩
theorem om (hp:S.Q.on o≠(p:Int)) (f:yg→yg):KS.K o S (S.upP p f):=
 ⟨rfl,rfl,fun q hq=>if_neg (fun e=>hp (by rw [hq,e])),rfl,Int.le_refl _,.inl rfl⟩
theorem Ci (H:zw) (M:zA):KS.K o S { S with H:=H,M:=M } :=⟨rfl,rfl,fun _ _=>rfl,rfl,Int.le_refl _,.inl rfl⟩
theorem k6 (hc:c<S.Q.n) (ho:o≠c):KS.K o S (S.pick c):=⟨zV.pick_n _ _,(S.Q.pick_on c hc).1 o ho,fun _ _=>rfl,rfl,Int.le_refl _,.inl rfl⟩
theorem Ar (q:Int):KS.K o S { S with Q:=S.Q.wake q } :=by
 have e:(S.Q.wake q).n=S.Q.n∧(S.Q.wake q).on o=S.Q.on o:=by unfold zV.wake;split<;>exact⟨rfl,rfl⟩
 exact⟨e.1,e.2,fun _ _=>rfl,rfl,Int.le_refl _,.inl rfl⟩
theorem ig (h:S.Okk b) (ho:o<S.Q.n) (hx:S.pr p=some x) (hp:S.Q.on o≠(p:Int)):KS.K o S (S.exit p x):=by
 have hl:=h.lt hx
 have ha:S.Q.alive (p:Nat)=true:=by rw [h.alive hl,hx];rfl
 refine⟨zV.fin_n _ _,?_,fun q hq=>if_neg (fun e=>hp (by rw [hq,e])),rfl,?_,.inl rfl⟩
 ·show(S.Q.fin (p:Nat)).on o=_
  rw [S.Q.fin_on h.q p ha o ho,if_neg hp]
 show S.N.gen≤(S.N.drop p).gen
 rw [(S.N.drop_n _).2];exact Int.le_refl _
theorem AL (h:S.Okk b) (ho:o<S.Q.n) (hx:S.pr p=some x) (hp:S.Q.on o≠(p:Int)) (i:yl):KS.K o S (S.fork p x i).2:=by
 unfold KS.fork
 cases hf:S.free with
 |none=>exact .refl o S
 |some q=>
  have hq:S.Q.on o≠(q:Int):=fun e=>by
   have hr:=h.runs o ho (by rw [QK ho,e];omega)
   obtain⟨_,y,hy⟩:=hr
   rw [QK ho,e]at hy
   have:(S.pr q).isSome=true:=by rw [show((q:Nat):Int).toNat=q from rfl]at hy;rw [hy];rfl
   rw [((gz (S:=S) (i:=0) (k:=4)).1 q hf).2.2.1]at this
   cases this
  dsimp only
  rcases hv:z7.fork (S.vs x) S.W0 (q:Nat)with⟨bad,_|⟨cf,cS⟩,v⟩
  ·exact Y7 hp x v
  dsimp only
  refine(Y7 hp x v).trans ((WV (p:=q) (S:=S.putV p x v) hq _).trans ((Ar (q:Nat)).trans (JY p)))
theorem lS (h:S.Okk b) (ho:o<S.Q.n) (hx:S.pr p=some x) (hp:S.Q.on o≠(p:Int)) (i:yl):KS.K o S (S.answer p x i).2:=by
 unfold KS.answer
 split
 ·exact(Y7 hp x _).trans (Jt p _)
 split
 ·exact(Y7 hp x _).trans (Jt p _)
 split
 ·exact(Y7 hp x _).trans (Jt p _)
 split
 ·exact(Y7 hp x _).trans (Jt p _)
 split
 ·exact AL h ho hx hp i
 split
 ·split
  ·exact⟨rfl,rfl,fun _ _=>rfl,rfl,Int.le_refl _,.inl rfl⟩
  exact .refl o S
 split
 ·split
  ·exact .refl o S
  exact⟨rfl,rfl,fun _ _=>rfl,rfl,Int.le_refl _,.inl rfl⟩
 exact .refl o S
theorem sa (h:S.Okk b) (ho:o<S.Q.n) (hx:S.pr p=some x) (hp:S.Q.on o≠(p:Int)) (i:yl):KS.K o S (S.call1 p x i):=by
 unfold KS.call1
 split
 ·exact ig h ho hx hp
 have k:=lS h ho hx hp i
 exact k.trans (om (by rw [k.on];exact hp) _)
theorem Vp (hc:o≠c) (p:Nat) (x:yg):KS.K o S (S.enter c p x):=m0 hc _
theorem sg (h:S.Okk b) (ho:o<S.Q.n) (hc:c<S.Q.n) (hoc:o≠c) (hx:S.pr p=some x) (hp:S.Q.on o≠(p:Int)) (i:yl):KS.K o S (S.call2 c p x i):=by
 have k:=(Vp (S:=S) hoc p x).trans (sa (h.enter c p x) (p:=p) (x:=x) (o:=o) ho hx hp i)
 unfold KS.call2
 split
 ·exact k.trans (k6 (by rw [k.n];exact hc) hoc)
 exact k
theorem rv (hoc:o≠c) (hp:S.Q.on o≠(p:Int)) (at_:Nat) (write:Bool):KS.K o S (S.fault2 c p x at_ write):=by
 unfold KS.fault2
 split
 ·exact(Vp hoc p x).trans ((Y7 (S:=S.enter c p x) hp x _).trans (om (by exact hp) _))
 exact(Vp hoc p x).trans ((Y7 (S:=S.enter c p x) hp x _).trans (JY p))
theorem Qe (hoc:o≠c):KS.K o S (S.leaveP c):=by
 unfold KS.leaveP
 split
 ·rename_i x hx
  have hg:((S.N.ask (S.Q.cpu c).toNat).2.2.take c (S.N.ask (S.Q.cpu c).toNat).1).2.gen=(S.N.ask (S.Q.cpu c).toNat).2.2.gen:=zW.take_gen _ _ _
  have hge:S.N.gen≤((S.N.ask (S.Q.cpu c).toNat).2.2.take c (S.N.ask (S.Q.cpu c).toNat).1).2.gen:=by
   rw [hg,zW.ask_gen];split<;>omega
  have e:(S.leave1 c (S.Q.cpu c).toNat x).U o=S.U o:=if_neg hoc
  exact⟨rfl,rfl,fun _ _=>rfl,by rw [e],hge,.inl (by rw [e])⟩
 exact .refl o S
theorem xh (h:S.Okk b) (hc:c<S.Q.n) (h0:0≤S.Q.cpu c) (ht:S.told (S.Q.cpu c).toNat=true):S.N.gen<(S.leaveP c).N.gen:=by
 obtain⟨_,x,hx⟩:=h.runs c hc h0
 unfold KS.leaveP
 rw [hx]
 show S.N.gen<((S.N.ask (S.Q.cpu c).toNat).2.2.take c (S.N.ask (S.Q.cpu c).toNat).1).2.gen
 rw [zW.take_gen,zW.ask_gen]
 unfold KS.told at ht
 rw [if_pos ht]
 omega
structure KS.K0 (o:Nat) (S T:KS):Prop where
 q:T.Q=S.Q
 pr:T.pr=S.pr
 root:(T.U o).root=(S.U o).root
 gen:S.N.gen≤T.N.gen
theorem KS.K0.rt (h:KS.K0 o S T) (hr:S.Rt o):T.Rt o:=fun p x hp hx=>by rw [h.root];exact hr p x (by rw [←h.q];exact hp) (by rw [←h.pr];exact hx)
theorem KS.K0.trans (h:KS.K0 o S T) (k:KS.K0 o T V):KS.K0 o S V:=⟨k.q.trans h.q,k.pr.trans h.pr,k.root.trans h.root,Int.le_trans h.gen k.gen⟩
theorem V7 (h0:0≤S.Q.cpu c) (hc:c<S.Q.n) (hx:S.pr (S.Q.cpu c).toNat=some x):((S.leaveP c).U c).root=(x.S.user:Nat):=by
 unfold KS.leaveP
 rw [hx]
 show(if c=c then _ else _:fQ).root=_
 rw [if_pos rfl]
theorem f6 (d:Nat) (hr:S.Rt o) (hn:o<S.Q.n) (h0:0≤S.Q.cpu d):KS.K0 o S (S.leaveP d):=by
 have e:=gA S d
 by_cases hod:o=d
 ·subst hod
  refine⟨e.2.1,e.2.2.1,?_,?_⟩
  ·cases hx:S.pr (S.Q.cpu o).toNat with
   |none=>unfold KS.leaveP;rw [hx]
   |some x=>
    rw [V7 h0 hn hx]
    have e1:=QK hn
    exact(hr (S.Q.cpu o).toNat x (by rw [←e1];omega) hx).symm
  unfold KS.leaveP
  split
  ·show S.N.gen≤((S.N.ask _).2.2.take o (S.N.ask _).1).2.gen
   rw [zW.take_gen,zW.ask_gen];split<;>omega
  exact Int.le_refl _
 have k:=Qe (S:=S) (c:=d) hod
 exact⟨e.2.1,e.2.2.1,k.root,k.gen⟩
theorem nw (c i:Nat) (hr:S.Rt o) (hn:o<S.Q.n):KS.K0 o S (S.others c i):=by
 unfold KS.others
 split
 ·rename_i h
  exact f6 i hr hn h.2
 exact⟨rfl,rfl,rfl,Int.le_refl _⟩
theorem sW (c:Nat): ∀(l:List Nat) {S:KS},S.Rt o→o<S.Q.n→KS.K0 o S (l.foldl (fun S i=>S.others c i) S):=by
 intro l
 induction l with
 |nil=>intro S _ _;exact⟨rfl,rfl,rfl,Int.le_refl _⟩
 |cons i l ih=>
  intro S hr hn
  have k:=nw (S:=S) c i hr hn
  exact k.trans (ih (k.rt hr) (by rw [k.q];exact hn))
theorem Yi (h:S.Okk b) (hc:c<S.Q.n) (ho:o<S.Q.n) (hoc:o≠c) (hr:S.Rt o):KS.K o S (S.leave c):=by
 unfold KS.leave
 split
 ·exact m0 hoc _
 split
 ·rename_i h0 ht
  have hg:=xh h hc (by omega) ht
  have k1:=Qe (S:=S) (c:=c) hoc
  have k2:=k1.trans (l7 (S:=S.leaveP c) (S.leaveP c).Q.n)
  have k3:=sW c (List.range S.Q.n) (S:=(S.leaveP c).bare) (k2.rt hr) (by rw [k2.n];exact ho)
  have hg3:=k3.gen
  have hg2:(S.leaveP c).bare.N.gen=(S.leaveP c).N.gen:=rfl
  exact⟨by rw [k3.q];exact k2.n,by rw [k3.q];exact k2.on,fun p hp=>by rw [k3.pr];exact k2.pr p hp,k3.root.trans k2.root,by omega,.inr (by omega)⟩
 exact Qe hoc
theorem lJ (c i:Nat):((S.others c i).U c).root=(S.U c).root∧(S.others c i).Q=S.Q∧(S.others c i).pr=S.pr:=by
 unfold KS.others
 split
 ·rename_i h
  have e:=gA S i
  exact⟨(Qe (S:=S) (c:=i) (o:=c) (Ne.symm h.1)).root,e.2.1,e.2.2.1⟩
 exact⟨rfl,rfl,rfl⟩
theorem Ag (c:Nat): ∀(l:List Nat) (S:KS),((l.foldl (fun S i=>S.others c i) S).U c).root=(S.U c).root:=by
 intro l
 induction l with
 |nil=>intro S;rfl
 |cons i l ih=>intro S;rw [List.foldl_cons,ih];exact(lJ c i).1
theorem jz (hc:c<S.Q.n):(S.leave c).Rt c:=by
 intro p x hp hx
 have e:=ui S c
 rw [e.2.1]at hp
 rw [e.2.2.1]at hx
 have ec:S.Q.cpu c=(p:Int):=(QK hc).trans hp
 have hx':S.pr (S.Q.cpu c).toNat=some x:=by rw [ec];exact hx
 have hr:=V7 (S:=S) (by omega) hc hx'
 unfold KS.leave
 rw [if_neg (by omega)]
 split
 ·rw [Ag]
  rw [←hr]
  exact(l7 (S:=S.leaveP c) (o:=c) _).root
 exact hr
theorem cJ (h:S.Okk b) (ho:o<S.Q.n) (hc:c<S.Q.n) (hoc:o≠c) (hp:S.Q.on c=(p:Int)):S.Q.on o≠(p:Int):=fun e=>hoc (h.q.ds o c ho hc (e.trans hp.symm) (by omega))
theorem tN (h:S.Okk b) (ho:o<S.Q.n) (hc:c<S.Q.n) (hoc:o≠c) (hr:S.Rt o) (hrc:S.Rt c) (hp:S.Q.on c=(p:Int)) (hx:S.pr p=some x) (z:Int) (at_:Nat) (write:Bool):
 KS.K o S (S.faulted c p x z at_ write)∧(S.faulted c p x z at_ write).Rt c:=by
 have hpo:=cJ h ho hc hoc hp
 rw [vx]
 split
 ·refine⟨WV hpo _,fun q y hq hy=> ?_⟩
  have hqp:q=p:=by have:(q:Int)=p:=hq.symm.trans hp;omega
  subst hqp
  have e:(S.setP q (some (x.fault z))).pr q=some (x.fault z):=if_pos rfl
  rw [e]at hy;cases hy
  exact hrc q x hp hx
 have k:=rv (S:=S) (x:=x) hoc hpo at_ write
 have h2:=h.fault2 hx at_ write (c:=c)
 exact⟨k.trans (Yi h2.1 (by rw [k.n];exact hc) (by rw [k.n];exact ho) hoc (k.rt hr)),jz (by rw [k.n];exact hc)⟩
theorem Vm {y:yg} (hrc:S.Rt c) (hp:S.Q.on c=(p:Int)) (hx:S.pr p=some x) (hy:y.S.user=x.S.user):(S.setP p (some y)).Rt c:=fun q w hq hw=>by
 have hqp:q=p:=by have:(q:Int)=p:=hq.symm.trans hp;omega
 subst hqp
 have e:(S.setP q (some y)).pr q=some y:=if_pos rfl
 rw [e]at hw;cases hw
 rw [hy];exact hrc q x hp hx
theorem rK (h:S.Okk b) (ho:o<S.Q.n) (hc:c<S.Q.n) (hoc:o≠c) (hr:S.Rt o) (hrc:S.Rt c) (hp:S.Q.on c=(p:Int)) (hx:S.pr p=some x) (i:yl):
 KS.K o S (S.memory c p x i)∧(S.memory c p x i).Rt c:=by
 have hpo:=cJ h ho hc hoc hp
 unfold KS.memory
 dsimp only
 generalize ht:(S.mm c).trans S.M S.H true (decide (i.op=4)) (vA x.w i)=r
 have hH:r.2.2.n=S.H.n:=by
  have:=(vT (S.mm c) S.M S.H true (decide (i.op=4)) (vA x.w i) 0).2.1
  rw [ht]at this
  exact this
 have k1:KS.K o S (S.setX c r.2.1.xs r.2.2):=cE hoc _ _
 have hrc1:(S.setX c r.2.1.xs r.2.2).Rt c:=fun q y hq hy=>by
  show(if c=c then { S.U c with xs:=r.2.1.xs } else S.U c:fQ).root=_
  rw [if_pos rfl];exact hrc q y hq hy
 have hro:=k1.rt hr
 split
 ·have k2:=tN (h.setX c r.2.1.xs hH) ho hc hoc hro hrc1 hp hx r.1.2 (vA x.w i) (decide (i.op=4))
  exact⟨k1.trans k2.1,k2.2⟩
 split
 ·exact⟨k1.trans ((Ci (S:=S.setX c r.2.1.xs r.2.2) _ _).trans (WV (by exact hpo) _)),Vm (S:= { S.setX c r.2.1.xs r.2.2 with H:=_ }) hrc1 hp hx rfl⟩
 split
 ·exact⟨k1.trans ((Ci (S:=S.setX c r.2.1.xs r.2.2) _ _).trans (WV (by exact hpo) _)),Vm (S:= { S.setX c r.2.1.xs r.2.2 with H:=_,M:=_ }) hrc1 hp hx rfl⟩
 exact⟨k1.trans ((Ci (S:=S.setX c r.2.1.xs r.2.2) _ _).trans (WV (by exact hpo) _)),Vm (S:= { S.setX c r.2.1.xs r.2.2 with H:=_ }) hrc1 hp hx rfl⟩
theorem oP (h:S.Okk b) (ho:o<S.Q.n) (hc:c<S.Q.n) (hoc:o≠c) (hr:S.Rt o) (hrc:S.Rt c) (hp:S.Q.on c=(p:Int)) (hx:S.pr p=some x) (i:yl):
 KS.K o S (S.instr c p x i)∧(S.instr c p x i).Rt c:=by
 have hpo:=cJ h ho hc hoc hp
 unfold KS.instr
 split
 ·rw [W6]
  have k:=sg h ho hc hoc hx hpo i
  exact⟨k.trans (Yi (h.call2 hc hx i).1 (by rw [k.n];exact hc) (by rw [k.n];exact ho) hoc (k.rt hr)),jz (by rw [k.n];exact hc)⟩
 split
 ·exact rK h ho hc hoc hr hrc hp hx i
 exact⟨WV hpo _,Vm hrc hp hx rfl⟩
theorem cz (h:S.Okk b) (ho:o<S.Q.n) (hc:c<S.Q.n) (hoc:o≠c) (hr:S.Rt o) (hrc:S.Rt c) (h0:0≤S.Q.cpu c):KS.K o S (S.runP c).2∧(S.runP c).2.Rt c:=by
 unfold KS.runP
 split
 ·exact⟨.refl o S,hrc⟩
 rename_i x hx
 split
 ·exact⟨.refl o S,hrc⟩
 exact oP h ho hc hoc hr hrc (by rw [←QK hc];omega) hx _
theorem Bj (h:S.Okk b) (ho:o<S.Q.n) (hc:c<S.Q.n) (hoc:o≠c) (hr:S.Rt o) (hrc:S.Rt c):KS.K o S (S.run c).2∧(S.run c).2.Rt c:=by
 unfold KS.run
 split
 ·have k1:=k6 (S:=S) hc hoc
  have hc1:c<(S.pick c).Q.n:=by rw [k1.n];exact hc
  have ho1:o<(S.pick c).Q.n:=by rw [k1.n];exact ho
  split
  ·rename_i hneg
   refine⟨k1,fun q y hq hy=> ?_⟩
   have:=(S.Q.pick_on c hc).2.1
   have hq':(S.Q.pick c).2.on c=(q:Int):=hq
   omega
  rename_i hpos
  have h1:=h.pick hc
  have k2:=k1.trans (Yi h1 hc1 ho1 hoc (k1.rt hr))
  have hc2:c<((S.pick c).leave c).Q.n:=by rw [k2.n];exact hc
  have ho2:o<((S.pick c).leave c).Q.n:=by rw [k2.n];exact ho
  have e:=ui (S.pick c) c
  have k3:=cz (h1.leave c) ho2 hc2 hoc (k2.rt hr) (jz hc1) (by
   rw [QK hc2,e.2.1]
   show 0≤(S.Q.pick c).2.on c
   rw [(S.Q.pick_on c hc).2.1];omega)
  exact⟨k2.trans k3.1,k3.2⟩
 exact cz h ho hc hoc hr hrc (by omega)
theorem xx (hoc:o≠c) (z:Int):KS.K o S (S.enterP c z):=by
 unfold KS.enterP;split
 ·exact Vp hoc _ _
 exact .refl o S
theorem AC (h:S.Okk b) (ho:o<S.Q.n) (hc:c<S.Q.n) (hoc:o≠c) (hr:S.Rt o):KS.K o S (S.tick c)∧(S.tick c).Rt c:=by
 have k1:=k6 (S:=S) hc hoc
 unfold KS.tick
 have key: ∀T:KS,T.Okk b→KS.K o S T→KS.K o S (T.leave c)∧(T.leave c).Rt c:=fun T hT kT=>
  ⟨kT.trans (Yi hT (by rw [kT.n];exact hc) (by rw [kT.n];exact ho) hoc (kT.rt hr)),jz (by rw [kT.n];exact hc)⟩
 split
 ·exact key _ ((h.pick hc).enterP c _) (k1.trans (xx hoc _))
 exact key _ (h.pick hc) k1
theorem aj (hoc:o≠c) (f w:Int):KS.K o S (S.warm1 c f w).2:=by
 unfold KS.warm1
 split
 ·dsimp only
  split<;>exact cE hoc _ _
 exact .refl o S
theorem Aw (h:S.Okk b) (ho:o<S.Q.n) (hc:c<S.Q.n) (hoc:o≠c) (hr:S.Rt o) (hrc:S.Rt c) (f w:Int):KS.K o S (S.warm c f w).2∧(S.warm c f w).2.Rt c:=by
 unfold KS.warm
 split
 ·exact⟨.refl o S,hrc⟩
 have k:=(xx (S:=S) hoc (S.Q.cpu c)).trans (aj hoc f w)
 exact⟨k.trans (Yi ((h.enterP c _).warm1 c f w) (by rw [k.n];exact hc) (by rw [k.n];exact ho) hoc (k.rt hr)),jz (by rw [k.n];exact hc)⟩
theorem cI (h:S.Okk b) (ho:o<S.Q.n) (hc:c<S.Q.n) (hoc:o≠c) (hr:S.Rt o) (hrc:S.Rt c) (x:wN):KS.K o S (S.stepAt c x).2∧(S.stepAt c x).2.Rt c:=by
 unfold KS.stepAt
 split
 ·exact Bj h ho hc hoc hr hrc
 split
 ·exact AC h ho hc hoc hr
 split
 ·exact⟨Ci (S:=S) _ S.M,hrc⟩
 split
 ·unfold KS.forget
  split
  ·refine⟨m0 hoc _,fun q y hq hy=> ?_⟩
   show(if c=c then { S.U c with xs:=_ } else S.U c:fQ).root=_
   rw [if_pos rfl];exact hrc q y hq hy
  exact⟨.refl o S,hrc⟩
 split
 ·exact Aw h ho hc hoc hr hrc _ _
 split
 ·split
  ·exact⟨.refl o S,hrc⟩
  exact⟨Ci (S:=S) _ S.M,hrc⟩
 exact⟨.refl o S,hrc⟩
theorem bD (h:S.Okk b) (hx:S.pr p=some x) (z:Int) (at_:Nat) (write:Bool):(S.faulted c p x z at_ write).N.gen≤S.N.gen+3:=by
 rw [vx]
 split
 ·show S.N.gen≤_;omega
 have h2:=h.fault2 hx at_ write (c:=c)
 have:=uE h2.1 c
 omega
theorem nj (h:S.Okk b) (hc:c<S.Q.n) (hx:S.pr p=some x) (i:yl):(S.instr c p x i).N.gen≤S.N.gen+3:=by
 unfold KS.instr
 split
 ·rw [W6]
  have h2:=h.call2 hc hx i
  have:=uE h2.1 c
  omega
 split
 ·unfold KS.memory
  dsimp only
  split
  ·have hH:=(vT (S.mm c) S.M S.H true (decide (i.op=4)) (vA x.w i) 0).2.1
   exact bD (h.setX c _ hH) (p:=p) (x:=x) hx _ _ _
  split
  ·show S.N.gen≤_;omega
  split<;>(show S.N.gen≤_;omega)
 show S.N.gen≤_;omega
theorem bQ (h:S.Okk b) (hc:c<S.Q.n):(S.runP c).2.N.gen≤S.N.gen+3:=by
 unfold KS.runP
 split
 ·show S.N.gen≤_;omega
 rename_i x hx
 split
 ·show S.N.gen≤_;omega
 exact nj h hc hx _
theorem Uv (h:S.Okk b) (x:wN):(S.step x).2.N.gen≤S.N.gen+6:=by
 unfold KS.step
 split
 case isFalse=>show S.N.gen≤_;omega
 rename_i hcp
 have hc:x.cpu.toNat<S.Q.n:=by omega
 generalize x.cpu.toNat=c at hc
 unfold KS.stepAt
 split
 ·unfold KS.run
  split
  ·split
   ·show S.N.gen≤_;omega
   have h1:=h.pick hc
   have e:=ui (S.pick c) c
   have g1:=uE h1 c
   have g2:=bQ (S:=(S.pick c).leave c) (c:=c) (h1.leave c) (by rw [e.2.1];show c<(S.Q.pick c).2.n;rw [zV.pick_n];exact hc)
   have g0:(S.pick c).N.gen=S.N.gen:=rfl
   show((S.pick c).leave c|>.runP c).2.N.gen≤_
   omega
  have:=bQ (S:=S) (c:=c) h hc
  omega
 split
 ·unfold KS.tick
  have e: ∀(T:KS) z,(T.enterP c z).N.gen=T.N.gen:=by intro T z;unfold KS.enterP;split<;>rfl
  dsimp only
  split
  ·have:=uE ((h.pick hc).enterP c (S.Q.cpu c)) c
   rw [e]at this
   have g0:(S.pick c).N.gen=S.N.gen:=rfl
   omega
  have:=uE (h.pick hc) c
  have g0:(S.pick c).N.gen=S.N.gen:=rfl
  omega
 split
 ·show S.N.gen≤_;omega
 split
 ·unfold KS.forget
  split<;>(show S.N.gen≤_;omega)
 split
 ·unfold KS.warm
  split
  ·show S.N.gen≤_;omega
  have g:=uE ((h.enterP c (S.Q.cpu c)).warm1 c x.a x.b) c
  have e:((S.enterP c (S.Q.cpu c)).warm1 c x.a x.b).2.N.gen=S.N.gen:=by
   have e1: ∀(T:KS) z,(T.enterP c z).N.gen=T.N.gen:=by intro T z;unfold KS.enterP;split<;>rfl
   unfold KS.warm1
   split
   ·dsimp only;split<;>exact e1 S _
   exact e1 S _
  dsimp only
  omega
 split
 ·split<;>(show S.N.gen≤_;omega)
 show S.N.gen≤_;omega
theorem pB (h:S.Okk b) (h2:S.Q.n=2) (hr: ∀d,d<2→S.Rt d) (x:wN):(∀o:Nat,o<2→(o:Int)≠x.cpu→KS.K o S (S.step x).2)∧(S.step x).2.Q.n=2∧ ∀d,d<2→(S.step x).2.Rt d:=by
 unfold KS.step
 split
 ·rename_i hcp
  have key: ∀o:Nat,o<2→(o:Int)≠x.cpu→KS.K o S (S.stepAt x.cpu.toNat x).2∧(S.stepAt x.cpu.toNat x).2.Rt x.cpu.toNat:=fun o ho hne=>cI h (by omega) (by omega) (by omega) (hr o ho) (hr _ (by omega)) x
  obtain⟨o,ho,hne⟩: ∃o:Nat,o<2∧(o:Int)≠x.cpu:=by
   by_cases hz:x.cpu=0
   ·exact⟨1,by omega,by omega⟩
   exact⟨0,by omega,by omega⟩
  refine⟨fun o ho hne=>(key o ho hne).1,(key o ho hne).1.n.trans h2,fun d hd=> ?_⟩
  by_cases hdc:(d:Int)=x.cpu
  ·have h3:=(key o ho hne).2
   have e:x.cpu.toNat=d:=by omega
   rw [e]at h3 ⊢
   exact h3
  exact(key d hd hdc).1.rt (hr d hd)
 exact⟨fun o _ _=> .refl o S,h2,hr⟩
theorem cF {T:KS} (h:T.Okk 1): ∀j,j≤T.Q.n→ ∀d,d<j→(T.startTo j).Rt d:=by
 intro j
 induction j with
 |zero=>intro _ d hd;omega
 |succ j ih=>
  intro hj d hd
  obtain⟨h1,_,h3⟩:=WQ h j (by omega)
  have hc:j<(T.startTo j).Q.n:=by rw [h3];omega
  have hc1:j<((T.startTo j).pick j).Q.n:=by show j<((T.startTo j).Q.pick j).2.n;rw [zV.pick_n];exact hc
  show(((T.startTo j).pick j).leave j).Rt d
  by_cases hdj:d=j
  ·subst hdj;exact jz hc1
  have k1:=k6 (S:=T.startTo j) hc hdj
  have k2:=k1.trans (Yi (h1.pick hc) hc1 (by rw [k1.n,h3];omega) hdj (k1.rt (ih (by omega) d (by omega))))
  exact k2.rt (ih (by omega) d (by omega))
end
end Go.Proofs.YtlhcpplnlgehbaaGreat
namespace Go.Px
open Go Go.RowKit
structure vE where
 cs:List AVal
 b:Nat
 base:Nat
 on:Bool:=true
noncomputable def vE.obj (r:vE):Option uj:=if r.cs= []then none else some (.cells false (Tr.ofList r.cs 0 .nil) r.cs.length)
noncomputable def dZ:List vE→Nat→Tr uj
 | [],_=> .nil
 |r::l,i=>match r.obj with
  |none=>dZ l (i+1)
  |some o=>(dZ l (i+1)).set i o
theorem fZ: ∀(l:List vE) (i k:Nat),(dZ l i).get k=if i≤k then(l[k-i]?).bind vE.obj else none:=by
 intro l
 induction l with
 |nil=>intro i k;show(Tr.nil:Tr uj).get k=_;rw [Tr.get_nil];simp
 |cons r l ih=>
  intro i k
  have key:(dZ l (i+1)).get k=if i+1≤k then(l[k-(i+1)]?).bind vE.obj else none:=ih (i+1) k
  unfold dZ
  cases hr:r.obj with
  |none=>
   simp only
   rw [key]
   by_cases h:i+1≤k
   ·rw [if_pos h,if_pos (by omega),show k-i=(k-(i+1))+1 by omega,List.getElem?_cons_succ]
   rw [if_neg h]
   by_cases h2:i=k
   ·subst h2;simp [hr]
   rw [if_neg (by omega)]
  |some o=>
   simp only
   rw [Tr.get_set]
   by_cases h2:k=i
   ·subst h2;simp [hr]
   rw [if_neg h2,key]
   by_cases h:i+1≤k
   ·rw [if_pos h,if_pos (by omega),show k-i=(k-(i+1))+1 by omega,List.getElem?_cons_succ]
   rw [if_neg h,if_neg (by omega)]
def aA (ρ:Nat→Int) (l:List vE) (lim:Nat):qS:=⟨ρ,fun i=>(l[i]?).bind fun r=>if r.on then some (r.b,r.base,r.cs.length)else none,lim⟩
noncomputable def fS (l:List vE):Hp:=⟨dZ l 0,l.length⟩
theorem Vt (l:List vE) (k:Nat):(fS l).t.get k=(l[k]?).bind vE.obj:=by
 show(dZ l 0).get k=_
 rw [fZ];simp
theorem A9 (l:List vE):k7 (fS l):=by
 intro k x h
 rw [Vt]at h
 cases hk:l[k]? with
 |none=>rw [hk]at h;cases h
 |some r=>exact(List.getElem?_eq_some_iff.1 hk).1
def vE.ok (V:qS) (w:World) (r:vE):Prop:=(r.on=true→r.b<w.heap.size)∧ ∀k a,r.cs[k]? =some a→a.isCell=true∧ ∃v,w.cell? ⟨r.b,r.base+k,none⟩=some v∧zL V a v
theorem bz {w:World} {b o:Nat} {v:Value} (h:w.cell? ⟨b,o,none⟩=some v): ∃arr el fz,w.heap[b]? =some (.cells arr el fz)∧arr[o]? =some v:=by
 unfold World.cell? at h
 simp only at h
 split at h
 ·rename_i c el fz hx
  exact⟨c,el,fz,hx,by simpa using h⟩
 cases h
theorem Aq {ρ:Nat→Int} {l:List vE} {w:World} (h: ∀r,r ∈ l→r.ok (aA ρ l w.heap.size) w):zt w.heap.size w (aA ρ l w.heap.size) (fS l) w:=by
 have blk: ∀id b base S,(aA ρ l w.heap.size).blk id=some (b,base,S)→ ∃r,l[id]? =some r∧b=r.b∧base=r.base∧S=r.cs.length∧r.on=true:=by
  intro id b base S e
  cases hk:l[id]? with
  |none=>simp [aA,hk]at e
  |some r=>
   cases hon:r.on with
   |false=>simp [aA,hk,hon]at e
   |true=>
    simp only [aA,hk,hon,Option.bind_some,if_true,Option.some.injEq,Prod.mk.injEq]at e
    exact⟨r,rfl,e.1.symm,e.2.1.symm,e.2.2.symm,hon⟩
 refine⟨.refl _ _,Nat.le_refl _,fun id hid=> ?_,fun id b base S e=> ?_,fun id o b base S e1 e2=> ?_,fun id id' o o' b b' ba ba' S S' _ _ e _ _=> ?_,fun b arr el z hb e=> ?_,Nat.le_refl _⟩
 ·have hk:l[id]? =none:=List.getElem?_eq_none hid
  exact⟨by simp [aA,hk],by rw [Vt,hk];rfl⟩
 ·obtain⟨r,hr,rfl,_,_,hon⟩:=blk id b base S e
  exact(h r (List.mem_of_getElem? hr)).1 hon
 ·obtain⟨r,hr,rfl,rfl,rfl,hon⟩:=blk id b base S e2
  rw [Vt,hr]at e1
  have hro:=h r (List.mem_of_getElem? hr)
  by_cases hc:r.cs= []
  ·simp [vE.obj,hc]at e1
  simp only [vE.obj,hc,if_false,Option.bind_some,Option.some.injEq]at e1
  subst e1
  obtain⟨a0,ha0⟩: ∃a,r.cs[0]? =some a:=by
   cases hcs:r.cs with
   |nil=>exact absurd hcs hc
   |cons a _=>exact⟨a,rfl⟩
  obtain⟨_,v0,hv0,_⟩:=hro.2 0 a0 ha0
  obtain⟨arr,el,fz,hx,_⟩:=bz hv0
  refine⟨_,hx,.cells false _ _ _ _ _ arr el fz (fun h=>by cases h) (fun hB=>absurd (hro.1 hon) (Nat.not_lt.2 hB)) (fun h=>by cases h) (Nat.le_refl _) (fun h=>by cases h) (fun k a hk=> ?_)⟩
  rw [Tr.get_ofList]at hk
  split at hk
  ·rename_i hi
   simp only [Nat.sub_zero]at hk
   obtain⟨h1,v,h2,h3⟩:=hro.2 k a hk
   obtain⟨arr',el',fz',hx',hv⟩:=bz h2
   rw [hx]at hx'
   cases hx'
   exact⟨by omega,h1,v,hv,h3⟩
  rw [Tr.get_nil]at hk;cases hk
 ·obtain⟨r,hr,rfl,_,_,hon⟩:=blk id b ba S e
  exact .inr ((h r (List.mem_of_getElem? hr)).1 hon)
 have:=(Array.getElem?_eq_some_iff.1 e).1
 omega
def uh {α:Type} (en:α→List AVal) (es:Nat) (v:AVal) (xs:List α):SP:=fun h=>
 (∃a c e,v= .slice a xs.length c e)∧(∀x,(en x).length=es)∧0<es∧
 (xs≠ []→ ∃i off c rw r w,v= .slice (some (i,off)) xs.length c es∧h i=some (.cells rw r w)∧ ∀k x j,xs[k]? =some x→j<es→r.get (off+k*es+j)=(en x)[j]?)
section
variable {P:Program} {F:z9} {hook:yZ} {ops:Array Oper} {o:Oper} {l:List Oper} {T:Tm} {L R:List SP} {Q:Tm→List SP→Prop} {H:Hp}
variable {α:Type} {en:α→List AVal} {es:Nat} {xs:List α} {v:AVal}
theorem rq {h h':yc} (l:h.le h') (s:uh en es v xs h):uh en es v xs h':=
 ⟨s.1,s.2.1,s.2.2.1,fun e=>let ⟨i,off,c,rw,r,w,h1,h2,h3⟩:=s.2.2.2 e;⟨i,off,c,rw,r,w,h1,l _ _ h2,h3⟩⟩
theorem Holds.ro {κ:AVal} [t:Tk L (uh en es) κ xs R] (h:Holds L H):uh en es κ xs fun k=>H.t.get k:=by
 obtain⟨a,b,h1,h2,h3,h4,h5⟩:=t.h _ h.s
 exact rq h2 h4
theorem di (en:α→List AVal) (es:Nat) {c:Call} {t:TypeId} {ts:List TypeId} {x:Operand} {sz:Nat} [hs:SL P t sz] [Tk L (uh en es) v xs R] (ho:o.op= .call c) (hc:c.callee= .builtin .len) (ht:c.argTypes.toList=t::ts) (ha:c.args.toList= [x]) (hx:opnd T x=some v) (h:Holds L H):
 yJ P F T H o=some (.val (.int .i64 (.lit ((xs.length:Nat):Int))) H):=by
 obtain⟨a,c,e,rfl⟩:=(h.ro (en:=en) (es:=es) (κ:=v) (xs:=xs)).1
 exact wD ho hc ht ha hx
theorem Zm (en:α→List AVal) (es:Nat) {t:TypeId} {x y:Operand} {k:IntKind} {z:Int} {sz:Nat} [hs:SL P t sz] [Tk L (uh en es) v xs R] (ho:o.op= .indexAddr t x y) (hx:opnd T x=some v) (hy:opnd T y=some (.int k (.lit z))) (hz:0≤z) (hl:z<(xs.length:Nat)) (h:Holds L H):
 yJ P F T H o=some (.val (.ptr (some (o5 v,z.toNat*sz+oK v))) H):=by
 have hr:=h.ro (en:=en) (es:=es) (κ:=v) (xs:=xs)
 obtain⟨i,off,c,rw,r,w,rfl,_⟩:=hr.2.2.2 (fun e=>by subst e;simp at hl;omega)
 exact vQ ho hx hy hz hl
theorem vn (en:α→List AVal) (es:Nat) {t:TypeId} {y:Operand} {k j a:Nat} {x:α} {w:AVal} [L1 P t] [Tk L (uh en es) v xs R] (ho:o.op= .load t y) (hx:opnd T y=some (.ptr (some (o5 v,a)))) (ha:a=k*es+oK v+j) (hk:xs[k]? =some x) (hj:(en x)[j]? =some w) (h:Holds L H):yJ P F T H o=some (.val w H):=by
 have hr:=h.ro (en:=en) (es:=es) (κ:=v) (xs:=xs)
 obtain⟨i,off,c,rw,r,w',rfl,h1,h2⟩:=hr.2.2.2 (fun e=>by subst e;simp at hk)
 refine sD ho hx ?_
 show H.read1 i a=_
 unfold Hp.read1
 have h1':H.t.get i=some (.cells rw r w'):=h1
 have hjl:j<es:=by have:=(List.getElem?_eq_some_iff.1 hj).1;rw [hr.2.1]at this;exact this
 have e:a=off+k*es+j:=by rw [ha];show k*es+off+j=_;omega
 rw [h1',e]
 simp only
 rw [h2 k x j hk hjl,hj]
theorem nf {i:Nat} {cs:List AVal} {ys:List α} {c:Option Nat} (hc:cs=ys.flatMap en) (he: ∀x,(en x).length=es) (h0:0<es): ∀f,z8 i cs f→uh en es (.slice (some (i,0)) ys.length c es) ys f:=by
 intro f hf
 obtain⟨r,w,h1,h2,h3⟩:=hf
 refine⟨⟨_,_,_,rfl⟩,he,h0,fun _=>⟨i,0,c,true,r,w,rfl,h1,fun k x j hk hj=> ?_⟩⟩
 have hg:=j0 he ys k j x hk hj
 have hkl:=(List.getElem?_eq_some_iff.1 hk).1
 have hm:k*es+j<ys.length*es:=by
  have:(k+1)*es≤ys.length*es:=Nat.mul_le_mul_right es hkl
  rw [Nat.add_mul]at this;omega
 rw [Nat.zero_add,h3 _ (by rw [hc,qW he];exact hm),hc]
 exact hg
end
theorem A3 {α:Type} {en:α→List AVal} {es:Nat} {xs:List α} {l:List vE} {k:Nat} {r:vE} {c:Option Nat} (hk:l[k]? =some r) (hc:r.cs=xs.flatMap en) (he: ∀x,(en x).length=es) (h0:0<es):
 uh en es (.slice (some (k,0)) xs.length c es) xs (fun j=>if j=k then r.obj else none):=by
 refine⟨⟨_,_,_,rfl⟩,he,h0,fun hne=> ?_⟩
 have hn:r.cs≠ []:=fun e=>by
  rw [e]at hc
  have:=qW he xs
  rw [←hc]at this
  have h1:xs.length*es=0:=this.symm
  rcases Nat.mul_eq_zero.1 h1 with h|h
  ·exact hne (List.eq_nil_of_length_eq_zero h)
  omega
 refine⟨k,0,c,false,Tr.ofList r.cs 0 .nil,r.cs.length,rfl,by simp only [if_true,vE.obj,hn,if_false],fun q x j hq hj=> ?_⟩
 have hg:=j0 he xs q j x hq hj
 have hql:=(List.getElem?_eq_some_iff.1 hq).1
 have hm:q*es+j<xs.length*es:=by
  have:(q+1)*es≤xs.length*es:=Nat.mul_le_mul_right es hql
  rw [Nat.add_mul]at this;omega
 rw [Nat.zero_add,Tr.get_ofList,if_pos ⟨Nat.zero_le _,by rw [hc,qW he];omega⟩,Nat.sub_zero,hc]
 exact hg
end Go.Px
namespace Go.Proofs.YtlhcpplnlgehbaaGreat
open Go Go.RowKit Go.Px
abbrev gH (z:Int):Prop:= -9223372036854775808≤z∧z≤9223372036854775807
section
variable {P:Program} {F:z9} {H:Hp}
theorem aR {x y:Int} (hy:0<y):(0≤x→0≤x.tdiv y∧x.tdiv y≤x)∧(x<0→x≤x.tdiv y∧x.tdiv y≤0):=by
 refine⟨fun h=> ?_,fun h=> ?_⟩
 ·rw [Int.tdiv_eq_ediv_of_nonneg h];exact⟨Int.ediv_nonneg h (by omega),Int.ediv_le_self y h⟩
 have e:x.tdiv y= -((-x)/y):=by
  rw [←Int.tdiv_eq_ediv_of_nonneg (a:= -x) (by omega),Int.neg_tdiv,Int.neg_neg]
 have h1:=Int.ediv_nonneg (show 0≤ -x by omega) (show 0≤y by omega)
 have h2:=Int.ediv_le_self y (show 0≤ -x by omega)
 rw [e];omega
theorem cX {x y:Int} (hx:gH x) (hy:0<y):gH (x.tdiv y):=by
 have:=aR (x:=x) hy
 unfold gH at*
 rcases Int.lt_or_le x 0 with h|h
 ·have:=this.2 h;omega
 have:=this.1 h;omega
theorem yR {t:TypeId} {c:Bool} {x y:Int} (hx:gH x) (hy:0<y):wJ P F H .quo t c (.int .i64 (.lit x)) (.int .i64 (.lit y))=some (.int .i64 (.lit (x.tdiv y))):=by
 have h0:gD y 0=false:=by rw [wh];exact decide_eq_false (by omega)
 have:=cX hx hy
 simp [wJ,vf,ZD,uZ,h0,zU.wrap,wi (z:=x.tdiv y) this]
theorem j6 {t:TypeId} {c:Bool} {x y:Int} (hy:0<y):wJ P F H .rem t c (.int .i64 (.lit x)) (.int .i64 (.lit y))=some (.int .i64 (.lit (x.tmod y))):=by
 have h0:gD y 0=false:=by rw [wh];exact decide_eq_false (by omega)
 simp [wJ,vf,ZD,uZ,h0]
end
def zB (v n:Int):Int:=if n<1 then 0 else if v.tmod n<0 then v.tmod n+n else v.tmod n
theorem zk {v n:Int} (h:0<n):0≤zB v n∧zB v n<n:=by
 unfold zB
 rw [if_neg (by omega)]
 have h2: -n<v.tmod n:=by
  rcases Int.lt_or_le v 0 with h0|h0
  ·have:=Int.tmod_lt_of_pos (-v) h
   rw [Int.neg_tmod]at this;omega
  have:=Int.tmod_nonneg n h0;omega
 have h3:=Int.tmod_lt_of_pos v h
 split<;>omega
theorem kM {v n:Int} (h:0<n): -n<v.tmod n∧v.tmod n<n:=by
 refine⟨?_,Int.tmod_lt_of_pos v h⟩
 rcases Int.lt_or_le v 0 with h0|h0
 ·have:=Int.tmod_lt_of_pos (-v) h
  rw [Int.neg_tmod]at this;omega
 have:=Int.tmod_nonneg n h0;omega
def pk (l:List Int) (k:Int):Int:=l.getD k.toNat 0
theorem QY {l:List Int} {k:Int} (h:0≤k∧k<(l.length:Nat)):l[k.toNat]? =some (pk l k):=by
 unfold pk
 rw [List.getD_eq_getElem?_getD]
 have:k.toNat<l.length:=by omega
 rw [List.getElem?_eq_getElem this];rfl
theorem iQ {l:List Int} {k:Int} (p:Int→Prop) (hp: ∀x,x ∈ l→p x) (h:0≤k∧k<(l.length:Nat)):p (pk l k):=hp _ (List.mem_of_getElem? (QY h))
theorem jm {i:Nat} {l:List Int} : ∀f,z8 i (l.map fun z=>vi z) f→uh yK 1 (.slice (some (i,0)) l.length (some l.length) 1) l f:=nf (by rw [List.flatMap_def];induction l with|nil=>rfl|cons x l ih=>simp [yK,ih]) Zk (by decide)
theorem wc (R:List SP) (v n:Int) (hn:n≤9223372036854775807):zy 15 [vi v,vi n] (R) fun w L=>w=vi (zB v n)∧L=R:=by
 refine SW.intro rfl Tryz.func15 rfl ?_
 refine O0 9 J (z0 (fun h7=> ?_) (fun h7=> ?_))
 ·refine Z 7 J (zE J J J (⟨_,⟨congrArg (fun z:Int=>vi z) (?_:_=zB v n),rfl⟩,Y⟩))
  unfold zB
  rw [if_pos (by omega)]
 refine Z 7 J (zf rfl (fun _=>zC rfl rfl rfl (j6 (by omega))) ?_)
 refine Z 7 J (z0 (fun h12=> ?_) (fun h12=> ?_))
 ·have hb:=kM (v:=v) (n:=n) (by omega)
  refine Z 5 J (ad J (Z 8 J (zE J J J (⟨_,⟨congrArg (fun z:Int=>vi z) (?_:_=zB v n),rfl⟩,Y⟩))))
  unfold zB
  rw [if_neg (by omega),if_pos (by omega)]
 refine Z 9 J (zE J J J (⟨_,⟨congrArg (fun z:Int=>vi z) (?_:_=zB v n),rfl⟩,Y⟩))
 unfold zB
 rw [if_neg (by omega),if_neg (by omega)]
def CP (n:Int):Int:=pk [64,40,24,30,27,48] (zB n 6)
def Ck (n:Int):Int:=1+zB (n.tdiv 6) 2
def rm (n:Int):Bool:=decide ((n.tdiv 12).tmod 3≠2)
def fc (n:Int):Bool:=decide ((n.tdiv 36).tmod 3≠2)
theorem ip (R:List SP) (n:Int) (hn:gH n):zy 31 [vi n] (R) fun w L=>w= .agg [vi (CP n),vi (Ck n),.bool (rm n),.bool (fc n)]∧L=R:=by
 refine SW.intro rfl Tryz.func31 rfl ?_
 refine O0 2 J (zd rfl rfl rfl fun i2=> ?_)
 refine Z 6 J (zO [0,0,0,6,15,31,0,0,128,462,974,0,2048,6144,14336,0,32768,98304,229376,524287,1048575] [([0,1,2,6,7,8,11,12,13,14,15,16,17,18],[8,12,13,14,16,17,18],some 3),([4,5],[8,12,13,14,16,17,18,5],some 9),([10,19],[12,13,14,16,17,18,5,10],some 20),([],[],none)] (by kernel_rfl) ?_)
 refine z4 (va (cs:= [_,_,_,_,_,_]) rfl rfl rfl (by decide) rfl fun i4=> ?_)
 refine ZK 4 J (vN rfl (fun _=>zC rfl rfl rfl (yR (by assumption) (by omega))) ?_)
 refine ZK 1 J (vN rfl (fun _=>zC rfl rfl rfl (yR (by assumption) (by omega))) ?_)
 refine vN rfl (fun _=>zC rfl rfl rfl (j6 (by omega))) ?_
 refine ZK 2 J (vN rfl (fun _=>zC rfl rfl rfl (yR (by assumption) (by omega))) ?_)
 refine vN rfl (fun _=>zC rfl rfl rfl (j6 (by omega))) ?_
 refine ZK 1 J (z5 ⟨(vF rfl (fun _=>zC rfl rfl rfl (yR (by assumption) (by omega))) rfl rfl (z3 _ rfl) (vF rfl (fun _=>zC rfl rfl rfl (yR (by assumption) (by omega))) rfl rfl (z3 _ rfl) (vF rfl (fun _=>zC rfl rfl rfl (j6 (by omega))) rfl rfl (z3 _ rfl) (gv J J J (z3 _ rfl) (vF rfl (fun _=>zC rfl rfl rfl (yR (by assumption) (by omega))) rfl rfl (z3 _ rfl) (vF rfl (fun _=>zC rfl rfl rfl (j6 (by omega))) rfl rfl (z3 _ rfl) (gv J J J (z3 _ rfl) z6))))))),?_⟩)
 refine Z0 (wc _ _ _ (by omega)) J (zR (Sub.one (K:=z8) (a:=i4) (K2:=uh yK 1) (a2:= .slice (some (i4,0)) 6 (some 6) 1) (x2:= [64,40,24,30,27,48]) (jm (l:= [64,40,24,30,27,48]))) ?_)
 have hw1:=zk (v:=n) (n:=6) (by decide)
 have hp1:=QY (l:= [64,40,24,30,27,48]) (k:=zB n 6) ⟨hw1.1,hw1.2⟩
 refine zF (z4 (uW rfl (fun _ h=>Zm yK 1 rfl rfl rfl hw1.1 (by exact hw1.2) h) ?_))
 refine uW rfl (fun _ h=>vn yK 1 (j:=0) rfl rfl rfl hp1 rfl h) ?_
 refine z5 ⟨(vF rfl (fun _=>zC rfl rfl rfl (yR (by assumption) (by omega))) rfl rfl (z3 _ rfl) (vF rfl (fun _=>zC rfl rfl rfl (yR (by assumption) (by omega))) rfl rfl (z3 _ rfl) (vF rfl (fun _=>zC rfl rfl rfl (j6 (by omega))) rfl rfl (z3 _ rfl) (gv J J J (z3 _ rfl) (vF rfl (fun _=>zC rfl rfl rfl (yR (by assumption) (by omega))) rfl rfl (z3 _ rfl) (vF rfl (fun _=>zC rfl rfl rfl (j6 (by omega))) rfl rfl (z3 _ rfl) (gv J J J (z3 _ rfl) (wV rfl (fun _ h=>vn yK 1 (j:=0) rfl rfl rfl hp1 rfl h) rfl rfl (z3 _ rfl) z6)))))))),?_⟩
 refine Z0 (wc _ _ _ (by omega)) J ?_
 have hw2:=zk (v:=n.tdiv 6) (n:=2) (by decide)
 refine zF (z4 (BK J (p7 [_,_,_,_] J Y Y J (z5 ⟨(vF rfl (fun _=>zC rfl rfl rfl (yR (by assumption) (by omega))) rfl rfl (z3 _ rfl) (vF rfl (fun _=>zC rfl rfl rfl (j6 (by omega))) rfl rfl (z3 _ rfl) (gv J J J (z3 _ rfl) (vF rfl (fun _=>zC rfl rfl rfl (yR (by assumption) (by omega))) rfl rfl (z3 _ rfl) (vF rfl (fun _=>zC rfl rfl rfl (j6 (by omega))) rfl rfl (z3 _ rfl) (gv J J J (z3 _ rfl) (wV rfl (fun _ h=>vn yK 1 (j:=0) rfl rfl rfl hp1 rfl h) rfl rfl (z3 _ rfl) (vF rfl (fun _=>zC rfl rfl rfl (vj (by omega))) rfl rfl (z3 _ rfl) z6)))))))),?_⟩))))
 refine sN J Y Y J J J (zF (z4 (z5 ⟨z6,?_⟩)))
 refine OX 1 J (⟨.inr rfl,_,fun _ h=>(zi (y8 rfl (yS rfl (Nat.le_of_ble_eq_true rfl) h)) q7),?_⟩)
 exact fq
theorem vy {α:Type} {en:α→List AVal} {es i:Nat} {ys:List α} (he: ∀x,(en x).length=es) (h0:0<es): ∀f,z8 i (ys.flatMap en) f→zP en es (.slice (some (i,0)) ys.length (some ys.length) es) ys f:=by
 intro f h
 have hl:(ys.flatMap en).length=ys.length*es:=qW he ys
 have h1:=wG (f:=fun j=>(ys.flatMap en).getD j unit) (fun j hj=>by rw [List.getD_eq_getElem?_getD,List.getElem?_eq_getElem hj];rfl) f h
 rw [hl]at h1
 refine⟨.part i 0 ys.length ys.length (ys.length*es) es _ _ h1 (by omega) (Nat.le_refl _) ?_,he,h0⟩
 apply List.ext_getElem?
 intro j
 by_cases hj:j<ys.length*es
 ·rw [zq _ _ _ _ hj,Nat.zero_add,List.getD_eq_getElem?_getD,List.getElem?_eq_getElem (by omega)];rfl
 rw [List.getElem?_eq_none (by omega),List.getElem?_eq_none (by rw [zo];omega)]
def qp (n:Int):Int:=if zB n 7=6 then pk [63,64,128,255,250] (zB (n.tdiv 7) 5)else zB n 6
def qH (k n:Int):List yl:=
 if k<4 then [⟨1,0,0,qp n⟩,⟨1,1,0,1+zB (n.tdiv 8) 3⟩,⟨1,2,0,pk [3,3,3,1,0,2] (zB (n.tdiv 32) 6)⟩,⟨7,0,0,1⟩]
 else if k=4 then [⟨1,0,0,qp n⟩,⟨1,1,0,1+zB (n.tdiv 8) 2⟩,⟨7,0,0,2⟩]
 else if k<7 then [⟨1,0,0,qp n⟩,⟨1,1,0,1+zB (n.tdiv 8) 2⟩,⟨1,2,0,pk [1,3,0] (zB (n.tdiv 16) 3)⟩,⟨7,0,0,3⟩]
 else if k<9 then [⟨1,0,0,qp n⟩,⟨7,0,0,4⟩]
 else if k=9∨k=10 then [⟨7,0,0,5⟩]
 else if k=11 then [⟨7,0,0,pk [7,7,7,6] (zB n 4)⟩]
 else if k=12 then [⟨7,0,0,pk [8,9] (zB n 2)⟩]
 else if k<16 then [⟨1,4,0,zB n 1000⟩,⟨4,4,6,8*qp n+zB (n.tdiv 8) 8⟩]
 else if k<20 then [⟨3,3,6,8*qp n+zB (n.tdiv 8) 8⟩]
 else if k=20 then [⟨5,0,6,8*qp n+zB (n.tdiv 8) 8⟩]
 else if k=21 then [⟨3,5,6,pk [2048,2056,3584,4095,4096,65535] (zB n 6)⟩]
 else if k=22 then [⟨2,zB n 6,zB (n.tdiv 8) 6,0⟩,⟨6,zB (n.tdiv 64) 8,0,zB (n.tdiv 8) 24⟩]
 else [⟨4,zB n 8,zB (n.tdiv 8) 8,zB n 4200⟩]
def vz (l:List Int):Nat→List yl
 |0=> []
 |m+1=>if(vz l m).length+(qH (zB (l.getD (2*m) 0) 24) (l.getD (2*m+1) 0)).length≤24 then vz l m++qH (zB (l.getD (2*m) 0) 24) (l.getD (2*m+1) 0)else vz l m
def qa (l:List Int):List yl:=vz l (min 8 (l.length/2))
theorem Q8 (l:List Int): ∀m,(vz l m).length≤24:=by
 intro m
 induction m with
 |zero=>exact Nat.zero_le _
 |succ m ih=>
  unfold vz
  split
  ·rw [List.length_append];assumption
  exact ih
theorem iP {α:Type} (p:α→Prop) {c:Prop} [Decidable c] {a b:α} (ha:c→p a) (hb: ¬c→p b):p (if c then a else b):=by
 by_cases h:c
 ·rw [if_pos h];exact ha h
 rw [if_neg h];exact hb h
theorem tc (k n:Int):(qH k n).length≤4∧0<(qH k n).length:=by
 unfold qH
 iterate 12 refine iP (fun l:List yl=>l.length≤4∧0<l.length) (fun _=>⟨Nat.le_of_ble_eq_true rfl,Nat.le_of_ble_eq_true rfl⟩) fun _=> ?_
 exact⟨Nat.le_of_ble_eq_true rfl,Nat.le_of_ble_eq_true rfl⟩
theorem fd (n:Int):0≤qp n∧qp n≤255:=by
 unfold qp
 split
 ·have hw:=zk (v:=n.tdiv 7) (n:=5) (by decide)
  exact iQ (fun x=>0≤x∧x≤255) (by decide) ⟨hw.1,hw.2⟩
 have hw:=zk (v:=n) (n:=6) (by decide);omega
set_option maxHeartbeats 1000000 in
theorem pU (R:List SP) (v:AVal) (l:List Int) (hl: ∀z,z ∈ l→gH z):zy 74 [v] (ent (uh yK 1) v l::R) fun w L2=>L2=ent (zP qN 4) w (qa l)::ent (uh yK 1) v l::R:=by
 refine SW.intro rfl Tryz.func74 rfl ?_
 refine O0 18 J (zu (Sub.nilE (en:=qN) (es:=4) (fun _=>rfl) (by decide) 0 _) ?_)
 refine zl (fun j T LZ=> ∃(m:Nat) (ov:AVal),(m≤8∧2*m≤l.length)∧j=8-m∧T.len=15∧Tm.get 0 T=some (v)∧Tm.get 3 T=some (.func 15 [] [])∧Tm.get 4 T=some (ov)∧Tm.get 5 T=some (vi ((2*m:Nat):Int))∧Sub LZ (ent (zP qN 4) ov (vz l m)::ent (uh yK 1) v l::R)) (8) ⟨0,.slice none 0 (some 0) 0,by omega,by omega,rfl,rfl,rfl,rfl,rfl,(show Px.Sub _ (ent (zP qN 4) (.slice none 0 (some 0) 0) ([]:List yl)::ent (uh yK 1) v l::R)from Y)⟩ ?_
 rintro j T L0 ⟨m,ov,hm,rfl,hl,g0,g3,g4,g5,hsb⟩
 obtain⟨tg,rfl⟩:=W7 hl g0 g3 g4 g5
 clear hl g0 g3 g4 g5
 refine zu hsb ?_
 clear hsb L0
 refine O0 4 J (ad J (Z 1 J (yo rfl (fun _ h=>di yK 1 rfl rfl rfl rfl rfl h) ?_)))
 refine Z 1 J (z0 (fun h14=> ?_) (fun h14=> ?_))
 ·have hm1:2*m+1<l.length:=by omega
  refine Z 3 J (z0 (fun h17=> ?_) (fun h17=> ?_))
  ·obtain⟨x1,hx1⟩: ∃x,l[2*m]? =some x:=⟨_,List.getElem?_eq_getElem (by omega)⟩
   obtain⟨x2,hx2⟩: ∃x,l[2*m+1]? =some x:=⟨_,List.getElem?_eq_getElem (by omega)⟩
   have hxo:gH x2:=hl x2 (List.mem_of_getElem? hx2)
   have hg1:l.getD (2*m) 0=x1:=by rw [List.getD_eq_getElem?_getD,hx1];rfl
   have hg2:l.getD (2*m+1) 0=x2:=by rw [List.getD_eq_getElem?_getD,hx2];rfl
   have hpb:=fd x2
   refine Z 7 J (zO [0,0,0,6,14,31,0,0,128,448,960,63,4095] [([0,1,2,3,4,6,7,8,9,10],[4,8,10],some 5),([11,12],[8,10],none)] (by kernel_rfl) ?_)
   refine z4 (ZK 3 J (uW rfl (fun _ h=>Zm yK 1 rfl rfl rfl (by omega) (by omega) h) ?_))
   refine uW rfl (fun _ h=>vn yK 1 (j:=0) rfl rfl rfl hx1 rfl h) ?_
   refine ZK 2 J (BK J (uW rfl (fun _ h=>Zm yK 1 rfl rfl rfl (by omega) (by omega) h) ?_))
   refine uW rfl (fun _ h=>vn yK 1 (j:=0) rfl rfl rfl hx2 rfl h) ?_
   refine z5 ⟨(wV rfl (fun _ h=>vn yK 1 (j:=0) rfl rfl rfl hx1 rfl h) rfl rfl (z3 _ rfl) (vF rfl (fun _=>zC rfl rfl rfl (vj (by omega))) rfl rfl (z3 _ rfl) (wV rfl (fun _ h=>vn yK 1 (j:=0) rfl rfl rfl hx2 rfl h) rfl rfl (z3 _ rfl) z6))),?_⟩
   refine Z0 (wc _ _ _ (by omega)) J ?_
   have hk24:=zk (v:=x1) (n:=24) (by decide)
   refine zF (z4 (ZK 2 J (z5 ⟨(vF rfl (fun _=>zC rfl rfl rfl (vj (by omega))) rfl rfl (z3 _ rfl) (wV rfl (fun _ h=>vn yK 1 (j:=0) rfl rfl rfl hx2 rfl h) rfl rfl (z3 _ rfl) z6)),?_⟩)))
   refine OX 4 J (Z0 (wc _ _ _ (by omega)) J ?_)
   have hw34:=zk (v:=x2) (n:=6) (by decide)
   refine Z 2 J (fk (fun T LZ=>T.len=15∧Tm.get 0 T=some (v)∧Tm.get 3 T=some (.func 15 [] [])∧Tm.get 4 T=some (ov)∧Tm.get 5 T=some (vi ((2*m:Nat):Int))∧Tm.get 6 T=some (vi (zB x1 24))∧Tm.get 7 T=some (vi x2)∧Tm.get 8 T=some (vi (qp x2))∧Sub LZ (ent (zP qN 4) ov (vz l m)::ent (uh yK 1) v l::R)) ?_ ?_)
   ·refine O0 4 J (Z0 (wc _ _ _ (by omega)) J (Z 1 J (z0 (fun h38=> ?_) (fun h38=> ?_))))
    ·refine Z 3 J (zT (cs:= [_,_,_,_,_]) rfl rfl rfl (by decide) rfl fun i39=> ?_)
     refine Z 2 J (zf rfl (fun _=>zC rfl rfl rfl (yR (by assumption) (by omega))) ?_)
     refine Z0 (wc _ _ _ (by omega)) J (zR (Sub.one (K:=z8) (a:=i39) (K2:=uh yK 1) (a2:= .slice (some (i39,0)) 5 (some 5) 1) (x2:= [63,64,128,255,250]) (jm (l:= [63,64,128,255,250]))) ?_)
     have hw43:=zk (v:=x2.tdiv 7) (n:=5) (by decide)
     have hp43:=QY (l:= [63,64,128,255,250]) (k:=zB (x2.tdiv 7) 5) ⟨hw43.1,hw43.2⟩
     refine yo rfl (fun _ h=>Zm yK 1 rfl rfl rfl hw43.1 (by exact hw43.2) h) ?_
     refine yo rfl (fun _ h=>vn yK 1 (j:=0) rfl rfl rfl hp43 rfl h) ?_
     refine Z 2 J ?_
     have hpg:qp x2=_:=if_pos h38
     exact⟨rfl,rfl,rfl,rfl,rfl,rfl,rfl,(congrArg (fun z:Int=>some (vi z)) hpg.symm),Y⟩
    refine Z 3 J ?_
    have hpg:qp x2=_:=if_neg h38
    exact⟨rfl,rfl,rfl,rfl,rfl,rfl,rfl,(congrArg (fun z:Int=>some (vi z)) hpg.symm),Y⟩
   rintro T L0 ⟨hl,g0,g3,g4,g5,g6,g7,g8,hsb⟩
   obtain⟨tg,rfl⟩:=Cw hl g0 g3 g4 g5 g6 g7 g8
   clear hl g0 g3 g4 g5 g6 g7 g8
   refine zu hsb ?_
   clear hsb L0
   refine O 4 J (fk (fun T LZ=> ∃(i9:Nat),T.len=15∧Tm.get 0 T=some (v)∧Tm.get 3 T=some (.func 15 [] [])∧Tm.get 4 T=some (ov)∧Tm.get 5 T=some (vi ((2*m:Nat):Int))∧Tm.get 9 T=some (.slice (some (i9,0)) (qH (zB x1 24) x2).length (some (qH (zB x1 24) x2).length) 4)∧Sub LZ (ent (zP qN 4) (.slice (some (i9,0)) (qH (zB x1 24) x2).length (some (qH (zB x1 24) x2).length) 4) (qH (zB x1 24) x2)::ent (zP qN 4) ov (vz l m)::ent (uh yK 1) v l::R)) ?_ ?_)
   ·refine O0 5 J (z0 (fun h60=> ?_) (fun h60=> ?_))
    ·refine Z 5 J (bu [_,_,_,_] J Y Y J (Z 2 J (zf rfl (fun _=>zC rfl rfl rfl (yR (by assumption) (by omega))) ?_)))
     refine Z0 (wc _ _ _ (by omega)) J ?_
     have hw66:=zk (v:=x2.tdiv 8) (n:=3) (by decide)
     refine ad J (bu [_,_,_,_] J Y Y J (zT (cs:= [_,_,_,_,_,_]) rfl rfl rfl (by decide) rfl fun i69=> ?_))
     refine Z 2 J (zf rfl (fun _=>zC rfl rfl rfl (yR (by assumption) (by omega))) ?_)
     refine Z0 (wc _ _ _ (by omega)) J (zR (Sub.one (K:=z8) (a:=i69) (K2:=uh yK 1) (a2:= .slice (some (i69,0)) 6 (some 6) 1) (x2:= [3,3,3,1,0,2]) (jm (l:= [3,3,3,1,0,2]))) ?_)
     have hw73:=zk (v:=x2.tdiv 32) (n:=6) (by decide)
     have hp73:=QY (l:= [3,3,3,1,0,2]) (k:=zB (x2.tdiv 32) 6) ⟨hw73.1,hw73.2⟩
     refine yo rfl (fun _ h=>Zm yK 1 rfl rfl rfl hw73.1 (by exact hw73.2) h) ?_
     refine yo rfl (fun _ h=>vn yK 1 (j:=0) rfl rfl rfl hp73 rfl h) ?_
     refine bu [_,_,_,_] J Y Y J (bu [_,_,_,_] J Y Y J (zT (cs:= [_,_,_,_,_,_,_,_,_,_,_,_,_,_,_,_]) rfl rfl rfl (by decide) rfl fun i78=> ?_))
     refine Z 2 J ?_
     have hpt:qH (zB x1 24) x2= [⟨1,0,0,qp x2⟩,⟨1,1,0,1+zB (x2.tdiv 8) 3⟩,⟨1,2,0,pk [3,3,3,1,0,2] (zB (x2.tdiv 32) 6)⟩,⟨7,0,0,1⟩]:=by unfold qH;rw [if_pos (by omega)]
     exact⟨i78,rfl,rfl,rfl,rfl,rfl,(by rw [hpt];rfl),(by rw [hpt];exact Sub.trans (Sub.one (K:=z8) (a:=i78) (K2:=zP qN 4) (a2:= .slice (some (i78,0)) 4 (some 4) 4) (x2:=([⟨1,0,0,qp x2⟩,⟨1,1,0,1+zB (x2.tdiv 8) 3⟩,⟨1,2,0,pk [3,3,3,1,0,2] (zB (x2.tdiv 32) 6)⟩,⟨7,0,0,1⟩]:List yl)) (vy (en:=qN) (es:=4) (ys:=([⟨1,0,0,qp x2⟩,⟨1,1,0,1+zB (x2.tdiv 8) 3⟩,⟨1,2,0,pk [3,3,3,1,0,2] (zB (x2.tdiv 32) 6)⟩,⟨7,0,0,1⟩]:List yl)) (fun _=>rfl) (by decide))) Y)⟩
    refine Z 7 J (z0 (fun h81=> ?_) (fun h81=> ?_))
    ·refine Z 5 J (bu [_,_,_,_] J Y Y J (Z 2 J (zf rfl (fun _=>zC rfl rfl rfl (yR (by assumption) (by omega))) ?_)))
     refine Z0 (wc _ _ _ (by omega)) J ?_
     have hw87:=zk (v:=x2.tdiv 8) (n:=2) (by decide)
     refine ad J (bu [_,_,_,_] J Y Y J (bu [_,_,_,_] J Y Y J (zT (cs:= [_,_,_,_,_,_,_,_,_,_,_,_]) rfl rfl rfl (by decide) rfl fun i91=> ?_)))
     refine Z 2 J ?_
     have hpt:qH (zB x1 24) x2= [⟨1,0,0,qp x2⟩,⟨1,1,0,1+zB (x2.tdiv 8) 2⟩,⟨7,0,0,2⟩]:=by unfold qH;rw [if_neg (by omega),if_pos (by omega)]
     exact⟨i91,rfl,rfl,rfl,rfl,rfl,(by rw [hpt];rfl),(by rw [hpt];exact Sub.trans (Sub.one (K:=z8) (a:=i91) (K2:=zP qN 4) (a2:= .slice (some (i91,0)) 3 (some 3) 4) (x2:=([⟨1,0,0,qp x2⟩,⟨1,1,0,1+zB (x2.tdiv 8) 2⟩,⟨7,0,0,2⟩]:List yl)) (vy (en:=qN) (es:=4) (ys:=([⟨1,0,0,qp x2⟩,⟨1,1,0,1+zB (x2.tdiv 8) 2⟩,⟨7,0,0,2⟩]:List yl)) (fun _=>rfl) (by decide))) Y)⟩
    refine Z 7 J (z0 (fun h94=> ?_) (fun h94=> ?_))
    ·refine Z 5 J (bu [_,_,_,_] J Y Y J (Z 2 J (zf rfl (fun _=>zC rfl rfl rfl (yR (by assumption) (by omega))) ?_)))
     refine Z0 (wc _ _ _ (by omega)) J ?_
     have hw100:=zk (v:=x2.tdiv 8) (n:=2) (by decide)
     refine ad J (bu [_,_,_,_] J Y Y J (zT (cs:= [_,_,_]) rfl rfl rfl (by decide) rfl fun i103=> ?_))
     refine Z 2 J (zf rfl (fun _=>zC rfl rfl rfl (yR (by assumption) (by omega))) ?_)
     refine Z0 (wc _ _ _ (by omega)) J (zR (Sub.one (K:=z8) (a:=i103) (K2:=uh yK 1) (a2:= .slice (some (i103,0)) 3 (some 3) 1) (x2:= [1,3,0]) (jm (l:= [1,3,0]))) ?_)
     have hw107:=zk (v:=x2.tdiv 16) (n:=3) (by decide)
     have hp107:=QY (l:= [1,3,0]) (k:=zB (x2.tdiv 16) 3) ⟨hw107.1,hw107.2⟩
     refine yo rfl (fun _ h=>Zm yK 1 rfl rfl rfl hw107.1 (by exact hw107.2) h) ?_
     refine yo rfl (fun _ h=>vn yK 1 (j:=0) rfl rfl rfl hp107 rfl h) ?_
     refine bu [_,_,_,_] J Y Y J (bu [_,_,_,_] J Y Y J (zT (cs:= [_,_,_,_,_,_,_,_,_,_,_,_,_,_,_,_]) rfl rfl rfl (by decide) rfl fun i112=> ?_))
     refine Z 2 J ?_
     have hpt:qH (zB x1 24) x2= [⟨1,0,0,qp x2⟩,⟨1,1,0,1+zB (x2.tdiv 8) 2⟩,⟨1,2,0,pk [1,3,0] (zB (x2.tdiv 16) 3)⟩,⟨7,0,0,3⟩]:=by unfold qH;rw [if_neg (by omega),if_neg (by omega),if_pos (by omega)]
     exact⟨i112,rfl,rfl,rfl,rfl,rfl,(by rw [hpt];rfl),(by rw [hpt];exact Sub.trans (Sub.one (K:=z8) (a:=i112) (K2:=zP qN 4) (a2:= .slice (some (i112,0)) 4 (some 4) 4) (x2:=([⟨1,0,0,qp x2⟩,⟨1,1,0,1+zB (x2.tdiv 8) 2⟩,⟨1,2,0,pk [1,3,0] (zB (x2.tdiv 16) 3)⟩,⟨7,0,0,3⟩]:List yl)) (vy (en:=qN) (es:=4) (ys:=([⟨1,0,0,qp x2⟩,⟨1,1,0,1+zB (x2.tdiv 8) 2⟩,⟨1,2,0,pk [1,3,0] (zB (x2.tdiv 16) 3)⟩,⟨7,0,0,3⟩]:List yl)) (fun _=>rfl) (by decide))) Y)⟩
    refine Z 7 J (z0 (fun h115=> ?_) (fun h115=> ?_))
    ·refine Z 5 J (bu [_,_,_,_] J Y Y J (bu [_,_,_,_] J Y Y J (zT (cs:= [_,_,_,_,_,_,_,_]) rfl rfl rfl (by decide) rfl fun i119=> ?_)))
     refine Z 2 J ?_
     have hpt:qH (zB x1 24) x2= [⟨1,0,0,qp x2⟩,⟨7,0,0,4⟩]:=by unfold qH;rw [if_neg (by omega),if_neg (by omega),if_neg (by omega),if_pos (by omega)]
     exact⟨i119,rfl,rfl,rfl,rfl,rfl,(by rw [hpt];rfl),(by rw [hpt];exact Sub.trans (Sub.one (K:=z8) (a:=i119) (K2:=zP qN 4) (a2:= .slice (some (i119,0)) 2 (some 2) 4) (x2:=([⟨1,0,0,qp x2⟩,⟨7,0,0,4⟩]:List yl)) (vy (en:=qN) (es:=4) (ys:=([⟨1,0,0,qp x2⟩,⟨7,0,0,4⟩]:List yl)) (fun _=>rfl) (by decide))) Y)⟩
    refine Z 7 J (z0 (fun h122=> ?_) (fun h122=> ?_))
    ·refine Z 8 J (bu [_,_,_,_] J Y Y J (zT (cs:= [_,_,_,_]) rfl rfl rfl (by decide) rfl fun i128=> ?_))
     refine Z 2 J ?_
     have hpt:qH (zB x1 24) x2= [⟨7,0,0,5⟩]:=by unfold qH;rw [if_neg (by omega),if_neg (by omega),if_neg (by omega),if_neg (by omega),if_pos (by omega)]
     exact⟨i128,rfl,rfl,rfl,rfl,rfl,(by rw [hpt];rfl),(by rw [hpt];exact Sub.trans (Sub.one (K:=z8) (a:=i128) (K2:=zP qN 4) (a2:= .slice (some (i128,0)) 1 (some 1) 4) (x2:=([⟨7,0,0,5⟩]:List yl)) (vy (en:=qN) (es:=4) (ys:=([⟨7,0,0,5⟩]:List yl)) (fun _=>rfl) (by decide))) Y)⟩
    refine Z 3 J (z0 (fun h125=> ?_) (fun h125=> ?_))
    ·refine Z 5 J (bu [_,_,_,_] J Y Y J (zT (cs:= [_,_,_,_]) rfl rfl rfl (by decide) rfl fun i128=> ?_))
     refine Z 2 J ?_
     have hpt:qH (zB x1 24) x2= [⟨7,0,0,5⟩]:=by unfold qH;rw [if_neg (by omega),if_neg (by omega),if_neg (by omega),if_neg (by omega),if_pos (by omega)]
     exact⟨i128,rfl,rfl,rfl,rfl,rfl,(by rw [hpt];rfl),(by rw [hpt];exact Sub.trans (Sub.one (K:=z8) (a:=i128) (K2:=zP qN 4) (a2:= .slice (some (i128,0)) 1 (some 1) 4) (x2:=([⟨7,0,0,5⟩]:List yl)) (vy (en:=qN) (es:=4) (ys:=([⟨7,0,0,5⟩]:List yl)) (fun _=>rfl) (by decide))) Y)⟩
    refine Z 8 J (z0 (fun h131=> ?_) (fun h131=> ?_))
    ·refine Z 4 J (zT (cs:= [_,_,_,_]) rfl rfl rfl (by decide) rfl fun i132=> ?_)
     refine Z 2 J (Z0 (wc _ _ _ (by omega)) J (zR (Sub.one (K:=z8) (a:=i132) (K2:=uh yK 1) (a2:= .slice (some (i132,0)) 4 (some 4) 1) (x2:= [7,7,7,6]) (jm (l:= [7,7,7,6]))) ?_))
     have hw135:=zk (v:=x2) (n:=4) (by decide)
     have hp135:=QY (l:= [7,7,7,6]) (k:=zB (x2) 4) ⟨hw135.1,hw135.2⟩
     refine yo rfl (fun _ h=>Zm yK 1 rfl rfl rfl hw135.1 (by exact hw135.2) h) ?_
     refine yo rfl (fun _ h=>vn yK 1 (j:=0) rfl rfl rfl hp135 rfl h) ?_
     refine bu [_,_,_,_] J Y Y J (zT (cs:= [_,_,_,_]) rfl rfl rfl (by decide) rfl fun i139=> ?_)
     refine Z 2 J ?_
     have hpt:qH (zB x1 24) x2= [⟨7,0,0,pk [7,7,7,6] (zB x2 4)⟩]:=by unfold qH;rw [if_neg (by omega),if_neg (by omega),if_neg (by omega),if_neg (by omega),if_neg (by omega),if_pos (by omega)]
     exact⟨i139,rfl,rfl,rfl,rfl,rfl,(by rw [hpt];rfl),(by rw [hpt];exact Sub.trans (Sub.one (K:=z8) (a:=i139) (K2:=zP qN 4) (a2:= .slice (some (i139,0)) 1 (some 1) 4) (x2:=([⟨7,0,0,pk [7,7,7,6] (zB x2 4)⟩]:List yl)) (vy (en:=qN) (es:=4) (ys:=([⟨7,0,0,pk [7,7,7,6] (zB x2 4)⟩]:List yl)) (fun _=>rfl) (by decide))) Y)⟩
    refine Z 7 J (z0 (fun h142=> ?_) (fun h142=> ?_))
    ·refine Z 4 J (zT (cs:= [_,_]) rfl rfl rfl (by decide) rfl fun i143=> ?_)
     refine Z 2 J (Z0 (wc _ _ _ (by omega)) J (zR (Sub.one (K:=z8) (a:=i143) (K2:=uh yK 1) (a2:= .slice (some (i143,0)) 2 (some 2) 1) (x2:= [8,9]) (jm (l:= [8,9]))) ?_))
     have hw146:=zk (v:=x2) (n:=2) (by decide)
     have hp146:=QY (l:= [8,9]) (k:=zB (x2) 2) ⟨hw146.1,hw146.2⟩
     refine yo rfl (fun _ h=>Zm yK 1 rfl rfl rfl hw146.1 (by exact hw146.2) h) ?_
     refine yo rfl (fun _ h=>vn yK 1 (j:=0) rfl rfl rfl hp146 rfl h) ?_
     refine bu [_,_,_,_] J Y Y J (zT (cs:= [_,_,_,_]) rfl rfl rfl (by decide) rfl fun i150=> ?_)
     refine Z 2 J ?_
     have hpt:qH (zB x1 24) x2= [⟨7,0,0,pk [8,9] (zB x2 2)⟩]:=by unfold qH;rw [if_neg (by omega),if_neg (by omega),if_neg (by omega),if_neg (by omega),if_neg (by omega),if_neg (by omega),if_pos (by omega)]
     exact⟨i150,rfl,rfl,rfl,rfl,rfl,(by rw [hpt];rfl),(by rw [hpt];exact Sub.trans (Sub.one (K:=z8) (a:=i150) (K2:=zP qN 4) (a2:= .slice (some (i150,0)) 1 (some 1) 4) (x2:=([⟨7,0,0,pk [8,9] (zB x2 2)⟩]:List yl)) (vy (en:=qN) (es:=4) (ys:=([⟨7,0,0,pk [8,9] (zB x2 2)⟩]:List yl)) (fun _=>rfl) (by decide))) Y)⟩
    refine Z 7 J (z0 (fun h153=> ?_) (fun h153=> ?_))
    ·refine Z 6 J (Z0 (wc _ _ _ (by omega)) J ?_)
     have hw156:=zk (v:=x2) (n:=1000) (by decide)
     refine bu [_,_,_,_] J Y Y J (Z 1 J (ml J (Z 2 J (zf rfl (fun _=>zC rfl rfl rfl (yR (by assumption) (by omega))) ?_))))
     refine Z0 (wc _ _ _ (by omega)) J ?_
     have hw163:=zk (v:=x2.tdiv 8) (n:=8) (by decide)
     refine ad J (bu [_,_,_,_] J Y Y J (zT (cs:= [_,_,_,_,_,_,_,_]) rfl rfl rfl (by decide) rfl fun i166=> ?_))
     refine Z 2 J ?_
     have hpt:qH (zB x1 24) x2= [⟨1,4,0,zB x2 1000⟩,⟨4,4,6,8*qp x2+zB (x2.tdiv 8) 8⟩]:=by unfold qH;rw [if_neg (by omega),if_neg (by omega),if_neg (by omega),if_neg (by omega),if_neg (by omega),if_neg (by omega),if_neg (by omega),if_pos (by omega)]
     exact⟨i166,rfl,rfl,rfl,rfl,rfl,(by rw [hpt];rfl),(by rw [hpt];exact Sub.trans (Sub.one (K:=z8) (a:=i166) (K2:=zP qN 4) (a2:= .slice (some (i166,0)) 2 (some 2) 4) (x2:=([⟨1,4,0,zB x2 1000⟩,⟨4,4,6,8*qp x2+zB (x2.tdiv 8) 8⟩]:List yl)) (vy (en:=qN) (es:=4) (ys:=([⟨1,4,0,zB x2 1000⟩,⟨4,4,6,8*qp x2+zB (x2.tdiv 8) 8⟩]:List yl)) (fun _=>rfl) (by decide))) Y)⟩
    refine Z 7 J (z0 (fun h169=> ?_) (fun h169=> ?_))
    ·refine Z 5 J (ml J (Z 2 J (zf rfl (fun _=>zC rfl rfl rfl (yR (by assumption) (by omega))) ?_)))
     refine Z0 (wc _ _ _ (by omega)) J ?_
     have hw175:=zk (v:=x2.tdiv 8) (n:=8) (by decide)
     refine ad J (bu [_,_,_,_] J Y Y J (zT (cs:= [_,_,_,_]) rfl rfl rfl (by decide) rfl fun i178=> ?_))
     refine Z 2 J ?_
     have hpt:qH (zB x1 24) x2= [⟨3,3,6,8*qp x2+zB (x2.tdiv 8) 8⟩]:=by unfold qH;rw [if_neg (by omega),if_neg (by omega),if_neg (by omega),if_neg (by omega),if_neg (by omega),if_neg (by omega),if_neg (by omega),if_neg (by omega),if_pos (by omega)]
     exact⟨i178,rfl,rfl,rfl,rfl,rfl,(by rw [hpt];rfl),(by rw [hpt];exact Sub.trans (Sub.one (K:=z8) (a:=i178) (K2:=zP qN 4) (a2:= .slice (some (i178,0)) 1 (some 1) 4) (x2:=([⟨3,3,6,8*qp x2+zB (x2.tdiv 8) 8⟩]:List yl)) (vy (en:=qN) (es:=4) (ys:=([⟨3,3,6,8*qp x2+zB (x2.tdiv 8) 8⟩]:List yl)) (fun _=>rfl) (by decide))) Y)⟩
    refine Z 7 J (z0 (fun h181=> ?_) (fun h181=> ?_))
    ·refine Z 5 J (ml J (Z 2 J (zf rfl (fun _=>zC rfl rfl rfl (yR (by assumption) (by omega))) ?_)))
     refine Z0 (wc _ _ _ (by omega)) J ?_
     have hw187:=zk (v:=x2.tdiv 8) (n:=8) (by decide)
     refine ad J (bu [_,_,_,_] J Y Y J (zT (cs:= [_,_,_,_]) rfl rfl rfl (by decide) rfl fun i190=> ?_))
     refine Z 2 J ?_
     have hpt:qH (zB x1 24) x2= [⟨5,0,6,8*qp x2+zB (x2.tdiv 8) 8⟩]:=by unfold qH;rw [if_neg (by omega),if_neg (by omega),if_neg (by omega),if_neg (by omega),if_neg (by omega),if_neg (by omega),if_neg (by omega),if_neg (by omega),if_neg (by omega),if_pos (by omega)]
     exact⟨i190,rfl,rfl,rfl,rfl,rfl,(by rw [hpt];rfl),(by rw [hpt];exact Sub.trans (Sub.one (K:=z8) (a:=i190) (K2:=zP qN 4) (a2:= .slice (some (i190,0)) 1 (some 1) 4) (x2:=([⟨5,0,6,8*qp x2+zB (x2.tdiv 8) 8⟩]:List yl)) (vy (en:=qN) (es:=4) (ys:=([⟨5,0,6,8*qp x2+zB (x2.tdiv 8) 8⟩]:List yl)) (fun _=>rfl) (by decide))) Y)⟩
    refine Z 7 J (z0 (fun h193=> ?_) (fun h193=> ?_))
    ·refine Z 4 J (zT (cs:= [_,_,_,_,_,_]) rfl rfl rfl (by decide) rfl fun i194=> ?_)
     refine Z 2 J (Z0 (wc _ _ _ (by omega)) J (zR (Sub.one (K:=z8) (a:=i194) (K2:=uh yK 1) (a2:= .slice (some (i194,0)) 6 (some 6) 1) (x2:= [2048,2056,3584,4095,4096,65535]) (jm (l:= [2048,2056,3584,4095,4096,65535]))) ?_))
     have hw197:=zk (v:=x2) (n:=6) (by decide)
     have hp197:=QY (l:= [2048,2056,3584,4095,4096,65535]) (k:=zB (x2) 6) ⟨hw197.1,hw197.2⟩
     refine yo rfl (fun _ h=>Zm yK 1 rfl rfl rfl hw197.1 (by exact hw197.2) h) ?_
     refine yo rfl (fun _ h=>vn yK 1 (j:=0) rfl rfl rfl hp197 rfl h) ?_
     refine bu [_,_,_,_] J Y Y J (zT (cs:= [_,_,_,_]) rfl rfl rfl (by decide) rfl fun i201=> ?_)
     refine Z 2 J ?_
     have hpt:qH (zB x1 24) x2= [⟨3,5,6,pk [2048,2056,3584,4095,4096,65535] (zB x2 6)⟩]:=by unfold qH;rw [if_neg (by omega),if_neg (by omega),if_neg (by omega),if_neg (by omega),if_neg (by omega),if_neg (by omega),if_neg (by omega),if_neg (by omega),if_neg (by omega),if_neg (by omega),if_pos (by omega)]
     exact⟨i201,rfl,rfl,rfl,rfl,rfl,(by rw [hpt];rfl),(by rw [hpt];exact Sub.trans (Sub.one (K:=z8) (a:=i201) (K2:=zP qN 4) (a2:= .slice (some (i201,0)) 1 (some 1) 4) (x2:=([⟨3,5,6,pk [2048,2056,3584,4095,4096,65535] (zB x2 6)⟩]:List yl)) (vy (en:=qN) (es:=4) (ys:=([⟨3,5,6,pk [2048,2056,3584,4095,4096,65535] (zB x2 6)⟩]:List yl)) (fun _=>rfl) (by decide))) Y)⟩
    refine Z 7 J (z0 (fun h204=> ?_) (fun h204=> ?_))
    ·refine Z 6 J (Z0 (wc _ _ _ (by omega)) J (Z 2 J (zf rfl (fun _=>zC rfl rfl rfl (yR (by assumption) (by omega))) ?_)))
     refine Z0 (wc _ _ _ (by omega)) J (bu [_,_,_,_] J Y Y J (Z 2 J (zf rfl (fun _=>zC rfl rfl rfl (yR (by assumption) (by omega))) ?_)))
     refine Z0 (wc _ _ _ (by omega)) J (Z 2 J (zf rfl (fun _=>zC rfl rfl rfl (yR (by assumption) (by omega))) ?_))
     refine Z0 (wc _ _ _ (by omega)) J (bu [_,_,_,_] J Y Y J (zT (cs:= [_,_,_,_,_,_,_,_]) rfl rfl rfl (by decide) rfl fun i222=> ?_))
     refine Z 2 J ?_
     have hpt:qH (zB x1 24) x2= [⟨2,zB x2 6,zB (x2.tdiv 8) 6,0⟩,⟨6,zB (x2.tdiv 64) 8,0,zB (x2.tdiv 8) 24⟩]:=by unfold qH;rw [if_neg (by omega),if_neg (by omega),if_neg (by omega),if_neg (by omega),if_neg (by omega),if_neg (by omega),if_neg (by omega),if_neg (by omega),if_neg (by omega),if_neg (by omega),if_neg (by omega),if_pos (by omega)]
     exact⟨i222,rfl,rfl,rfl,rfl,rfl,(by rw [hpt];rfl),(by rw [hpt];exact Sub.trans (Sub.one (K:=z8) (a:=i222) (K2:=zP qN 4) (a2:= .slice (some (i222,0)) 2 (some 2) 4) (x2:=([⟨2,zB x2 6,zB (x2.tdiv 8) 6,0⟩,⟨6,zB (x2.tdiv 64) 8,0,zB (x2.tdiv 8) 24⟩]:List yl)) (vy (en:=qN) (es:=4) (ys:=([⟨2,zB x2 6,zB (x2.tdiv 8) 6,0⟩,⟨6,zB (x2.tdiv 64) 8,0,zB (x2.tdiv 8) 24⟩]:List yl)) (fun _=>rfl) (by decide))) Y)⟩
    refine Z 6 J (Z0 (wc _ _ _ (by omega)) J (Z 2 J (zf rfl (fun _=>zC rfl rfl rfl (yR (by assumption) (by omega))) ?_)))
    refine Z0 (wc _ _ _ (by omega)) J (Z 2 J (Z0 (wc _ _ _ (by omega)) J (bu [_,_,_,_] J Y Y J (zT (cs:= [_,_,_,_]) rfl rfl rfl (by decide) rfl fun i57=> ?_))))
    refine Z 2 J ?_
    have hpt:qH (zB x1 24) x2= [⟨4,zB x2 8,zB (x2.tdiv 8) 8,zB x2 4200⟩]:=by unfold qH;rw [if_neg (by omega),if_neg (by omega),if_neg (by omega),if_neg (by omega),if_neg (by omega),if_neg (by omega),if_neg (by omega),if_neg (by omega),if_neg (by omega),if_neg (by omega),if_neg (by omega),if_neg (by omega)]
    exact⟨i57,rfl,rfl,rfl,rfl,rfl,(by rw [hpt];rfl),(by rw [hpt];exact Sub.trans (Sub.one (K:=z8) (a:=i57) (K2:=zP qN 4) (a2:= .slice (some (i57,0)) 1 (some 1) 4) (x2:=([⟨4,zB x2 8,zB (x2.tdiv 8) 8,zB x2 4200⟩]:List yl)) (vy (en:=qN) (es:=4) (ys:=([⟨4,zB x2 8,zB (x2.tdiv 8) 8,zB x2 4200⟩]:List yl)) (fun _=>rfl) (by decide))) Y)⟩
   rintro T L0 ⟨i9,hl,g0,g3,g4,g5,g9,hsb⟩
   obtain⟨tg,rfl⟩:=ef hl g0 g3 g4 g5 g9
   clear hl g0 g3 g4 g5 g9
   refine zu hsb ?_
   clear hsb L0
   have hc24:=Q8 l m
   have hp4:=(tc (zB x1 24) x2).1
   refine O 3 J (yo rfl (fun _ h=>y0 rfl rfl rfl rfl rfl h) ?_)
   refine Z 1 J (yo rfl (fun _ h=>y0 rfl rfl rfl rfl rfl h) ?_)
   refine ad J (Z 1 J (z0 (fun h228=> ?_) (fun h228=> ?_)))
   ·refine Z 5 J (kG rfl rfl rfl rfl rfl rfl rfl (by omega) (fun _=>rfl) fun a231 c231 e231=> ?_)
    refine Z 4 J (ad J (Z 2 J ?_))
    have hcs:vz l (m+1)=vz l m++qH (zB x1 24) x2:=by show(if _ then _ else _)=_;rw [hg1,hg2,if_pos (by omega)]
    exact Or.inl ⟨rfl,_,by omega,m+1,_,by omega,rfl,rfl,rfl,rfl,rfl,rfl,(by rw [hcs];exact Y)⟩
   refine Z 5 J (ad J (Z 2 J ?_))
   have hcs:vz l (m+1)=vz l m:=by show(if _ then _ else _)=_;rw [hg1,hg2,if_neg (by omega)]
   exact Or.inl ⟨rfl,_,by omega,m+1,ov,by omega,rfl,rfl,rfl,rfl,rfl,rfl,(by rw [hcs];exact Y)⟩
  refine Z 4 J (Or.inr ⟨nofun,?_⟩)
  refine OX 6 J (zE J J J ?_)
  have hE:qa l=vz l m:=by unfold qa;congr 1;omega
  rw [hE]
  exact⟨_,rfl,Y⟩
 refine Z 7 J (Or.inr ⟨nofun,?_⟩)
 refine OX 6 J (zE J J J ?_)
 have hE:qa l=vz l m:=by unfold qa;congr 1;omega
 rw [hE]
 exact⟨_,rfl,Y⟩
end Go.Proofs.YtlhcpplnlgehbaaGreat
