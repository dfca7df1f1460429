/- Part of the proof: KVm2, KVm3, KVm4, KCpu, KSpec, KInsn, KRegs, KVm5, KVm6, KKern0. Names and blanks are cut short to keep within the size of a claim. -/
import Derived.Test.YtlhcpplnlgehbaaGreatM4
import Derived.Test.YtlhcpplnlgehbaaGreatM5
import Derived.Test.YtlhcpplnlgehbaaGreatM6
set_option linter.unusedVariables false
set_option linter.unusedSimpArgs false
set_option maxRecDepth 100000
namespace Go.Proofs.YtlhcpplnlgehbaaGreat
open Go Go.RowKit Go.Px
structure YV where
 W:Wd
 o:Int
 A:Nat→Int
 fm:List (Int×Int)
 sm:List (Int×Int)
 S:y5
def YV.Ok (X:YV):Prop:=YK X.fm∧YK X.sm
abbrev Es (v:Nat) (X:YV) (y:Nat×Nat×Nat×Nat):List SP:= [z3 zC v (mA X.W X.o y.1 y.2.1 y.2.2.1 y.2.2.2),z3 wD y.1 X.A,z3 ZM y.2.2.1 X.fm,z3 ZM y.2.2.2 X.sm,z3 we y.2.1 ⟨X.W.m,X.W.p,X.S⟩]
def WN (v:Nat) (X:YV):SP:=fun h=> ∃y:Nat×Nat×Nat×Nat,X.Ok∧Sat (Es v X y) h
theorem jK (v:Nat) (X:YV): ∀h,WN v X h→ ∃y:Nat×Nat×Nat×Nat,X.Ok∧Sat (Es v X y) h:=fun _ h=>h
theorem zt {v a s i j:Nat} {X:YV} (hX:X.Ok): ∀h,Sat [z3 zC v (mA X.W X.o a s i j),z3 wD a X.A,z3 ZM i X.fm,z3 ZM j X.sm,z3 we s ⟨X.W.m,X.W.p,X.S⟩] h→WN v X h:=fun _ x=>⟨(a,s,i,j),hX,x⟩
theorem bz (R:List SP) (v:Nat) (X:YV):yH 162 [vp v 0] (z3 WN v X::R) fun w L=>w= .tuple [vi (X.S.kernel:Nat),vi (X.S.user:Nat)]∧L=z3 WN v X::R:=by
 refine ze (jK v X) fun y hX=> ?_
 obtain⟨a,s,i,j⟩:=y
 dsimp only [Es,List.cons_append,List.nil_append]
 refine SW.intro rfl Tryz.func162 rfl ?_
 exact O0 9 J (fa J Y (ld J Y J (Z1 (ED _ _ _) J Y (Z 6 J (qt J J J J ⟨_,⟨rfl,rfl⟩,Sub.W9 (zt hX) Y⟩)))))
theorem YK.nil:YK []:=fun p hp=>by cases hp
theorem eW {α:Type} (x:Option α):(∃y,x=some y)∨x=none:=by cases x<;>simp
abbrev dC (W:Wd):List z0:= [vi W.fr,vi W.zE,.bool W.zM,.bool W.inv,vp W.m 0,vp W.p 0,vp W.sw 0,vi (W.mp:Nat),vi (W.gate:Nat)]
theorem Et (R:List SP) (W:Wd) (PB:W.mp<1099511627776) (P9:W.gate<1099511627776) (M:zF) (Rf:List (Int×Int)) (o:Int):yH 68 [.agg (dC W),vi o] (z3 zi W.p ⟨W.m,Rf⟩::z3 zY W.m M::R) fun w L=>match PM.space ⟨M,Rf⟩ W.zM W.mp W.gate o with
 |some (s,S)=> ∃v,w= .tuple [vp v 0,.bool true]∧L=z3 WN v ⟨W,o,qx,[],[],S⟩::z3 zi W.p ⟨W.m,s.R⟩::z3 zY W.m s.M::R
 |none=>w= .tuple [.ptr none,.bool false]∧L=z3 zi W.p ⟨W.m,Rf⟩::z3 zY W.m M::R:=by
 refine SW.intro rfl Tryz.func68 rfl ?_
 refine O0 2 J (yu rfl rfl rfl rfl fun i2=> ?_)
 refine Z 5 J (fa J Y (lN J Y Y J J (fa J Y (lN J Y Y J J (fa J Y (ld J Y J (fa J Y (ld J Y J (Z 1 J (VT (KM _ _ _ M Rf W.fr W.zE W.zM W.inv W.mp W.gate PB P9 o) rfl (fun _=>rfl) ?_))))))))))
 intro u18 L18 Hc
 rcases eW (PM.space ⟨M,Rf⟩ W.zM W.mp W.gate o)with⟨⟨s1,S1⟩,dQ⟩|dQ
 ·simp only [dQ]at Hc ⊢
  obtain⟨n18,rfl,rfl⟩:=Hc
  refine Z 15 J (zW [0,0,0,0,0,0,63,127,255,511] [([0,1,3,4,5],[0],some 2),([6,7,8,9],[0],none)] (by kernel_rfl) ?_)
  refine z7 (kv J Y Y J J (ZK 2 J (xz rfl rfl fun i27=> ?_)))
  refine xz rfl rfl fun i28=> ?_
  refine z8 ⟨(Wm J Y Y J J J (z6 _ rfl) z9),?_⟩
  refine qZ (BL _) rfl (fun _=>rfl) ?_
  rintro _ _ ⟨a25,rfl,rfl⟩
  refine zJ (z7 (cz [_,_,_,_,_,_,_,_,_,_,_,_,_,_] J Y Y J (r8 rfl rfl rfl rfl fun i30=> ?_)))
  refine ZK 2 J (z8 ⟨(Wm J Y Y J J J (z6 _ rfl) z9),?_⟩)
  exact OX 1 J (qt J J J J ⟨_,⟨i30,rfl,rfl⟩,Sub.W9 (zt (X:=⟨W,o,qx,[],[],S1⟩) ⟨YK.nil,YK.nil⟩) Y⟩)
 simp only [dQ]at Hc ⊢
 obtain⟨rfl,rfl⟩:=Hc
 exact Z 19 J (qt J J J J fq)
abbrev YV.of (X:YV) (x:zA):YV:=⟨X.W,X.o,x.A,x.fm,x.sm,x.S⟩
abbrev YV.st (X:YV) (s:PM) (w:Q4):zA:=⟨X.A,X.fm,X.sm,X.S,s,w⟩
theorem OY (R:List SP) (v:Nat) (X:YV) (M:zF) (Rf:List (Int×Int)) (Ws:Q4) (hT:X.S.tables.length≤800000) (z4:Int) (write:Bool):yH 191 [vp v 0,vi z4,.bool write] (z3 WN v X::z3 zi X.W.p ⟨X.W.m,Rf⟩::z3 zY X.W.m M::z3 yM X.W.sw Ws::R) fun w L=>w=vi (zA.fix (X.st ⟨M,Rf⟩ Ws) X.W.inv X.o z4 write).1∧L=z3 WN v (X.of (zA.fix (X.st ⟨M,Rf⟩ Ws) X.W.inv X.o z4 write).2)::z3 zi X.W.p ⟨X.W.m,(zA.fix (X.st ⟨M,Rf⟩ Ws) X.W.inv X.o z4 write).2.s.R⟩::z3 zY X.W.m (zA.fix (X.st ⟨M,Rf⟩ Ws) X.W.inv X.o z4 write).2.s.M::z3 yM X.W.sw (zA.fix (X.st ⟨M,Rf⟩ Ws) X.W.inv X.o z4 write).2.w::R:=by
 refine yl (qf X.W.m M) fun hM=> ?_
 have hn:M.n≤64:=hM.2.1
 refine ze (jK v X) fun y hX=> ?_
 obtain⟨a,s,i,j⟩:=y
 dsimp only [Es,List.cons_append,List.nil_append]
 refine yl (ns a X.A) fun hA=> ?_
 have hr3:=WW hA z4
 refine SW.intro rfl Tryz.func191 rfl ?_
 refine O0 8 J (fa J Y (ld J Y J (Z 1 J (Z1 (rZ _ _ _ _) J Y (Z 3 J (z5 (fun VI=> ?_) (fun VI=> ?_)))))))
 ·refine Z 16 J (z5 (fun Ja=> ?_) (fun Ja=> ?_))
  ·refine Z 15 J (zI J J J ?_)
   have e:zA.fix (zA.mk X.A X.fm X.sm X.S ⟨M,Rf⟩ Ws) X.W.inv X.o z4 write=(2,(zA.mk X.A X.fm X.sm X.S ⟨M,Rf⟩ Ws)):=(if_neg (fun k=>k VI)).trans (if_pos (.inl Ja))
   rw [e]
   exact⟨_,⟨rfl,rfl⟩,Sub.W9 (zt (X:=X.of (zA.mk X.A X.fm X.sm X.S ⟨M,Rf⟩ Ws)) ⟨hX.1,hX.2⟩) Y⟩
  refine Z 2 J (zV (fun QN=> ?_) (fun QN=> ?_))
  ·subst QN
   refine Z 2 J (Z0 (mB _ _ (by assumption)) J (z5 (fun Uy=> ?_) (fun Uy=> ?_)))
   ·refine Z 11 J (fa J Y (ld J Y J (Z 1 J (qJ rfl (fun _ h=>Yv rfl rfl rfl h) ?_))))
    refine Z 3 J (zV (fun GW=> ?_) (fun GW=> ?_))
    ·refine Z 10 J (Z8 (lC _ _ X.W X.o a s i j X.A X.fm X.sm Rf hX.1 hX.2 M X.S (by omega) Ws z4 ((qH X.sm z4).getD 0)) J Y Y Y Y Y Y Y Y (zV (fun pW=> ?_) (fun pW=> ?_)))
     ·refine Z 7 J (zW [0,1,3,7,15,31,63,3,131,387,899,3,3971,8191,16383,32767,65535,131071,131071,524287,1048575,2097151] [([0,1,2,3,4,5,6,7,8,9,10,11,12],[6,10,12],some 13),([14,15,16,17,18],[14],some 19),([20,21],[],none)] (by kernel_rfl) ?_)
      refine z7 (ZK 4 J (zx J Y (zx J Y (q9 J Y J (ZK 2 J (zx J Y (q9 J Y J (ZK 1 J (jM rfl (fun _ h=>jQ rfl rfl rfl h) ?_)))))))))
      refine z8 ⟨(yN J Y J J J (yN J Y J J J (va rfl (fun _ h=>jQ rfl rfl rfl h) rfl rfl (z6 _ rfl) z9))),?_⟩
      refine Z1 (td _ _ _ _ _) J Y (zJ (z7 (ZK 1 J (ql (fun iS=> ?_) (fun iS=> ?_)))))
      ·refine ZK 4 J (z8 ⟨(gv J J J (by rw [decide_eq_true iS];rfl) z9),?_⟩)
       refine Z4 (oL _ _ X.W X.o a s i j (zA.zl (zA.mk X.A X.fm X.sm X.S ⟨M,Rf⟩ Ws) X.W.inv X.o z4 ((qH X.sm z4).getD 0)).2.fm (zA.zl (zA.mk X.A X.fm X.sm X.S ⟨M,Rf⟩ Ws) X.W.inv X.o z4 ((qH X.sm z4).getD 0)).2.s.R (zA.Ok.zl (x:=(zA.mk X.A X.fm X.sm X.S ⟨M,Rf⟩ Ws)) ⟨hX.1,hX.2,hn⟩ X.W.inv X.o z4 ((qH X.sm z4).getD 0)).f (zA.zl (zA.mk X.A X.fm X.sm X.S ⟨M,Rf⟩ Ws) X.W.inv X.o z4 ((qH X.sm z4).getD 0)).2.s.M z4) J Y Y Y Y (zV (fun HJ=> ?_) (fun HJ=> ?_))
       ·refine zJ (z7 (ZK 2 J (z8 ⟨z9,?_⟩)))
        refine OX 6 J (Z7 (gA _ _ X.W X.o a s i j (zA.zl (zA.mk X.A X.fm X.sm X.S ⟨M,Rf⟩ Ws) X.W.inv X.o z4 ((qH X.sm z4).getD 0)).2.A (uX (zA.zl (zA.mk X.A X.fm X.sm X.S ⟨M,Rf⟩ Ws) X.W.inv X.o z4 ((qH X.sm z4).getD 0)).2.fm ⟨(zA.zl (zA.mk X.A X.fm X.sm X.S ⟨M,Rf⟩ Ws) X.W.inv X.o z4 ((qH X.sm z4).getD 0)).2.s.M,(zA.zl (zA.mk X.A X.fm X.sm X.S ⟨M,Rf⟩ Ws) X.W.inv X.o z4 ((qH X.sm z4).getD 0)).2.s.R⟩ X.o z4).2.1 (zA.zl (zA.mk X.A X.fm X.sm X.S ⟨M,Rf⟩ Ws) X.W.inv X.o z4 ((qH X.sm z4).getD 0)).2.sm (uX (zA.zl (zA.mk X.A X.fm X.sm X.S ⟨M,Rf⟩ Ws) X.W.inv X.o z4 ((qH X.sm z4).getD 0)).2.fm ⟨(zA.zl (zA.mk X.A X.fm X.sm X.S ⟨M,Rf⟩ Ws) X.W.inv X.o z4 ((qH X.sm z4).getD 0)).2.s.M,(zA.zl (zA.mk X.A X.fm X.sm X.S ⟨M,Rf⟩ Ws) X.W.inv X.o z4 ((qH X.sm z4).getD 0)).2.s.R⟩ X.o z4).2.2.R (QF (s:=⟨(zA.zl (zA.mk X.A X.fm X.sm X.S ⟨M,Rf⟩ Ws) X.W.inv X.o z4 ((qH X.sm z4).getD 0)).2.s.M,(zA.zl (zA.mk X.A X.fm X.sm X.S ⟨M,Rf⟩ Ws) X.W.inv X.o z4 ((qH X.sm z4).getD 0)).2.s.R⟩) (zA.Ok.zl (x:=(zA.mk X.A X.fm X.sm X.S ⟨M,Rf⟩ Ws)) ⟨hX.1,hX.2,hn⟩ X.W.inv X.o z4 ((qH X.sm z4).getD 0)).f (zA.Ok.zl (x:=(zA.mk X.A X.fm X.sm X.S ⟨M,Rf⟩ Ws)) ⟨hX.1,hX.2,hn⟩ X.W.inv X.o z4 ((qH X.sm z4).getD 0)).n X.o z4).1 (zA.Ok.zl (x:=(zA.mk X.A X.fm X.sm X.S ⟨M,Rf⟩ Ws)) ⟨hX.1,hX.2,hn⟩ X.W.inv X.o z4 ((qH X.sm z4).getD 0)).s (uX (zA.zl (zA.mk X.A X.fm X.sm X.S ⟨M,Rf⟩ Ws) X.W.inv X.o z4 ((qH X.sm z4).getD 0)).2.fm ⟨(zA.zl (zA.mk X.A X.fm X.sm X.S ⟨M,Rf⟩ Ws) X.W.inv X.o z4 ((qH X.sm z4).getD 0)).2.s.M,(zA.zl (zA.mk X.A X.fm X.sm X.S ⟨M,Rf⟩ Ws) X.W.inv X.o z4 ((qH X.sm z4).getD 0)).2.s.R⟩ X.o z4).2.2.M (zA.zl (zA.mk X.A X.fm X.sm X.S ⟨M,Rf⟩ Ws) X.W.inv X.o z4 ((qH X.sm z4).getD 0)).2.S (Nat.le_trans (Gf (zA.mk X.A X.fm X.sm X.S ⟨M,Rf⟩ Ws) X.W.inv X.o z4 ((qH X.sm z4).getD 0)) (by show X.S.tables.length+2≤900000;omega)) z4) J Y Y Y Y Y Y Y (Z 6 J (zI J J J ?_)))
        have hr: ¬(yO X.A z4=0∨(true=true∧yO X.A z4≠3)):=by
         rintro (h|⟨h,h2⟩)
         ·exact Ja h
         exact h2 Uy
        have e:zA.fix (zA.mk X.A X.fm X.sm X.S ⟨M,Rf⟩ Ws) X.W.inv X.o z4 true=(0,(zA.part (zA.zl (zA.mk X.A X.fm X.sm X.S ⟨M,Rf⟩ Ws) X.W.inv X.o z4 ((qH X.sm z4).getD 0)).2 X.o z4).2.tell X.W.inv z4):=(ji (x:=(zA.mk X.A X.fm X.sm X.S ⟨M,Rf⟩ Ws)) VI hr).trans ((kY GW pW).trans (ae ⟨rfl,iS⟩ HJ))
        rw [e]
        exact⟨_,⟨rfl,rfl⟩,Sub.W9 (zt (X:=X.of ((zA.part (zA.zl (zA.mk X.A X.fm X.sm X.S ⟨M,Rf⟩ Ws) X.W.inv X.o z4 ((qH X.sm z4).getD 0)).2 X.o z4).2.tell X.W.inv z4)) ⟨(QF (s:=⟨(zA.zl (zA.mk X.A X.fm X.sm X.S ⟨M,Rf⟩ Ws) X.W.inv X.o z4 ((qH X.sm z4).getD 0)).2.s.M,(zA.zl (zA.mk X.A X.fm X.sm X.S ⟨M,Rf⟩ Ws) X.W.inv X.o z4 ((qH X.sm z4).getD 0)).2.s.R⟩) (zA.Ok.zl (x:=(zA.mk X.A X.fm X.sm X.S ⟨M,Rf⟩ Ws)) ⟨hX.1,hX.2,hn⟩ X.W.inv X.o z4 ((qH X.sm z4).getD 0)).f (zA.Ok.zl (x:=(zA.mk X.A X.fm X.sm X.S ⟨M,Rf⟩ Ws)) ⟨hX.1,hX.2,hn⟩ X.W.inv X.o z4 ((qH X.sm z4).getD 0)).n X.o z4).1,(zA.Ok.zl (x:=(zA.mk X.A X.fm X.sm X.S ⟨M,Rf⟩ Ws)) ⟨hX.1,hX.2,hn⟩ X.W.inv X.o z4 ((qH X.sm z4).getD 0)).s⟩) Y⟩
       refine zJ (z7 (ZK 2 J (z8 ⟨z9,?_⟩)))
       refine OX 6 J (zI J J J ?_)
       have hr: ¬(yO X.A z4=0∨(true=true∧yO X.A z4≠3)):=by
        rintro (h|⟨h,h2⟩)
        ·exact Ja h
        exact h2 Uy
       have e:zA.fix (zA.mk X.A X.fm X.sm X.S ⟨M,Rf⟩ Ws) X.W.inv X.o z4 true=(5,(zA.part (zA.zl (zA.mk X.A X.fm X.sm X.S ⟨M,Rf⟩ Ws) X.W.inv X.o z4 ((qH X.sm z4).getD 0)).2 X.o z4).2):=(ji (x:=(zA.mk X.A X.fm X.sm X.S ⟨M,Rf⟩ Ws)) VI hr).trans ((kY GW pW).trans (fe ⟨rfl,iS⟩ HJ))
       rw [e]
       exact⟨_,⟨rfl,rfl⟩,Sub.W9 (zt (X:=X.of (zA.part (zA.zl (zA.mk X.A X.fm X.sm X.S ⟨M,Rf⟩ Ws) X.W.inv X.o z4 ((qH X.sm z4).getD 0)).2 X.o z4).2) ⟨(QF (s:=⟨(zA.zl (zA.mk X.A X.fm X.sm X.S ⟨M,Rf⟩ Ws) X.W.inv X.o z4 ((qH X.sm z4).getD 0)).2.s.M,(zA.zl (zA.mk X.A X.fm X.sm X.S ⟨M,Rf⟩ Ws) X.W.inv X.o z4 ((qH X.sm z4).getD 0)).2.s.R⟩) (zA.Ok.zl (x:=(zA.mk X.A X.fm X.sm X.S ⟨M,Rf⟩ Ws)) ⟨hX.1,hX.2,hn⟩ X.W.inv X.o z4 ((qH X.sm z4).getD 0)).f (zA.Ok.zl (x:=(zA.mk X.A X.fm X.sm X.S ⟨M,Rf⟩ Ws)) ⟨hX.1,hX.2,hn⟩ X.W.inv X.o z4 ((qH X.sm z4).getD 0)).n X.o z4).1,(zA.Ok.zl (x:=(zA.mk X.A X.fm X.sm X.S ⟨M,Rf⟩ Ws)) ⟨hX.1,hX.2,hn⟩ X.W.inv X.o z4 ((qH X.sm z4).getD 0)).s⟩) Y⟩
      refine ZK 4 J (z8 ⟨(gv J J J (by rw [decide_eq_false iS];rfl) z9),?_⟩)
      refine ZT rfl (zJ (z7 (ZK 2 J (z8 ⟨z9,?_⟩))))
      refine OX 6 J (Z7 (gA _ _ X.W X.o a s i j (zA.zl (zA.mk X.A X.fm X.sm X.S ⟨M,Rf⟩ Ws) X.W.inv X.o z4 ((qH X.sm z4).getD 0)).2.A (zA.zl (zA.mk X.A X.fm X.sm X.S ⟨M,Rf⟩ Ws) X.W.inv X.o z4 ((qH X.sm z4).getD 0)).2.fm (zA.zl (zA.mk X.A X.fm X.sm X.S ⟨M,Rf⟩ Ws) X.W.inv X.o z4 ((qH X.sm z4).getD 0)).2.sm (zA.zl (zA.mk X.A X.fm X.sm X.S ⟨M,Rf⟩ Ws) X.W.inv X.o z4 ((qH X.sm z4).getD 0)).2.s.R (zA.Ok.zl (x:=(zA.mk X.A X.fm X.sm X.S ⟨M,Rf⟩ Ws)) ⟨hX.1,hX.2,hn⟩ X.W.inv X.o z4 ((qH X.sm z4).getD 0)).f (zA.Ok.zl (x:=(zA.mk X.A X.fm X.sm X.S ⟨M,Rf⟩ Ws)) ⟨hX.1,hX.2,hn⟩ X.W.inv X.o z4 ((qH X.sm z4).getD 0)).s (zA.zl (zA.mk X.A X.fm X.sm X.S ⟨M,Rf⟩ Ws) X.W.inv X.o z4 ((qH X.sm z4).getD 0)).2.s.M (zA.zl (zA.mk X.A X.fm X.sm X.S ⟨M,Rf⟩ Ws) X.W.inv X.o z4 ((qH X.sm z4).getD 0)).2.S (Nat.le_trans (Gf (zA.mk X.A X.fm X.sm X.S ⟨M,Rf⟩ Ws) X.W.inv X.o z4 ((qH X.sm z4).getD 0)) (by show X.S.tables.length+2≤900000;omega)) z4) J Y Y Y Y Y Y Y (Z 6 J (zI J J J ?_)))
      have hr: ¬(yO X.A z4=0∨(true=true∧yO X.A z4≠3)):=by
       rintro (h|⟨h,h2⟩)
       ·exact Ja h
       exact h2 Uy
      have e:zA.fix (zA.mk X.A X.fm X.sm X.S ⟨M,Rf⟩ Ws) X.W.inv X.o z4 true=(0,zA.tell (zA.zl (zA.mk X.A X.fm X.sm X.S ⟨M,Rf⟩ Ws) X.W.inv X.o z4 ((qH X.sm z4).getD 0)).2 X.W.inv z4):=(ji (x:=(zA.mk X.A X.fm X.sm X.S ⟨M,Rf⟩ Ws)) VI hr).trans ((kY GW pW).trans (kZ (fun k=>iS k.2)))
      rw [e]
      exact⟨_,⟨rfl,rfl⟩,Sub.W9 (zt (X:=X.of (zA.tell (zA.zl (zA.mk X.A X.fm X.sm X.S ⟨M,Rf⟩ Ws) X.W.inv X.o z4 ((qH X.sm z4).getD 0)).2 X.W.inv z4)) ⟨(zA.Ok.zl (x:=(zA.mk X.A X.fm X.sm X.S ⟨M,Rf⟩ Ws)) ⟨hX.1,hX.2,hn⟩ X.W.inv X.o z4 ((qH X.sm z4).getD 0)).f,(zA.Ok.zl (x:=(zA.mk X.A X.fm X.sm X.S ⟨M,Rf⟩ Ws)) ⟨hX.1,hX.2,hn⟩ X.W.inv X.o z4 ((qH X.sm z4).getD 0)).s⟩) Y⟩
     refine Z 9 J (zI J J J ?_)
     have hr: ¬(yO X.A z4=0∨(true=true∧yO X.A z4≠3)):=by
      rintro (h|⟨h,h2⟩)
      ·exact Ja h
      exact h2 Uy
     have e:zA.fix (zA.mk X.A X.fm X.sm X.S ⟨M,Rf⟩ Ws) X.W.inv X.o z4 true=(5,(zA.zl (zA.mk X.A X.fm X.sm X.S ⟨M,Rf⟩ Ws) X.W.inv X.o z4 ((qH X.sm z4).getD 0)).2):=(ji (x:=(zA.mk X.A X.fm X.sm X.S ⟨M,Rf⟩ Ws)) VI hr).trans (fc GW pW)
     rw [e]
     exact⟨_,⟨rfl,rfl⟩,Sub.W9 (zt (X:=X.of (zA.zl (zA.mk X.A X.fm X.sm X.S ⟨M,Rf⟩ Ws) X.W.inv X.o z4 ((qH X.sm z4).getD 0)).2) ⟨(zA.Ok.zl (x:=(zA.mk X.A X.fm X.sm X.S ⟨M,Rf⟩ Ws)) ⟨hX.1,hX.2,hn⟩ X.W.inv X.o z4 ((qH X.sm z4).getD 0)).f,(zA.Ok.zl (x:=(zA.mk X.A X.fm X.sm X.S ⟨M,Rf⟩ Ws)) ⟨hX.1,hX.2,hn⟩ X.W.inv X.o z4 ((qH X.sm z4).getD 0)).s⟩) Y⟩
    refine Z 18 J (zW [0,1,3,7,15,31,63,3,131,387,899,3,3971,8191,16383,32767,65535,131071,131071,524287,1048575,2097151] [([0,1,2,3,4,5,6,7,8,9,10,11,12],[6,10,12],some 13),([14,15,16,17,18],[14],some 19),([20,21],[],none)] (by kernel_rfl) ?_)
    refine z7 (ZK 4 J (zx J Y (zx J Y (q9 J Y J (ZK 2 J (zx J Y (q9 J Y J (ZK 1 J (jM rfl (fun _ h=>jQ rfl rfl rfl h) ?_)))))))))
    refine z8 ⟨(yN J Y J J J (yN J Y J J J (va rfl (fun _ h=>jQ rfl rfl rfl h) rfl rfl (z6 _ rfl) z9))),?_⟩
    refine Z1 (td _ _ _ _ _) J Y (zJ (z7 (ZK 1 J (ql (fun iS=> ?_) (fun iS=> ?_)))))
    ·refine ZK 4 J (z8 ⟨(gv J J J (by rw [decide_eq_true iS];rfl) z9),?_⟩)
     refine Z4 (oL _ _ X.W X.o a s i j (zA.mk X.A X.fm X.sm X.S ⟨M,Rf⟩ Ws).fm (zA.mk X.A X.fm X.sm X.S ⟨M,Rf⟩ Ws).s.R (zA.Ok.mk (x:=(zA.mk X.A X.fm X.sm X.S ⟨M,Rf⟩ Ws)) hX.1 hX.2 hn).f (zA.mk X.A X.fm X.sm X.S ⟨M,Rf⟩ Ws).s.M z4) J Y Y Y Y (zV (fun HJ=> ?_) (fun HJ=> ?_))
     ·refine zJ (z7 (ZK 2 J (z8 ⟨z9,?_⟩)))
      refine OX 6 J (Z7 (gA _ _ X.W X.o a s i j (zA.mk X.A X.fm X.sm X.S ⟨M,Rf⟩ Ws).A (uX (zA.mk X.A X.fm X.sm X.S ⟨M,Rf⟩ Ws).fm ⟨(zA.mk X.A X.fm X.sm X.S ⟨M,Rf⟩ Ws).s.M,(zA.mk X.A X.fm X.sm X.S ⟨M,Rf⟩ Ws).s.R⟩ X.o z4).2.1 (zA.mk X.A X.fm X.sm X.S ⟨M,Rf⟩ Ws).sm (uX (zA.mk X.A X.fm X.sm X.S ⟨M,Rf⟩ Ws).fm ⟨(zA.mk X.A X.fm X.sm X.S ⟨M,Rf⟩ Ws).s.M,(zA.mk X.A X.fm X.sm X.S ⟨M,Rf⟩ Ws).s.R⟩ X.o z4).2.2.R (QF (s:=⟨(zA.mk X.A X.fm X.sm X.S ⟨M,Rf⟩ Ws).s.M,(zA.mk X.A X.fm X.sm X.S ⟨M,Rf⟩ Ws).s.R⟩) (zA.Ok.mk (x:=(zA.mk X.A X.fm X.sm X.S ⟨M,Rf⟩ Ws)) hX.1 hX.2 hn).f (zA.Ok.mk (x:=(zA.mk X.A X.fm X.sm X.S ⟨M,Rf⟩ Ws)) hX.1 hX.2 hn).n X.o z4).1 (zA.Ok.mk (x:=(zA.mk X.A X.fm X.sm X.S ⟨M,Rf⟩ Ws)) hX.1 hX.2 hn).s (uX (zA.mk X.A X.fm X.sm X.S ⟨M,Rf⟩ Ws).fm ⟨(zA.mk X.A X.fm X.sm X.S ⟨M,Rf⟩ Ws).s.M,(zA.mk X.A X.fm X.sm X.S ⟨M,Rf⟩ Ws).s.R⟩ X.o z4).2.2.M (zA.mk X.A X.fm X.sm X.S ⟨M,Rf⟩ Ws).S (by show X.S.tables.length≤900000;omega) z4) J Y Y Y Y Y Y Y (Z 6 J (zI J J J ?_)))
      have hr: ¬(yO X.A z4=0∨(true=true∧yO X.A z4≠3)):=by
       rintro (h|⟨h,h2⟩)
       ·exact Ja h
       exact h2 Uy
      have e:zA.fix (zA.mk X.A X.fm X.sm X.S ⟨M,Rf⟩ Ws) X.W.inv X.o z4 true=(0,(zA.part (zA.mk X.A X.fm X.sm X.S ⟨M,Rf⟩ Ws) X.o z4).2.tell X.W.inv z4):=(ji (x:=(zA.mk X.A X.fm X.sm X.S ⟨M,Rf⟩ Ws)) VI hr).trans ((kX GW).trans (ae ⟨rfl,iS⟩ HJ))
      rw [e]
      exact⟨_,⟨rfl,rfl⟩,Sub.W9 (zt (X:=X.of ((zA.part (zA.mk X.A X.fm X.sm X.S ⟨M,Rf⟩ Ws) X.o z4).2.tell X.W.inv z4)) ⟨(QF (s:=⟨(zA.mk X.A X.fm X.sm X.S ⟨M,Rf⟩ Ws).s.M,(zA.mk X.A X.fm X.sm X.S ⟨M,Rf⟩ Ws).s.R⟩) (zA.Ok.mk (x:=(zA.mk X.A X.fm X.sm X.S ⟨M,Rf⟩ Ws)) hX.1 hX.2 hn).f (zA.Ok.mk (x:=(zA.mk X.A X.fm X.sm X.S ⟨M,Rf⟩ Ws)) hX.1 hX.2 hn).n X.o z4).1,(zA.Ok.mk (x:=(zA.mk X.A X.fm X.sm X.S ⟨M,Rf⟩ Ws)) hX.1 hX.2 hn).s⟩) Y⟩
     refine zJ (z7 (ZK 2 J (z8 ⟨z9,?_⟩)))
     refine OX 6 J (zI J J J ?_)
     have hr: ¬(yO X.A z4=0∨(true=true∧yO X.A z4≠3)):=by
      rintro (h|⟨h,h2⟩)
      ·exact Ja h
      exact h2 Uy
     have e:zA.fix (zA.mk X.A X.fm X.sm X.S ⟨M,Rf⟩ Ws) X.W.inv X.o z4 true=(5,(zA.part (zA.mk X.A X.fm X.sm X.S ⟨M,Rf⟩ Ws) X.o z4).2):=(ji (x:=(zA.mk X.A X.fm X.sm X.S ⟨M,Rf⟩ Ws)) VI hr).trans ((kX GW).trans (fe ⟨rfl,iS⟩ HJ))
     rw [e]
     exact⟨_,⟨rfl,rfl⟩,Sub.W9 (zt (X:=X.of (zA.part (zA.mk X.A X.fm X.sm X.S ⟨M,Rf⟩ Ws) X.o z4).2) ⟨(QF (s:=⟨(zA.mk X.A X.fm X.sm X.S ⟨M,Rf⟩ Ws).s.M,(zA.mk X.A X.fm X.sm X.S ⟨M,Rf⟩ Ws).s.R⟩) (zA.Ok.mk (x:=(zA.mk X.A X.fm X.sm X.S ⟨M,Rf⟩ Ws)) hX.1 hX.2 hn).f (zA.Ok.mk (x:=(zA.mk X.A X.fm X.sm X.S ⟨M,Rf⟩ Ws)) hX.1 hX.2 hn).n X.o z4).1,(zA.Ok.mk (x:=(zA.mk X.A X.fm X.sm X.S ⟨M,Rf⟩ Ws)) hX.1 hX.2 hn).s⟩) Y⟩
    refine ZK 4 J (z8 ⟨(gv J J J (by rw [decide_eq_false iS];rfl) z9),?_⟩)
    refine ZT rfl (zJ (z7 (ZK 2 J (z8 ⟨z9,?_⟩))))
    refine OX 6 J (Z7 (gA _ _ X.W X.o a s i j (zA.mk X.A X.fm X.sm X.S ⟨M,Rf⟩ Ws).A (zA.mk X.A X.fm X.sm X.S ⟨M,Rf⟩ Ws).fm (zA.mk X.A X.fm X.sm X.S ⟨M,Rf⟩ Ws).sm (zA.mk X.A X.fm X.sm X.S ⟨M,Rf⟩ Ws).s.R (zA.Ok.mk (x:=(zA.mk X.A X.fm X.sm X.S ⟨M,Rf⟩ Ws)) hX.1 hX.2 hn).f (zA.Ok.mk (x:=(zA.mk X.A X.fm X.sm X.S ⟨M,Rf⟩ Ws)) hX.1 hX.2 hn).s (zA.mk X.A X.fm X.sm X.S ⟨M,Rf⟩ Ws).s.M (zA.mk X.A X.fm X.sm X.S ⟨M,Rf⟩ Ws).S (by show X.S.tables.length≤900000;omega) z4) J Y Y Y Y Y Y Y (Z 6 J (zI J J J ?_)))
    have hr: ¬(yO X.A z4=0∨(true=true∧yO X.A z4≠3)):=by
     rintro (h|⟨h,h2⟩)
     ·exact Ja h
     exact h2 Uy
    have e:zA.fix (zA.mk X.A X.fm X.sm X.S ⟨M,Rf⟩ Ws) X.W.inv X.o z4 true=(0,zA.tell (zA.mk X.A X.fm X.sm X.S ⟨M,Rf⟩ Ws) X.W.inv z4):=(ji (x:=(zA.mk X.A X.fm X.sm X.S ⟨M,Rf⟩ Ws)) VI hr).trans ((kX GW).trans (kZ (fun k=>iS k.2)))
    rw [e]
    exact⟨_,⟨rfl,rfl⟩,Sub.W9 (zt (X:=X.of (zA.tell (zA.mk X.A X.fm X.sm X.S ⟨M,Rf⟩ Ws) X.W.inv z4)) ⟨(zA.Ok.mk (x:=(zA.mk X.A X.fm X.sm X.S ⟨M,Rf⟩ Ws)) hX.1 hX.2 hn).f,(zA.Ok.mk (x:=(zA.mk X.A X.fm X.sm X.S ⟨M,Rf⟩ Ws)) hX.1 hX.2 hn).s⟩) Y⟩
   refine Z 10 J (zI J J J ?_)
   have e:zA.fix (zA.mk X.A X.fm X.sm X.S ⟨M,Rf⟩ Ws) X.W.inv X.o z4 true=(2,(zA.mk X.A X.fm X.sm X.S ⟨M,Rf⟩ Ws)):=(if_neg (fun k=>k VI)).trans (if_pos (.inr ⟨rfl,Uy⟩))
   rw [e]
   exact⟨_,⟨rfl,rfl⟩,Sub.W9 (zt (X:=X.of (zA.mk X.A X.fm X.sm X.S ⟨M,Rf⟩ Ws)) ⟨hX.1,hX.2⟩) Y⟩
  subst QN
  refine Z 14 J (fa J Y (ld J Y J (Z 1 J (qJ rfl (fun _ h=>Yv rfl rfl rfl h) ?_))))
  refine Z 3 J (zV (fun GW=> ?_) (fun GW=> ?_))
  ·refine Z 10 J (Z8 (lC _ _ X.W X.o a s i j X.A X.fm X.sm Rf hX.1 hX.2 M X.S (by omega) Ws z4 ((qH X.sm z4).getD 0)) J Y Y Y Y Y Y Y Y (zV (fun pW=> ?_) (fun pW=> ?_)))
   ·refine Z 7 J (zW [0,1,3,7,15,31,63,3,131,387,899,3,3971,8191,16383,32767,65535,131071,131071,524287,1048575,2097151] [([0,1,2,3,4,5,6,7,8,9,10,11,12],[6,10,12],some 13),([14,15,16,17,18],[14],some 19),([20,21],[],none)] (by kernel_rfl) ?_)
    refine z7 (ZK 13 J (z8 ⟨(yG rfl (yG rfl (yG rfl z9))),?_⟩))
    refine ZT rfl (zJ (z7 (ZK 5 J (z8 ⟨(yG rfl z9),?_⟩))))
    refine ZT rfl (zJ (z7 (ZK 2 J (z8 ⟨z9,?_⟩))))
    refine OX 6 J (Z7 (gA _ _ X.W X.o a s i j (zA.zl (zA.mk X.A X.fm X.sm X.S ⟨M,Rf⟩ Ws) X.W.inv X.o z4 ((qH X.sm z4).getD 0)).2.A (zA.zl (zA.mk X.A X.fm X.sm X.S ⟨M,Rf⟩ Ws) X.W.inv X.o z4 ((qH X.sm z4).getD 0)).2.fm (zA.zl (zA.mk X.A X.fm X.sm X.S ⟨M,Rf⟩ Ws) X.W.inv X.o z4 ((qH X.sm z4).getD 0)).2.sm (zA.zl (zA.mk X.A X.fm X.sm X.S ⟨M,Rf⟩ Ws) X.W.inv X.o z4 ((qH X.sm z4).getD 0)).2.s.R (zA.Ok.zl (x:=(zA.mk X.A X.fm X.sm X.S ⟨M,Rf⟩ Ws)) ⟨hX.1,hX.2,hn⟩ X.W.inv X.o z4 ((qH X.sm z4).getD 0)).f (zA.Ok.zl (x:=(zA.mk X.A X.fm X.sm X.S ⟨M,Rf⟩ Ws)) ⟨hX.1,hX.2,hn⟩ X.W.inv X.o z4 ((qH X.sm z4).getD 0)).s (zA.zl (zA.mk X.A X.fm X.sm X.S ⟨M,Rf⟩ Ws) X.W.inv X.o z4 ((qH X.sm z4).getD 0)).2.s.M (zA.zl (zA.mk X.A X.fm X.sm X.S ⟨M,Rf⟩ Ws) X.W.inv X.o z4 ((qH X.sm z4).getD 0)).2.S (Nat.le_trans (Gf (zA.mk X.A X.fm X.sm X.S ⟨M,Rf⟩ Ws) X.W.inv X.o z4 ((qH X.sm z4).getD 0)) (by show X.S.tables.length+2≤900000;omega)) z4) J Y Y Y Y Y Y Y (Z 6 J (zI J J J ?_)))
    have hr: ¬(yO X.A z4=0∨(false=true∧yO X.A z4≠3)):=by
     rintro (h|⟨h,h2⟩)
     ·exact Ja h
     cases h
    have e:zA.fix (zA.mk X.A X.fm X.sm X.S ⟨M,Rf⟩ Ws) X.W.inv X.o z4 false=(0,zA.tell (zA.zl (zA.mk X.A X.fm X.sm X.S ⟨M,Rf⟩ Ws) X.W.inv X.o z4 ((qH X.sm z4).getD 0)).2 X.W.inv z4):=(ji (x:=(zA.mk X.A X.fm X.sm X.S ⟨M,Rf⟩ Ws)) VI hr).trans ((kY GW pW).trans (kZ (fun k=>by cases k.1)))
    rw [e]
    exact⟨_,⟨rfl,rfl⟩,Sub.W9 (zt (X:=X.of (zA.tell (zA.zl (zA.mk X.A X.fm X.sm X.S ⟨M,Rf⟩ Ws) X.W.inv X.o z4 ((qH X.sm z4).getD 0)).2 X.W.inv z4)) ⟨(zA.Ok.zl (x:=(zA.mk X.A X.fm X.sm X.S ⟨M,Rf⟩ Ws)) ⟨hX.1,hX.2,hn⟩ X.W.inv X.o z4 ((qH X.sm z4).getD 0)).f,(zA.Ok.zl (x:=(zA.mk X.A X.fm X.sm X.S ⟨M,Rf⟩ Ws)) ⟨hX.1,hX.2,hn⟩ X.W.inv X.o z4 ((qH X.sm z4).getD 0)).s⟩) Y⟩
   refine Z 9 J (zI J J J ?_)
   have hr: ¬(yO X.A z4=0∨(false=true∧yO X.A z4≠3)):=by
    rintro (h|⟨h,h2⟩)
    ·exact Ja h
    cases h
   have e:zA.fix (zA.mk X.A X.fm X.sm X.S ⟨M,Rf⟩ Ws) X.W.inv X.o z4 false=(5,(zA.zl (zA.mk X.A X.fm X.sm X.S ⟨M,Rf⟩ Ws) X.W.inv X.o z4 ((qH X.sm z4).getD 0)).2):=(ji (x:=(zA.mk X.A X.fm X.sm X.S ⟨M,Rf⟩ Ws)) VI hr).trans (fc GW pW)
   rw [e]
   exact⟨_,⟨rfl,rfl⟩,Sub.W9 (zt (X:=X.of (zA.zl (zA.mk X.A X.fm X.sm X.S ⟨M,Rf⟩ Ws) X.W.inv X.o z4 ((qH X.sm z4).getD 0)).2) ⟨(zA.Ok.zl (x:=(zA.mk X.A X.fm X.sm X.S ⟨M,Rf⟩ Ws)) ⟨hX.1,hX.2,hn⟩ X.W.inv X.o z4 ((qH X.sm z4).getD 0)).f,(zA.Ok.zl (x:=(zA.mk X.A X.fm X.sm X.S ⟨M,Rf⟩ Ws)) ⟨hX.1,hX.2,hn⟩ X.W.inv X.o z4 ((qH X.sm z4).getD 0)).s⟩) Y⟩
  refine Z 18 J (zW [0,1,3,7,15,31,63,3,131,387,899,3,3971,8191,16383,32767,65535,131071,131071,524287,1048575,2097151] [([0,1,2,3,4,5,6,7,8,9,10,11,12],[6,10,12],some 13),([14,15,16,17,18],[14],some 19),([20,21],[],none)] (by kernel_rfl) ?_)
  refine z7 (ZK 13 J (z8 ⟨(yG rfl (yG rfl (yG rfl z9))),?_⟩))
  refine ZT rfl (zJ (z7 (ZK 5 J (z8 ⟨(yG rfl z9),?_⟩))))
  refine ZT rfl (zJ (z7 (ZK 2 J (z8 ⟨z9,?_⟩))))
  refine OX 6 J (Z7 (gA _ _ X.W X.o a s i j (zA.mk X.A X.fm X.sm X.S ⟨M,Rf⟩ Ws).A (zA.mk X.A X.fm X.sm X.S ⟨M,Rf⟩ Ws).fm (zA.mk X.A X.fm X.sm X.S ⟨M,Rf⟩ Ws).sm (zA.mk X.A X.fm X.sm X.S ⟨M,Rf⟩ Ws).s.R (zA.Ok.mk (x:=(zA.mk X.A X.fm X.sm X.S ⟨M,Rf⟩ Ws)) hX.1 hX.2 hn).f (zA.Ok.mk (x:=(zA.mk X.A X.fm X.sm X.S ⟨M,Rf⟩ Ws)) hX.1 hX.2 hn).s (zA.mk X.A X.fm X.sm X.S ⟨M,Rf⟩ Ws).s.M (zA.mk X.A X.fm X.sm X.S ⟨M,Rf⟩ Ws).S (by show X.S.tables.length≤900000;omega) z4) J Y Y Y Y Y Y Y (Z 6 J (zI J J J ?_)))
  have hr: ¬(yO X.A z4=0∨(false=true∧yO X.A z4≠3)):=by
   rintro (h|⟨h,h2⟩)
   ·exact Ja h
   cases h
  have e:zA.fix (zA.mk X.A X.fm X.sm X.S ⟨M,Rf⟩ Ws) X.W.inv X.o z4 false=(0,zA.tell (zA.mk X.A X.fm X.sm X.S ⟨M,Rf⟩ Ws) X.W.inv z4):=(ji (x:=(zA.mk X.A X.fm X.sm X.S ⟨M,Rf⟩ Ws)) VI hr).trans ((kX GW).trans (kZ (fun k=>by cases k.1)))
  rw [e]
  exact⟨_,⟨rfl,rfl⟩,Sub.W9 (zt (X:=X.of (zA.tell (zA.mk X.A X.fm X.sm X.S ⟨M,Rf⟩ Ws) X.W.inv z4)) ⟨(zA.Ok.mk (x:=(zA.mk X.A X.fm X.sm X.S ⟨M,Rf⟩ Ws)) hX.1 hX.2 hn).f,(zA.Ok.mk (x:=(zA.mk X.A X.fm X.sm X.S ⟨M,Rf⟩ Ws)) hX.1 hX.2 hn).s⟩) Y⟩
 refine Z 15 J (zI J J J ?_)
 have e:zA.fix (zA.mk X.A X.fm X.sm X.S ⟨M,Rf⟩ Ws) X.W.inv X.o z4 write=(1,(zA.mk X.A X.fm X.sm X.S ⟨M,Rf⟩ Ws)):=if_pos VI
 rw [e]
 exact⟨_,⟨rfl,rfl⟩,Sub.W9 (zt (X:=X.of (zA.mk X.A X.fm X.sm X.S ⟨M,Rf⟩ Ws)) ⟨hX.1,hX.2⟩) Y⟩
theorem AJ {f n:Nat} (h:ZU [f,n]=true):f≤4611686018427387904∧n≤4611686018427387904:=by
 simp [ZU]at h;exact h
theorem Jr {f n r:Nat} (h:ZU [f,n,r]=true):f≤4611686018427387904∧n≤4611686018427387904∧r≤4611686018427387904:=by
 simp [ZU]at h;exact h
theorem fR {A:Nat→Int} {f n:Int} (h:(qT A f n).1=0):qb f n:=by
 unfold qT at h
 by_cases hw:qb f n
 ·exact hw
 rw [if_pos hw]at h;cases h
theorem JT {A:Nat→Int} {f n r:Int} (h:(yL A f n r).1=0):qb f n:=by
 unfold yL at h
 by_cases hw:qb f n
 ·exact hw
 rw [if_pos (.inl hw)]at h;cases h
theorem US {f n:Int} (h:qb f n):(zT f n).length≤256:=by
 have h3:=h.1;have h2:=h.2.2.2
 unfold zT;simp;omega
abbrev zA.less (inv:Bool) (x:zA) (z4:Int):zA:=(x.loose z4).tell inv z4
def zA.ZH (x:zA) (inv:Bool) (f n:Nat):Int×zA:=if ZU [f,n]=false then(1,x)else if(qT x.A f n).1≠0 then(1,{ x with A:=(qT x.A f n).2 })else(0,(zT f n).foldl (zA.less inv) { x with A:=(qT x.A f n).2 })
def zA.vN (x:zA) (inv:Bool) (f n r:Nat):Int×zA:=if ZU [f,n,r]=false then(1,x)else if(yL x.A f n r).1≠0 then(1,{ x with A:=(yL x.A f n r).2 })else(0,(zT f n).foldl (fun y p=>y.tell inv p) { x with A:=(yL x.A f n r).2 })
structure zA.Zt (x y:zA) (k:Nat):Prop where
 f:YK y.fm
 s:YK y.sm
 t:y.S.tables.length≤x.S.tables.length+2*k
 n:y.s.M.n=x.s.M.n
theorem zA.Zt.tell {x y:zA} {k:Nat} (h:zA.Zt x y k) (inv:Bool) (z4:Int):zA.Zt x (y.tell inv z4) (k+1):=⟨h.f,h.s,by
 have h1:=(Yn y.s y.S z4 (vx y.A y.fm y.sm y.s.R inv z4)).1
 have h2:=h.t
 show(PM.yZ _ _ _ _).2.tables.length≤_;omega,by show(PM.yZ _ _ _ _).1.M.n=_;rw [px];exact h.n⟩
theorem zA.Zt.loose {x y:zA} {k:Nat} (h:zA.Zt x y k) (z4:Int):zA.Zt x (y.loose z4) k:=by
 have h1:=h.f;have h2:=h.s
 refine⟨?_,?_,h.t,?_⟩
 ·show YK (dK.loose _ _).fm
  unfold dK.loose;split
  ·exact h1
  exact h1.del z4
 ·show YK (dK.loose _ _).sm
  unfold dK.loose;split
  ·exact h2.del z4
  exact h2
 show(dK.loose _ _).s.M.n=_
 unfold dK.loose;split
 ·exact h.n
 show(PM.jO _ _).M.n=_;rw [PM.CQ];exact h.n
theorem Eu (R:List SP) (v:Nat) (X:YV) (M:zF) (Rf:List (Int×Int)) (Ws:Q4) (hT:X.S.tables.length≤500000) (f n:Nat) (Rv:f≤18446744073709551615) (SI:n≤18446744073709551615):yH 182 [vp v 0,vu f,vu n] (z3 WN v X::z3 zi X.W.p ⟨X.W.m,Rf⟩::z3 zY X.W.m M::z3 yM X.W.sw Ws::R) fun w L=>w=vi (zA.ZH (X.st ⟨M,Rf⟩ Ws) X.W.inv f n).1∧L=z3 WN v (X.of (zA.ZH (X.st ⟨M,Rf⟩ Ws) X.W.inv f n).2)::z3 zi X.W.p ⟨X.W.m,(zA.ZH (X.st ⟨M,Rf⟩ Ws) X.W.inv f n).2.s.R⟩::z3 zY X.W.m (zA.ZH (X.st ⟨M,Rf⟩ Ws) X.W.inv f n).2.s.M::z3 yM X.W.sw (zA.ZH (X.st ⟨M,Rf⟩ Ws) X.W.inv f n).2.w::R:=by
 refine ze (jK v X) fun y hX=> ?_
 obtain⟨a,s,i,b⟩:=y
 dsimp only [Es,List.cons_append,List.nil_append]
 refine SW.intro rfl Tryz.func182 rfl ?_
 refine O0 8 J (zf (cs:= [_,_]) rfl rfl rfl (by decide) rfl fun i14=> ?_)
 refine zd (Sub.one (K:=zC) (a:=i14) (x:= [vu f,vu n]) (K2:=zX C7 1) (a2:= .slice (some (i14,0)) 2 (some 2) 1) (x2:= [f,n]) fun g hg=>Qr (en:=C7) (es:=1) (xs:= [f,n]) (fun _=>rfl) (by decide) g hg) ?_
 refine yY (nM _ _ [f,n] (by intro x hx;simp at hx;rcases hx with rfl|rfl;exact Rv;exact SI) (by show 2≤1000;decide)) rfl (fun _=>rfl) ?_
 rintro _ _ ⟨u15,rfl,rfl⟩
 refine Z 3 J (zV (fun Q9=> ?_) (fun Q9=> ?_))
 ·rw [show re [f,n]= [(f:Int),(n:Int)]from if_pos Q9]
  have hb:=AJ Q9
  refine Z 5 J (zW [0,1,3,7,15,31,63,7,135,391,7,1031,3079,8191,16383,32767] [([0,1,2,3,4,5,6,7,8,9,10,11,12],[6,9,12],some 13),([14,15],[14],none)] (by kernel_rfl) ?_)
  refine z7 (ZK 5 J (zx J Y (q9 J Y J (ZK 1 J (jM rfl (fun _ h=>yg rfl rfl rfl (by decide) (by show(0:Int)<(2:Nat);decide) h) ?_)))))
  refine Gy 0 J Y J (by rfl) J (ZK 1 J (jM rfl (fun _ h=>yg rfl rfl rfl (by decide) (by show(1:Int)<(2:Nat);decide) h) ?_))
  refine Gy 0 J Y J (by rfl) J (z8 ⟨(yN J Y J J J (va rfl (fun _ h=>wX (j:=0) rfl rfl rfl (by rfl) rfl h) rfl rfl (z6 _ rfl) (va rfl (fun _ h=>wX (j:=0) rfl rfl rfl (by rfl) rfl h) rfl rfl (z6 _ rfl) z9))),?_⟩)
  refine Z1 (Pu _ _ X.A f n (by omega)) J Y (zJ (z7 (ZK 1 J (ql (fun Ax=> ?_) (fun Ax=> ?_)))))
  ·refine ZK 1 J (z8 ⟨(gv J J J (by rw [decide_eq_true Ax];rfl) z9),?_⟩)
   refine OX 6 J (zI J J J ?_)
   have e:zA.ZH (X.st ⟨M,Rf⟩ Ws) X.W.inv f n=(1,(zA.mk (qT X.A f n).2 X.fm X.sm X.S ⟨M,Rf⟩ Ws)):=(if_neg (by rw [Q9];nofun)).trans (if_pos Ax)
   rw [e]
   exact⟨_,⟨rfl,rfl⟩,Sub.W9 (zt (X:=⟨X.W,X.o,(qT X.A f n).2,(zA.mk (qT X.A f n).2 X.fm X.sm X.S ⟨M,Rf⟩ Ws).fm,(zA.mk (qT X.A f n).2 X.fm X.sm X.S ⟨M,Rf⟩ Ws).sm,(zA.mk (qT X.A f n).2 X.fm X.sm X.S ⟨M,Rf⟩ Ws).S⟩) ⟨hX.1,hX.2⟩) Y⟩
  have hw:=fR (Decidable.not_not.1 Ax)
  have Ub:=US hw
  obtain⟨B1,FT,hw3,hw4⟩:=hw
  refine ZK 1 J (z8 ⟨(gv J J J (by rw [decide_eq_false Ax];rfl) z9),?_⟩)
  refine OX 4 J (zW [0,1,3,0,8,24,63,127,0] [([0,1,2,3,4,5,8],[2,5],some 6),([7],[7],none)] (by kernel_rfl) ?_)
  refine z7 (ZK 1 J (jM rfl (fun _ h=>yg rfl rfl rfl (by decide) (by show(0:Int)<(2:Nat);decide) h) ?_))
  refine Gy 0 J Y J (by rfl) J (ZK 1 J (jM rfl (fun _ h=>yg rfl rfl rfl (by decide) (by show(1:Int)<(2:Nat);decide) h) ?_))
  refine Gy 0 J Y J (by rfl) J (ZK 1 J (z8 ⟨(va rfl (fun _ h=>wX (j:=0) rfl rfl rfl (by rfl) rfl h) rfl rfl (z6 _ rfl) (va rfl (fun _ h=>wX (j:=0) rfl rfl rfl (by rfl) rfl h) rfl rfl (z6 _ rfl) z9)),?_⟩))
  refine qZ (bx _ f n (by omega) (by omega)) rfl (fun _=>rfl) ?_
  rintro u40 _ rfl
  refine zJ (z7 (jM rfl (fun _ h=>yI rfl rfl rfl rfl rfl h) ?_))
  refine z8 ⟨(va rfl (fun _ h=>yI rfl rfl rfl rfl rfl h) rfl rfl (z6 _ rfl) z9),?_⟩
  refine OX 1 J (zy (fun j T L=> ∃(c:Nat),(c≤(zT f n).length)∧(zA.Zt (zA.mk (qT X.A f n).2 X.fm X.sm X.S ⟨M,Rf⟩ Ws) (((zT f n).take c).foldl (zA.less X.W.inv) (zA.mk (qT X.A f n).2 X.fm X.sm X.S ⟨M,Rf⟩ Ws)) c)∧j=(zT f n).length-c∧T.len=4∧Tm.get 0 T=some (vp v 0)∧Tm.get 40 T=some (u40)∧Tm.get 41 T=some (vi ((zT f n).length:Nat))∧Tm.get 42 T=some (vi (c:Nat))∧Sub L (z3 (zX ye 1) u40 (zT f n)::z3 zC v (mA X.W X.o a s i b)::z3 wD a (((zT f n).take c).foldl (zA.less X.W.inv) (zA.mk (qT X.A f n).2 X.fm X.sm X.S ⟨M,Rf⟩ Ws)).A::z3 ZM i (((zT f n).take c).foldl (zA.less X.W.inv) (zA.mk (qT X.A f n).2 X.fm X.sm X.S ⟨M,Rf⟩ Ws)).fm::z3 ZM b (((zT f n).take c).foldl (zA.less X.W.inv) (zA.mk (qT X.A f n).2 X.fm X.sm X.S ⟨M,Rf⟩ Ws)).sm::z3 zi X.W.p ⟨X.W.m,(((zT f n).take c).foldl (zA.less X.W.inv) (zA.mk (qT X.A f n).2 X.fm X.sm X.S ⟨M,Rf⟩ Ws)).s.R⟩::z3 we s ⟨X.W.m,X.W.p,(((zT f n).take c).foldl (zA.less X.W.inv) (zA.mk (qT X.A f n).2 X.fm X.sm X.S ⟨M,Rf⟩ Ws)).S⟩::z3 zY X.W.m (((zT f n).take c).foldl (zA.less X.W.inv) (zA.mk (qT X.A f n).2 X.fm X.sm X.S ⟨M,Rf⟩ Ws)).s.M::z3 yM X.W.sw (((zT f n).take c).foldl (zA.less X.W.inv) (zA.mk (qT X.A f n).2 X.fm X.sm X.S ⟨M,Rf⟩ Ws)).w::R)) ((zT f n).length) ⟨0,by omega,⟨hX.1,hX.2,Nat.le_refl _,rfl⟩,by omega,rfl,rfl,rfl,rfl,rfl,(by rw [List.take_zero,List.foldl_nil];exact Y)⟩ ?_)
  rintro j T L0 ⟨c,hc,hF,rfl,hl,g0,RN,RP,RQ,yU⟩
  obtain⟨tg,rfl⟩:=GY hl g0 RN RP RQ
  clear hl g0 RN RP RQ
  refine yE yU ?_
  clear yU L0
  refine O0 3 J (z5 (fun xl=> ?_) (fun xl=> ?_))
  ·refine Z 8 J ?_
   obtain⟨z,hz⟩: ∃z,(zT f n)[c]? =some z:=⟨(zT f n)[c]'(by omega),List.getElem?_eq_getElem (by omega)⟩
   refine qJ rfl (fun _ h=>yg rfl rfl rfl (by omega) (by omega) h) ?_
   refine lE 0 J Y J hz J (Z 6 J (Z6 (bw _ _ X.W X.o a s i b (((zT f n).take c).foldl (zA.less X.W.inv) (zA.mk (qT X.A f n).2 X.fm X.sm X.S ⟨M,Rf⟩ Ws)).fm (((zT f n).take c).foldl (zA.less X.W.inv) (zA.mk (qT X.A f n).2 X.fm X.sm X.S ⟨M,Rf⟩ Ws)).sm (((zT f n).take c).foldl (zA.less X.W.inv) (zA.mk (qT X.A f n).2 X.fm X.sm X.S ⟨M,Rf⟩ Ws)).s.R hF.f hF.s (((zT f n).take c).foldl (zA.less X.W.inv) (zA.mk (qT X.A f n).2 X.fm X.sm X.S ⟨M,Rf⟩ Ws)).s.M (((zT f n).take c).foldl (zA.less X.W.inv) (zA.mk (qT X.A f n).2 X.fm X.sm X.S ⟨M,Rf⟩ Ws)).w z) J Y Y Y Y Y Y (Z 4 J (Z7 (gA _ _ X.W X.o a s i b (((zT f n).take c).foldl (zA.less X.W.inv) (zA.mk (qT X.A f n).2 X.fm X.sm X.S ⟨M,Rf⟩ Ws)).A ((((zT f n).take c).foldl (zA.less X.W.inv) (zA.mk (qT X.A f n).2 X.fm X.sm X.S ⟨M,Rf⟩ Ws)).loose z).fm ((((zT f n).take c).foldl (zA.less X.W.inv) (zA.mk (qT X.A f n).2 X.fm X.sm X.S ⟨M,Rf⟩ Ws)).loose z).sm ((((zT f n).take c).foldl (zA.less X.W.inv) (zA.mk (qT X.A f n).2 X.fm X.sm X.S ⟨M,Rf⟩ Ws)).loose z).s.R (hF.loose z).f (hF.loose z).s ((((zT f n).take c).foldl (zA.less X.W.inv) (zA.mk (qT X.A f n).2 X.fm X.sm X.S ⟨M,Rf⟩ Ws)).loose z).s.M (((zT f n).take c).foldl (zA.less X.W.inv) (zA.mk (qT X.A f n).2 X.fm X.sm X.S ⟨M,Rf⟩ Ws)).S (by have:=hF.t;show(((zT f n).take c).foldl (zA.less X.W.inv) (zA.mk (qT X.A f n).2 X.fm X.sm X.S ⟨M,Rf⟩ Ws)).S.tables.length≤_;simp only at this;omega) z) J Y Y Y Y Y Y Y (Z 2 J (ad J (Z 2 J ?_)))))))
   have hK:=qk (zA.less X.W.inv) (zA.mk (qT X.A f n).2 X.fm X.sm X.S ⟨M,Rf⟩ Ws) (zT f n) c _ hz
   exact Or.inl ⟨rfl,_,by omega,c+1,by omega,by rw [hK];exact(hF.loose z).tell X.W.inv z,rfl,rfl,rfl,rfl,rfl,rfl,(by rw [hK];exact Y)⟩
  refine Z 4 J (Or.inr ⟨nofun,?_⟩)
  refine OX 5 J (zI J J J ?_)
  have Uz:c=(zT f n).length:=by omega
  subst Uz
  rw [List.take_length]at hF ⊢
  have e:zA.ZH (X.st ⟨M,Rf⟩ Ws) X.W.inv f n=(0,(zT f n).foldl (zA.less X.W.inv) (zA.mk (qT X.A f n).2 X.fm X.sm X.S ⟨M,Rf⟩ Ws)):=(if_neg (by rw [Q9];nofun)).trans (if_neg Ax)
  rw [e]
  refine⟨_,⟨rfl,rfl⟩,?_⟩
  exact Sub.W9 (zt (X:=X.of ((zT f n).foldl (zA.less X.W.inv) (zA.mk (qT X.A f n).2 X.fm X.sm X.S ⟨M,Rf⟩ Ws))) ⟨hF.f,hF.s⟩) Y
 refine Z 5 J (zW [0,1,3,7,15,31,63,7,135,391,7,1031,3079,8191,16383,32767] [([0,1,2,3,4,5,6,7,8,9,10,11,12],[6,9,12],some 13),([14,15],[14],none)] (by kernel_rfl) ?_)
 refine z7 (ZK 13 J (z8 ⟨(yG rfl (yG rfl (yG rfl z9))),?_⟩))
 refine ZT rfl (zJ (z7 (ZK 2 J (z8 ⟨(yG rfl z9),?_⟩))))
 refine OX 6 J (zI J J J ?_)
 have e:zA.ZH (X.st ⟨M,Rf⟩ Ws) X.W.inv f n=(1,(zA.mk X.A X.fm X.sm X.S ⟨M,Rf⟩ Ws)):=if_pos Q9
 rw [e]
 exact⟨_,⟨rfl,rfl⟩,Sub.W9 (zt (X:=⟨X.W,X.o,X.A,(zA.mk X.A X.fm X.sm X.S ⟨M,Rf⟩ Ws).fm,(zA.mk X.A X.fm X.sm X.S ⟨M,Rf⟩ Ws).sm,(zA.mk X.A X.fm X.sm X.S ⟨M,Rf⟩ Ws).S⟩) ⟨hX.1,hX.2⟩) Y⟩
theorem aO (R:List SP) (v:Nat) (X:YV) (M:zF) (Rf:List (Int×Int)) (Ws:Q4) (hT:X.S.tables.length≤500000) (f n r:Nat) (Rv:f≤18446744073709551615) (SI:n≤18446744073709551615) (hrm:r≤18446744073709551615):yH 183 [vp v 0,vu f,vu n,vu r] (z3 WN v X::z3 zi X.W.p ⟨X.W.m,Rf⟩::z3 zY X.W.m M::z3 yM X.W.sw Ws::R) fun w L=>w=vi (zA.vN (X.st ⟨M,Rf⟩ Ws) X.W.inv f n r).1∧L=z3 WN v (X.of (zA.vN (X.st ⟨M,Rf⟩ Ws) X.W.inv f n r).2)::z3 zi X.W.p ⟨X.W.m,(zA.vN (X.st ⟨M,Rf⟩ Ws) X.W.inv f n r).2.s.R⟩::z3 zY X.W.m (zA.vN (X.st ⟨M,Rf⟩ Ws) X.W.inv f n r).2.s.M::z3 yM X.W.sw (zA.vN (X.st ⟨M,Rf⟩ Ws) X.W.inv f n r).2.w::R:=by
 refine ze (jK v X) fun y hX=> ?_
 obtain⟨a,s,i,b⟩:=y
 dsimp only [Es,List.cons_append,List.nil_append]
 refine SW.intro rfl Tryz.func183 rfl ?_
 refine O0 9 J (zf (cs:= [_,_,_]) rfl rfl rfl (by decide) rfl fun i17=> ?_)
 refine zd (Sub.one (K:=zC) (a:=i17) (x:= [vu f,vu n,vu r]) (K2:=zX C7 1) (a2:= .slice (some (i17,0)) 3 (some 3) 1) (x2:= [f,n,r]) fun g hg=>Qr (en:=C7) (es:=1) (xs:= [f,n,r]) (fun _=>rfl) (by decide) g hg) ?_
 refine yY (nM _ _ [f,n,r] (by intro x hx;simp at hx;rcases hx with rfl|rfl|rfl;exact Rv;exact SI;exact hrm) (by show 3≤1000;decide)) rfl (fun _=>rfl) ?_
 rintro _ _ ⟨u18,rfl,rfl⟩
 refine Z 3 J (zV (fun Ua=> ?_) (fun Ua=> ?_))
 ·rw [show re [f,n,r]= [(f:Int),(n:Int),(r:Int)]from if_pos Ua]
  have hb:=Jr Ua
  refine Z 5 J (zW [0,1,3,7,15,31,63,7,135,391,7,1031,3079,7,8199,24583,65535,131071,262143] [([0,1,2,3,4,5,6,7,8,9,10,11,12,13,14,15],[6,9,12,15],some 16),([17,18],[17],none)] (by kernel_rfl) ?_)
  refine z7 (ZK 5 J (zx J Y (q9 J Y J (ZK 1 J (jM rfl (fun _ h=>yg rfl rfl rfl (by decide) (by show(0:Int)<(3:Nat);decide) h) ?_)))))
  refine Gy 0 J Y J (by rfl) J (ZK 1 J (jM rfl (fun _ h=>yg rfl rfl rfl (by decide) (by show(1:Int)<(3:Nat);decide) h) ?_))
  refine Gy 0 J Y J (by rfl) J (ZK 1 J (jM rfl (fun _ h=>yg rfl rfl rfl (by decide) (by show(2:Int)<(3:Nat);decide) h) ?_))
  refine Gy 0 J Y J (by rfl) J (z8 ⟨(yN J Y J J J (va rfl (fun _ h=>wX (j:=0) rfl rfl rfl (by rfl) rfl h) rfl rfl (z6 _ rfl) (va rfl (fun _ h=>wX (j:=0) rfl rfl rfl (by rfl) rfl h) rfl rfl (z6 _ rfl) (va rfl (fun _ h=>wX (j:=0) rfl rfl rfl (by rfl) rfl h) rfl rfl (z6 _ rfl) z9)))),?_⟩)
  refine Z1 (Bo _ _ X.A f n r (by omega)) J Y (zJ (z7 (ZK 1 J (ql (fun nU=> ?_) (fun nU=> ?_)))))
  ·refine ZK 1 J (z8 ⟨(gv J J J (by rw [decide_eq_true nU];rfl) z9),?_⟩)
   refine OX 6 J (zI J J J ?_)
   have e:zA.vN (X.st ⟨M,Rf⟩ Ws) X.W.inv f n r=(1,(zA.mk (yL X.A f n r).2 X.fm X.sm X.S ⟨M,Rf⟩ Ws)):=(if_neg (by rw [Ua];nofun)).trans (if_pos nU)
   rw [e]
   exact⟨_,⟨rfl,rfl⟩,Sub.W9 (zt (X:=⟨X.W,X.o,(yL X.A f n r).2,(zA.mk (yL X.A f n r).2 X.fm X.sm X.S ⟨M,Rf⟩ Ws).fm,(zA.mk (yL X.A f n r).2 X.fm X.sm X.S ⟨M,Rf⟩ Ws).sm,(zA.mk (yL X.A f n r).2 X.fm X.sm X.S ⟨M,Rf⟩ Ws).S⟩) ⟨hX.1,hX.2⟩) Y⟩
  have hw:=JT (Decidable.not_not.1 nU)
  have Ub:=US hw
  obtain⟨B1,FT,hw3,hw4⟩:=hw
  refine ZK 1 J (z8 ⟨(gv J J J (by rw [decide_eq_false nU];rfl) z9),?_⟩)
  refine OX 4 J (zW [0,1,3,0,8,24,63,127,0] [([0,1,2,3,4,5,8],[2,5],some 6),([7],[7],none)] (by kernel_rfl) ?_)
  refine z7 (ZK 1 J (jM rfl (fun _ h=>yg rfl rfl rfl (by decide) (by show(0:Int)<(3:Nat);decide) h) ?_))
  refine Gy 0 J Y J (by rfl) J (ZK 1 J (jM rfl (fun _ h=>yg rfl rfl rfl (by decide) (by show(1:Int)<(3:Nat);decide) h) ?_))
  refine Gy 0 J Y J (by rfl) J (ZK 1 J (z8 ⟨(va rfl (fun _ h=>wX (j:=0) rfl rfl rfl (by rfl) rfl h) rfl rfl (z6 _ rfl) (va rfl (fun _ h=>wX (j:=0) rfl rfl rfl (by rfl) rfl h) rfl rfl (z6 _ rfl) z9)),?_⟩))
  refine qZ (bx _ f n (by omega) (by omega)) rfl (fun _=>rfl) ?_
  rintro u46 _ rfl
  refine zJ (z7 (jM rfl (fun _ h=>yI rfl rfl rfl rfl rfl h) ?_))
  refine z8 ⟨(va rfl (fun _ h=>yI rfl rfl rfl rfl rfl h) rfl rfl (z6 _ rfl) z9),?_⟩
  refine OX 1 J (zy (fun j T L=> ∃(c:Nat),(c≤(zT f n).length)∧(zA.Zt (zA.mk (yL X.A f n r).2 X.fm X.sm X.S ⟨M,Rf⟩ Ws) (((zT f n).take c).foldl (fun y p=>zA.tell y X.W.inv p) (zA.mk (yL X.A f n r).2 X.fm X.sm X.S ⟨M,Rf⟩ Ws)) c)∧j=(zT f n).length-c∧T.len=4∧Tm.get 0 T=some (vp v 0)∧Tm.get 46 T=some (u46)∧Tm.get 47 T=some (vi ((zT f n).length:Nat))∧Tm.get 48 T=some (vi (c:Nat))∧Sub L (z3 (zX ye 1) u46 (zT f n)::z3 zC v (mA X.W X.o a s i b)::z3 wD a (((zT f n).take c).foldl (fun y p=>zA.tell y X.W.inv p) (zA.mk (yL X.A f n r).2 X.fm X.sm X.S ⟨M,Rf⟩ Ws)).A::z3 ZM i (((zT f n).take c).foldl (fun y p=>zA.tell y X.W.inv p) (zA.mk (yL X.A f n r).2 X.fm X.sm X.S ⟨M,Rf⟩ Ws)).fm::z3 ZM b (((zT f n).take c).foldl (fun y p=>zA.tell y X.W.inv p) (zA.mk (yL X.A f n r).2 X.fm X.sm X.S ⟨M,Rf⟩ Ws)).sm::z3 zi X.W.p ⟨X.W.m,(((zT f n).take c).foldl (fun y p=>zA.tell y X.W.inv p) (zA.mk (yL X.A f n r).2 X.fm X.sm X.S ⟨M,Rf⟩ Ws)).s.R⟩::z3 we s ⟨X.W.m,X.W.p,(((zT f n).take c).foldl (fun y p=>zA.tell y X.W.inv p) (zA.mk (yL X.A f n r).2 X.fm X.sm X.S ⟨M,Rf⟩ Ws)).S⟩::z3 zY X.W.m (((zT f n).take c).foldl (fun y p=>zA.tell y X.W.inv p) (zA.mk (yL X.A f n r).2 X.fm X.sm X.S ⟨M,Rf⟩ Ws)).s.M::z3 yM X.W.sw (((zT f n).take c).foldl (fun y p=>zA.tell y X.W.inv p) (zA.mk (yL X.A f n r).2 X.fm X.sm X.S ⟨M,Rf⟩ Ws)).w::R)) ((zT f n).length) ⟨0,by omega,⟨hX.1,hX.2,Nat.le_refl _,rfl⟩,by omega,rfl,rfl,rfl,rfl,rfl,(by rw [List.take_zero,List.foldl_nil];exact Y)⟩ ?_)
  rintro j T L0 ⟨c,hc,hF,rfl,hl,g0,g46,RR,RS,yU⟩
  obtain⟨tg,rfl⟩:=GY hl g0 g46 RR RS
  clear hl g0 g46 RR RS
  refine yE yU ?_
  clear yU L0
  refine O0 3 J (z5 (fun Re=> ?_) (fun Re=> ?_))
  ·refine Z 8 J ?_
   obtain⟨z,hz⟩: ∃z,(zT f n)[c]? =some z:=⟨(zT f n)[c]'(by omega),List.getElem?_eq_getElem (by omega)⟩
   refine qJ rfl (fun _ h=>yg rfl rfl rfl (by omega) (by omega) h) ?_
   refine lE 0 J Y J hz J (Z 5 J (Z7 (gA _ _ X.W X.o a s i b (((zT f n).take c).foldl (fun y p=>zA.tell y X.W.inv p) (zA.mk (yL X.A f n r).2 X.fm X.sm X.S ⟨M,Rf⟩ Ws)).A (((zT f n).take c).foldl (fun y p=>zA.tell y X.W.inv p) (zA.mk (yL X.A f n r).2 X.fm X.sm X.S ⟨M,Rf⟩ Ws)).fm (((zT f n).take c).foldl (fun y p=>zA.tell y X.W.inv p) (zA.mk (yL X.A f n r).2 X.fm X.sm X.S ⟨M,Rf⟩ Ws)).sm (((zT f n).take c).foldl (fun y p=>zA.tell y X.W.inv p) (zA.mk (yL X.A f n r).2 X.fm X.sm X.S ⟨M,Rf⟩ Ws)).s.R hF.f hF.s (((zT f n).take c).foldl (fun y p=>zA.tell y X.W.inv p) (zA.mk (yL X.A f n r).2 X.fm X.sm X.S ⟨M,Rf⟩ Ws)).s.M (((zT f n).take c).foldl (fun y p=>zA.tell y X.W.inv p) (zA.mk (yL X.A f n r).2 X.fm X.sm X.S ⟨M,Rf⟩ Ws)).S (by have:=hF.t;simp only at this;omega) z) J Y Y Y Y Y Y Y (Z 2 J (ad J (Z 2 J ?_)))))
   have hK:=qk (fun y p=>zA.tell y X.W.inv p) (zA.mk (yL X.A f n r).2 X.fm X.sm X.S ⟨M,Rf⟩ Ws) (zT f n) c _ hz
   exact Or.inl ⟨rfl,_,by omega,c+1,by omega,by rw [hK];exact hF.tell X.W.inv z,rfl,rfl,rfl,rfl,rfl,rfl,(by rw [hK];exact Y)⟩
  refine Z 4 J (Or.inr ⟨nofun,?_⟩)
  refine OX 5 J (zI J J J ?_)
  have Uz:c=(zT f n).length:=by omega
  subst Uz
  rw [List.take_length]at hF ⊢
  have e:zA.vN (X.st ⟨M,Rf⟩ Ws) X.W.inv f n r=(0,(zT f n).foldl (fun y p=>zA.tell y X.W.inv p) (zA.mk (yL X.A f n r).2 X.fm X.sm X.S ⟨M,Rf⟩ Ws)):=(if_neg (by rw [Ua];nofun)).trans (if_neg nU)
  rw [e]
  refine⟨_,⟨rfl,rfl⟩,?_⟩
  exact Sub.W9 (zt (X:=X.of ((zT f n).foldl (fun y p=>zA.tell y X.W.inv p) (zA.mk (yL X.A f n r).2 X.fm X.sm X.S ⟨M,Rf⟩ Ws))) ⟨hF.f,hF.s⟩) Y
 refine Z 5 J (zW [0,1,3,7,15,31,63,7,135,391,7,1031,3079,7,8199,24583,65535,131071,262143] [([0,1,2,3,4,5,6,7,8,9,10,11,12,13,14,15],[6,9,12,15],some 16),([17,18],[17],none)] (by kernel_rfl) ?_)
 refine z7 (ZK 16 J (z8 ⟨(yG rfl (yG rfl (yG rfl (yG rfl z9)))),?_⟩))
 refine ZT rfl (zJ (z7 (ZK 2 J (z8 ⟨(yG rfl z9),?_⟩))))
 refine OX 6 J (zI J J J ?_)
 have e:zA.vN (X.st ⟨M,Rf⟩ Ws) X.W.inv f n r=(1,(zA.mk X.A X.fm X.sm X.S ⟨M,Rf⟩ Ws)):=if_pos Ua
 rw [e]
 exact⟨_,⟨rfl,rfl⟩,Sub.W9 (zt (X:=⟨X.W,X.o,X.A,(zA.mk X.A X.fm X.sm X.S ⟨M,Rf⟩ Ws).fm,(zA.mk X.A X.fm X.sm X.S ⟨M,Rf⟩ Ws).sm,(zA.mk X.A X.fm X.sm X.S ⟨M,Rf⟩ Ws).S⟩) ⟨hX.1,hX.2⟩) Y⟩
theorem AT {P:Program} {F:zD} {zB:yy} {L:List SP} {f:FuncId} {vs:List z0} {Q Q':z0→List SP→Prop} (h:SW P F zB f vs L Q) (hq: ∀v L',Q v L'→ ∃M,Q' v M∧Sub L' M):SW P F zB f vs L Q':=
 fun H hH=>(h H hH).mono fun v _ ⟨L',a,b⟩=>by
  obtain⟨M,h1,h2⟩:=hq v L' a
  exact⟨M,h1,b.sub h2⟩
theorem o5 (R:List SP) (a m p:Nat) (S:y5) (M:zF) (pv:z0) (ps:List Int) (hn:ps.length≤1000000):yH 220 [vp a 0,pv] (z3 we a ⟨m,p,S⟩::z3 zY m M::z3 (zX ye 1) pv ps::R) fun v L=>v=vi (M.kM S.kernel ps:Nat)∧L=z3 we a ⟨m,p,S⟩::z3 zY m M::z3 (zX ye 1) pv ps::R:=by
 refine ze (Yq a ⟨m,p,S⟩) fun tv hS=> ?_
 dsimp only [JB,List.cons_append,List.nil_append]
 refine SW.sub (M:=z3 zC a (dS m p S tv)::z3 zY m M::z3 (zX ye 1) pv ps::z3 (zX ye 1) tv S.tables::R) ?_ Y
 refine AT (o4 (z3 (zX ye 1) tv S.tables::R) a m p S hS tv M pv ps hn) ?_
 rintro v _ ⟨rfl,rfl⟩
 exact⟨_,⟨rfl,rfl⟩,Sub.qi (qq hS) Y⟩
abbrev zA.more (inv:Bool) (o:Int) (x:zA) (z4:Int):zA:=({ x with fm:=wG x.fm z4 (x.s.got:Nat),s:=x.s.take 2 o } :zA).tell inv z4
def zA.map (x:zA) (inv:Bool) (o:Int) (f n r:Nat):Int×zA:=if ZU [f,n,r]=false then(1,x)else if(yz x.A f n r).1≠0 then(1,x)else
 if((x.s.M.left:Nat):Int)<(((zT f n).length:Nat):Int)+((x.s.M.kM x.S.kernel (zT f n):Nat):Int)then(2,x)else(0,(zT f n).foldl (zA.more inv o) { x with A:=(yz x.A f n r).2 })
theorem add_zero' {A:Nat→Int} {f n r:Int} (h:(yz A f n r).1=0):qb f n:=by
 unfold yz at h
 by_cases hw:qb f n
 ·exact hw
 rw [if_pos (.inl hw)]at h;cases h
theorem zA.Zt.Eb {x y:zA} {k:Nat} (h:zA.Zt x y k) (hn:x.s.M.n≤64) (o z4:Int):zA.Zt x { y with fm:=wG y.fm z4 (y.s.got:Nat),s:=y.s.take 2 o } k:=⟨h.f.ins z4 (by have:=PM.Wn y.s;have:=h.n;omega),h.s,h.t,by show(PM.take _ _ _).M.n=_;rw [PM.V6];exact h.n⟩
theorem OZ (R:List SP) (v:Nat) (X:YV) (M:zF) (Rf:List (Int×Int)) (Ws:Q4) (hT:X.S.tables.length≤500000) (f n r:Nat) (Rv:f≤18446744073709551615) (SI:n≤18446744073709551615) (hrm:r≤18446744073709551615):yH 181 [vp v 0,vu f,vu n,vu r] (z3 WN v X::z3 zi X.W.p ⟨X.W.m,Rf⟩::z3 zY X.W.m M::z3 yM X.W.sw Ws::R) fun w L=>w=vi (zA.map (X.st ⟨M,Rf⟩ Ws) X.W.inv X.o f n r).1∧L=z3 WN v (X.of (zA.map (X.st ⟨M,Rf⟩ Ws) X.W.inv X.o f n r).2)::z3 zi X.W.p ⟨X.W.m,(zA.map (X.st ⟨M,Rf⟩ Ws) X.W.inv X.o f n r).2.s.R⟩::z3 zY X.W.m (zA.map (X.st ⟨M,Rf⟩ Ws) X.W.inv X.o f n r).2.s.M::z3 yM X.W.sw (zA.map (X.st ⟨M,Rf⟩ Ws) X.W.inv X.o f n r).2.w::R:=by
 refine yl (qf X.W.m M) fun hM=> ?_
 have Cm:M.n≤64:=hM.2.1
 refine ze (jK v X) fun y hX=> ?_
 obtain⟨a,s,i,b⟩:=y
 dsimp only [Es,List.cons_append,List.nil_append]
 refine SW.intro rfl Tryz.func181 rfl ?_
 refine O0 9 J (zf (cs:= [_,_,_]) rfl rfl rfl (by decide) rfl fun i18=> ?_)
 refine zd (Sub.one (K:=zC) (a:=i18) (x:= [vu f,vu n,vu r]) (K2:=zX C7 1) (a2:= .slice (some (i18,0)) 3 (some 3) 1) (x2:= [f,n,r]) fun g hg=>Qr (en:=C7) (es:=1) (xs:= [f,n,r]) (fun _=>rfl) (by decide) g hg) ?_
 refine yY (nM _ _ [f,n,r] (by intro x hx;simp at hx;rcases hx with rfl|rfl|rfl;exact Rv;exact SI;exact hrm) (by show 3≤1000;decide)) rfl (fun _=>rfl) ?_
 rintro _ _ ⟨u19,rfl,rfl⟩
 refine Z 3 J (zV (fun Vy=> ?_) (fun Vy=> ?_))
 ·rw [show re [f,n,r]= [(f:Int),(n:Int),(r:Int)]from if_pos Vy]
  have hb:=Jr Vy
  refine Z 5 J (zW [0,1,3,7,15,31,63,127,7,263,775,7,2055,6151,7,16391,49159,131071,262143,524287] [([0,1,2,3,4,5,6,8,9,10,11,12,13,14,15,16],[6,10,13,16],some 7),([],[10,13,16],some 17),([18,19],[18],none)] (by kernel_rfl) ?_)
  refine z7 (ZK 5 J (zx J Y (q9 J Y J (ZK 1 J (jM rfl (fun _ h=>yg rfl rfl rfl (by decide) (by show(0:Int)<(3:Nat);decide) h) ?_)))))
  refine Gy 0 J Y J (by rfl) J (ZK 1 J (jM rfl (fun _ h=>yg rfl rfl rfl (by decide) (by show(1:Int)<(3:Nat);decide) h) ?_))
  refine Gy 0 J Y J (by rfl) J (ZK 1 J (jM rfl (fun _ h=>yg rfl rfl rfl (by decide) (by show(2:Int)<(3:Nat);decide) h) ?_))
  refine Gy 0 J Y J (by rfl) J (z8 ⟨(yN J Y J J J (va rfl (fun _ h=>wX (j:=0) rfl rfl rfl (by rfl) rfl h) rfl rfl (z6 _ rfl) (va rfl (fun _ h=>wX (j:=0) rfl rfl rfl (by rfl) rfl h) rfl rfl (z6 _ rfl) (va rfl (fun _ h=>wX (j:=0) rfl rfl rfl (by rfl) rfl h) rfl rfl (z6 _ rfl) z9)))),?_⟩)
  refine yY (nj _ _ _) rfl (fun _=>rfl) ?_
  rintro _ _ ⟨b29,rfl,rfl⟩
  refine zJ (z7 (z8 ⟨(va rfl (fun _ h=>wX (j:=0) rfl rfl rfl (by rfl) rfl h) rfl rfl (z6 _ rfl) (va rfl (fun _ h=>wX (j:=0) rfl rfl rfl (by rfl) rfl h) rfl rfl (z6 _ rfl) (va rfl (fun _ h=>wX (j:=0) rfl rfl rfl (by rfl) rfl h) rfl rfl (z6 _ rfl) z9))),?_⟩))
  refine Z1 (L5 _ _ X.A f n r (by omega)) J Y (zJ (z7 (ZK 1 J (ql (fun GW=> ?_) (fun GW=> ?_)))))
  ·refine ZK 1 J (z8 ⟨(gv J J J (by rw [decide_eq_true GW];rfl) z9),?_⟩)
   refine OX 6 J (zI J J J ?_)
   have e:zA.map (X.st ⟨M,Rf⟩ Ws) X.W.inv X.o f n r=(1,(zA.mk X.A X.fm X.sm X.S ⟨M,Rf⟩ Ws)):=(if_neg (by rw [Vy];nofun)).trans (if_pos GW)
   rw [e]
   exact⟨_,⟨rfl,rfl⟩,Sub.W9 (zt (X:=X.of (zA.mk X.A X.fm X.sm X.S ⟨M,Rf⟩ Ws)) ⟨hX.1,hX.2⟩) Y⟩
  have hw:=add_zero' (Decidable.not_not.1 GW)
  have Ub:=US hw
  obtain⟨B1,FT,hw3,hw4⟩:=hw
  have B0:=IE M X.S.kernel (zT f n)
  refine ZK 1 J (z8 ⟨(gv J J J (by rw [decide_eq_false GW];rfl) z9),?_⟩)
  refine OX 3 J (zW [0,1,3,0,8,24,63,127] [([0,1,2,3,4,5],[2,5],some 6),([7],[],none)] (by kernel_rfl) ?_)
  refine z7 (ZK 1 J (jM rfl (fun _ h=>yg rfl rfl rfl (by decide) (by show(0:Int)<(3:Nat);decide) h) ?_))
  refine Gy 0 J Y J (by rfl) J (ZK 1 J (jM rfl (fun _ h=>yg rfl rfl rfl (by decide) (by show(1:Int)<(3:Nat);decide) h) ?_))
  refine Gy 0 J Y J (by rfl) J (z8 ⟨(va rfl (fun _ h=>wX (j:=0) rfl rfl rfl (by rfl) rfl h) rfl rfl (z6 _ rfl) (va rfl (fun _ h=>wX (j:=0) rfl rfl rfl (by rfl) rfl h) rfl rfl (z6 _ rfl) z9)),?_⟩)
  refine qZ (bx _ f n (by omega) (by omega)) rfl (fun _=>rfl) ?_
  rintro OT _ rfl
  refine zJ (z7 (ZK 1 J (z8 ⟨z9,?_⟩)))
  refine OX 2 J (zW [0,1,0,4,12,28,0,124,255,0,512,1536,3584,7680,16124,32767] [([0,1,2,3,4,5,6,9,10,11,12,13],[1,5,13],some 7),([8],[1,13,8],some 14),([15],[1,8,15],none)] (by kernel_rfl) ?_)
  refine z7 (ZK 1 J (jM rfl (fun _ h=>yI rfl rfl rfl rfl rfl h) ?_))
  refine ZK 2 J (zx J Y (q9 J Y J (ZK 3 J (zx J Y (zx J Y (q9 J Y J (z8 ⟨(va rfl (fun _ h=>yI rfl rfl rfl rfl rfl h) rfl rfl (z6 _ rfl) (yN J Y J J J (yN J Y J J J z9))),?_⟩)))))))
  refine Z3 (o5 _ _ _ _ X.S M _ (zT f n) (by omega)) J Y Y Y (zJ (z7 (PJ J (z8 ⟨(va rfl (fun _ h=>yI rfl rfl rfl rfl rfl h) rfl rfl (z6 _ rfl) (yN J Y J J J (uR rfl (fun _=>zG rfl rfl rfl (gJ (by omega))) rfl rfl (z6 _ rfl) z9))),?_⟩))))
  refine Z2 (bG _ _ _ _ _) J Y Y (zJ (z7 (ZK 1 J (ql (fun Mw=> ?_) (fun Mw=> ?_)))))
  ·refine z8 ⟨(va rfl (fun _ h=>yI rfl rfl rfl rfl rfl h) rfl rfl (z6 _ rfl) (uR rfl (fun _=>zG rfl rfl rfl (gJ (by omega))) rfl rfl (z6 _ rfl) (gv J J J (by rw [decide_eq_true Mw];rfl) z9))),?_⟩
   refine OX 6 J (zI J J J ?_)
   have e:zA.map (X.st ⟨M,Rf⟩ Ws) X.W.inv X.o f n r=(2,(zA.mk X.A X.fm X.sm X.S ⟨M,Rf⟩ Ws)):=(if_neg (by rw [Vy];nofun)).trans ((if_neg GW).trans (if_pos Mw))
   rw [e]
   exact⟨_,⟨rfl,rfl⟩,Sub.W9 (zt (X:=X.of (zA.mk X.A X.fm X.sm X.S ⟨M,Rf⟩ Ws)) ⟨hX.1,hX.2⟩) Y⟩
  refine z8 ⟨(va rfl (fun _ h=>yI rfl rfl rfl rfl rfl h) rfl rfl (z6 _ rfl) (uR rfl (fun _=>zG rfl rfl rfl (gJ (by omega))) rfl rfl (z6 _ rfl) (gv J J J (by rw [decide_eq_false Mw];rfl) z9))),?_⟩
  refine OX 3 J (zW [0,1,3,7,0,16,48,0,128,384,0,1024,3072,8191] [([0,1,2,3,4,5,6,7,8,9,10,11,12],[3,6,9,12],some 13),([],[],none)] (by kernel_rfl) ?_)
  refine z7 (ZK 2 J (zx J Y (q9 J Y J (ZK 1 J (jM rfl (fun _ h=>yg rfl rfl rfl (by decide) (by show(0:Int)<(3:Nat);decide) h) ?_)))))
  refine Gy 0 J Y J (by rfl) J (ZK 1 J (jM rfl (fun _ h=>yg rfl rfl rfl (by decide) (by show(1:Int)<(3:Nat);decide) h) ?_))
  refine Gy 0 J Y J (by rfl) J (ZK 1 J (jM rfl (fun _ h=>yg rfl rfl rfl (by decide) (by show(2:Int)<(3:Nat);decide) h) ?_))
  refine Gy 0 J Y J (by rfl) J (z8 ⟨(yN J Y J J J (va rfl (fun _ h=>wX (j:=0) rfl rfl rfl (by rfl) rfl h) rfl rfl (z6 _ rfl) (va rfl (fun _ h=>wX (j:=0) rfl rfl rfl (by rfl) rfl h) rfl rfl (z6 _ rfl) (va rfl (fun _ h=>wX (j:=0) rfl rfl rfl (by rfl) rfl h) rfl rfl (z6 _ rfl) z9)))),?_⟩)
  refine Z1 (L5 _ _ X.A f n r (by omega)) J Y (zJ (z7 (z8 ⟨z9,?_⟩)))
  refine OX 4 J (qJ rfl (fun _ h=>yI rfl rfl rfl rfl rfl h) ?_)
  refine Z 3 J (zy (fun j T L=> ∃(c:Nat),(c≤(zT f n).length)∧(zA.Zt (zA.mk (yz X.A f n r).2 X.fm X.sm X.S ⟨M,Rf⟩ Ws) (((zT f n).take c).foldl (zA.more X.W.inv X.o) (zA.mk (yz X.A f n r).2 X.fm X.sm X.S ⟨M,Rf⟩ Ws)) c)∧j=(zT f n).length-c∧T.len=7∧Tm.get 0 T=some (vp v 0)∧Tm.get 79 T=some (OT)∧Tm.get 80 T=some (vi ((zT f n).length:Nat))∧Tm.get 81 T=some (vi (c:Nat))∧Sub L (z3 (zX ye 1) OT (zT f n)::z3 zC v (mA X.W X.o a s i b)::z3 wD a (((zT f n).take c).foldl (zA.more X.W.inv X.o) (zA.mk (yz X.A f n r).2 X.fm X.sm X.S ⟨M,Rf⟩ Ws)).A::z3 ZM i (((zT f n).take c).foldl (zA.more X.W.inv X.o) (zA.mk (yz X.A f n r).2 X.fm X.sm X.S ⟨M,Rf⟩ Ws)).fm::z3 ZM b (((zT f n).take c).foldl (zA.more X.W.inv X.o) (zA.mk (yz X.A f n r).2 X.fm X.sm X.S ⟨M,Rf⟩ Ws)).sm::z3 zi X.W.p ⟨X.W.m,(((zT f n).take c).foldl (zA.more X.W.inv X.o) (zA.mk (yz X.A f n r).2 X.fm X.sm X.S ⟨M,Rf⟩ Ws)).s.R⟩::z3 we s ⟨X.W.m,X.W.p,(((zT f n).take c).foldl (zA.more X.W.inv X.o) (zA.mk (yz X.A f n r).2 X.fm X.sm X.S ⟨M,Rf⟩ Ws)).S⟩::z3 zY X.W.m (((zT f n).take c).foldl (zA.more X.W.inv X.o) (zA.mk (yz X.A f n r).2 X.fm X.sm X.S ⟨M,Rf⟩ Ws)).s.M::z3 yM X.W.sw (((zT f n).take c).foldl (zA.more X.W.inv X.o) (zA.mk (yz X.A f n r).2 X.fm X.sm X.S ⟨M,Rf⟩ Ws)).w::R)) ((zT f n).length) ⟨0,by omega,⟨hX.1,hX.2,Nat.le_refl _,rfl⟩,by omega,rfl,rfl,rfl,rfl,rfl,(by rw [List.take_zero,List.foldl_nil];exact Y)⟩ ?_)
  rintro j T L0 ⟨c,hc,hF,rfl,hl,g0,g79,g80,g81,yU⟩
  obtain⟨tg,rfl⟩:=GY hl g0 g79 g80 g81
  clear hl g0 g79 g80 g81
  refine yE yU ?_
  clear yU L0
  refine O0 3 J (z5 (fun h82=> ?_) (fun h82=> ?_))
  ·refine Z 8 J ?_
   obtain⟨z,hz⟩: ∃z,(zT f n)[c]? =some z:=⟨(zT f n)[c]'(by omega),List.getElem?_eq_getElem (by omega)⟩
   refine qJ rfl (fun _ h=>yg rfl rfl rfl (by omega) (by omega) h) ?_
   refine lE 0 J Y J hz J (Z 3 J (zW [0,1,3,7,0,0,32,96,224,480,0,1024,3072,7168,16352,32736,65504,65504,131071] [([0,1,2,3,4,5,6,7,8,9,10,11,12,13],[3,9,13],some 14),([15,16,17],[3],some 18),([],[],none)] (by kernel_rfl) ?_))
   refine z7 (ZK 2 J (zx J Y (q9 J Y J (ZK 3 J (zx J Y (zx J Y (q9 J Y J (ZK 2 J (zx J Y (q9 J Y J (z8 ⟨(yN J Y J J J (yN J Y J J J (yN J Y J J J z9))),?_⟩)))))))))))
   refine Z2 (nD _ _ _ (((zT f n).take c).foldl (zA.more X.W.inv X.o) (zA.mk (yz X.A f n r).2 X.fm X.sm X.S ⟨M,Rf⟩ Ws)).s.R (((zT f n).take c).foldl (zA.more X.W.inv X.o) (zA.mk (yz X.A f n r).2 X.fm X.sm X.S ⟨M,Rf⟩ Ws)).s.M 2 _ (.inr rfl)) J Y Y (zJ (z7 (ZK 3 J (z8 ⟨(yN J Y J J J z9),?_⟩))))
   refine Zb rfl rfl rfl rfl rfl ?_
   refine zJ (z7 (z8 ⟨z9,?_⟩))
   refine OX 3 J (Z7 (gA _ _ X.W X.o a s i b { (((zT f n).take c).foldl (zA.more X.W.inv X.o) (zA.mk (yz X.A f n r).2 X.fm X.sm X.S ⟨M,Rf⟩ Ws))with fm:=wG (((zT f n).take c).foldl (zA.more X.W.inv X.o) (zA.mk (yz X.A f n r).2 X.fm X.sm X.S ⟨M,Rf⟩ Ws)).fm z ((((zT f n).take c).foldl (zA.more X.W.inv X.o) (zA.mk (yz X.A f n r).2 X.fm X.sm X.S ⟨M,Rf⟩ Ws)).s.got:Nat),s:=(((zT f n).take c).foldl (zA.more X.W.inv X.o) (zA.mk (yz X.A f n r).2 X.fm X.sm X.S ⟨M,Rf⟩ Ws)).s.take 2 X.o }.A { (((zT f n).take c).foldl (zA.more X.W.inv X.o) (zA.mk (yz X.A f n r).2 X.fm X.sm X.S ⟨M,Rf⟩ Ws))with fm:=wG (((zT f n).take c).foldl (zA.more X.W.inv X.o) (zA.mk (yz X.A f n r).2 X.fm X.sm X.S ⟨M,Rf⟩ Ws)).fm z ((((zT f n).take c).foldl (zA.more X.W.inv X.o) (zA.mk (yz X.A f n r).2 X.fm X.sm X.S ⟨M,Rf⟩ Ws)).s.got:Nat),s:=(((zT f n).take c).foldl (zA.more X.W.inv X.o) (zA.mk (yz X.A f n r).2 X.fm X.sm X.S ⟨M,Rf⟩ Ws)).s.take 2 X.o }.fm { (((zT f n).take c).foldl (zA.more X.W.inv X.o) (zA.mk (yz X.A f n r).2 X.fm X.sm X.S ⟨M,Rf⟩ Ws))with fm:=wG (((zT f n).take c).foldl (zA.more X.W.inv X.o) (zA.mk (yz X.A f n r).2 X.fm X.sm X.S ⟨M,Rf⟩ Ws)).fm z ((((zT f n).take c).foldl (zA.more X.W.inv X.o) (zA.mk (yz X.A f n r).2 X.fm X.sm X.S ⟨M,Rf⟩ Ws)).s.got:Nat),s:=(((zT f n).take c).foldl (zA.more X.W.inv X.o) (zA.mk (yz X.A f n r).2 X.fm X.sm X.S ⟨M,Rf⟩ Ws)).s.take 2 X.o }.sm { (((zT f n).take c).foldl (zA.more X.W.inv X.o) (zA.mk (yz X.A f n r).2 X.fm X.sm X.S ⟨M,Rf⟩ Ws))with fm:=wG (((zT f n).take c).foldl (zA.more X.W.inv X.o) (zA.mk (yz X.A f n r).2 X.fm X.sm X.S ⟨M,Rf⟩ Ws)).fm z ((((zT f n).take c).foldl (zA.more X.W.inv X.o) (zA.mk (yz X.A f n r).2 X.fm X.sm X.S ⟨M,Rf⟩ Ws)).s.got:Nat),s:=(((zT f n).take c).foldl (zA.more X.W.inv X.o) (zA.mk (yz X.A f n r).2 X.fm X.sm X.S ⟨M,Rf⟩ Ws)).s.take 2 X.o }.s.R (hF.Eb Cm X.o z).f (hF.Eb Cm X.o z).s { (((zT f n).take c).foldl (zA.more X.W.inv X.o) (zA.mk (yz X.A f n r).2 X.fm X.sm X.S ⟨M,Rf⟩ Ws))with fm:=wG (((zT f n).take c).foldl (zA.more X.W.inv X.o) (zA.mk (yz X.A f n r).2 X.fm X.sm X.S ⟨M,Rf⟩ Ws)).fm z ((((zT f n).take c).foldl (zA.more X.W.inv X.o) (zA.mk (yz X.A f n r).2 X.fm X.sm X.S ⟨M,Rf⟩ Ws)).s.got:Nat),s:=(((zT f n).take c).foldl (zA.more X.W.inv X.o) (zA.mk (yz X.A f n r).2 X.fm X.sm X.S ⟨M,Rf⟩ Ws)).s.take 2 X.o }.s.M { (((zT f n).take c).foldl (zA.more X.W.inv X.o) (zA.mk (yz X.A f n r).2 X.fm X.sm X.S ⟨M,Rf⟩ Ws))with fm:=wG (((zT f n).take c).foldl (zA.more X.W.inv X.o) (zA.mk (yz X.A f n r).2 X.fm X.sm X.S ⟨M,Rf⟩ Ws)).fm z ((((zT f n).take c).foldl (zA.more X.W.inv X.o) (zA.mk (yz X.A f n r).2 X.fm X.sm X.S ⟨M,Rf⟩ Ws)).s.got:Nat),s:=(((zT f n).take c).foldl (zA.more X.W.inv X.o) (zA.mk (yz X.A f n r).2 X.fm X.sm X.S ⟨M,Rf⟩ Ws)).s.take 2 X.o }.S (by have:=hF.t;show(((zT f n).take c).foldl (zA.more X.W.inv X.o) (zA.mk (yz X.A f n r).2 X.fm X.sm X.S ⟨M,Rf⟩ Ws)).S.tables.length≤_;simp only at this;omega) z) J Y Y Y Y Y Y Y (Z 2 J (ad J (Z 2 J ?_))))
   have hK:=qk (zA.more X.W.inv X.o) (zA.mk (yz X.A f n r).2 X.fm X.sm X.S ⟨M,Rf⟩ Ws) (zT f n) c _ hz
   exact Or.inl ⟨rfl,_,by omega,c+1,by omega,by rw [hK];exact(hF.Eb Cm X.o z).tell X.W.inv z,rfl,rfl,rfl,rfl,rfl,rfl,(by rw [hK];exact Y)⟩
  refine Z 4 J (Or.inr ⟨nofun,?_⟩)
  refine OX 5 J (zI J J J ?_)
  have Uz:c=(zT f n).length:=by omega
  subst Uz
  rw [List.take_length]at hF ⊢
  have e:zA.map (X.st ⟨M,Rf⟩ Ws) X.W.inv X.o f n r=(0,((zT f n).foldl (zA.more X.W.inv X.o) (zA.mk (yz X.A f n r).2 X.fm X.sm X.S ⟨M,Rf⟩ Ws))):=(if_neg (by rw [Vy];nofun)).trans ((if_neg GW).trans (if_neg Mw))
  rw [e]
  refine⟨_,⟨rfl,rfl⟩,?_⟩
  exact Sub.W9 (zt (X:=X.of ((zT f n).foldl (zA.more X.W.inv X.o) (zA.mk (yz X.A f n r).2 X.fm X.sm X.S ⟨M,Rf⟩ Ws))) ⟨hF.f,hF.s⟩) Y
 refine Z 5 J (zW [0,1,3,7,15,31,63,127,7,263,775,7,2055,6151,7,16391,49159,131071,262143,524287] [([0,1,2,3,4,5,6,8,9,10,11,12,13,14,15,16],[6,10,13,16],some 7),([],[10,13,16],some 17),([18,19],[18],none)] (by kernel_rfl) ?_)
 refine z7 (ZK 16 J (z8 ⟨(yG rfl (yG rfl (yG rfl (yG rfl z9)))),?_⟩))
 refine ZT rfl (zJ (z7 (z8 ⟨(yG rfl (yG rfl (yG rfl z9))),?_⟩)))
 refine ZT rfl (zJ (z7 (ZK 2 J (z8 ⟨(yG rfl z9),?_⟩))))
 refine OX 6 J (zI J J J ?_)
 have e:zA.map (X.st ⟨M,Rf⟩ Ws) X.W.inv X.o f n r=(1,(zA.mk X.A X.fm X.sm X.S ⟨M,Rf⟩ Ws)):=if_pos Vy
 rw [e]
 exact⟨_,⟨rfl,rfl⟩,Sub.W9 (zt (X:=X.of (zA.mk X.A X.fm X.sm X.S ⟨M,Rf⟩ Ws)) ⟨hX.1,hX.2⟩) Y⟩
abbrev aF (W:Q4) (M:zF) (f:Int):Nat:=((ZW W M f).map fun p=>p.1).getD 0
abbrev Vq (W:Q4) (M:zF) (f:Int):Q4:=((ZW W M f).map fun p=>p.2).getD W
theorem KO (W:Q4) (M:zF) (f:Int):aF W M f≤64:=by
 unfold aF ZW
 split
 ·cases h:Vf W with
  |none=>exact Nat.zero_le _
  |some g=>have:=aE W _ _ _ h;show g≤64;omega
 exact Nat.zero_le _
abbrev zA.Dh (x:zA) (inv:Bool) (z4 f:Int):zA:=({ (({ x with w:=Vq x.w x.s.M f } :zA).loose z4)with sm:=wG (({ x with w:=Vq x.w x.s.M f } :zA).loose z4).sm z4 (aF x.w x.s.M f:Nat) } :zA).tell inv z4
def zA.out (x:zA) (inv:Bool) (z4:Nat):Int×zA:=
 if ZU [z4]=false then(3,x)else if(qH x.fm (z4:Int)).isSome=false then(3,x)else
 if 1<cnt x.s.R ((qH x.fm (z4:Int)).getD 0)then(5,x)else
 if(ZW x.w x.s.M ((qH x.fm (z4:Int)).getD 0)).isSome=false then(4,x)else(0,x.Dh inv (z4:Int) ((qH x.fm (z4:Int)).getD 0))
theorem AS {W:Q4} {M:zF} {f:Int} (h:(ZW W M f).isSome=false):Vq W M f=W:=by
 unfold Vq
 cases e:ZW W M f with
 |none=>rfl
 |some p=>rw [e]at h;cases h
theorem Oa (R:List SP) (v:Nat) (X:YV) (M:zF) (Rf:List (Int×Int)) (Ws:Q4) (hT:X.S.tables.length≤500000) (g:Nat) (hgm:g≤18446744073709551615):yH 184 [vp v 0,vu g] (z3 WN v X::z3 zi X.W.p ⟨X.W.m,Rf⟩::z3 zY X.W.m M::z3 yM X.W.sw Ws::R) fun w L=>w=vi (zA.out (X.st ⟨M,Rf⟩ Ws) X.W.inv g).1∧L=z3 WN v (X.of (zA.out (X.st ⟨M,Rf⟩ Ws) X.W.inv g).2)::z3 zi X.W.p ⟨X.W.m,(zA.out (X.st ⟨M,Rf⟩ Ws) X.W.inv g).2.s.R⟩::z3 zY X.W.m (zA.out (X.st ⟨M,Rf⟩ Ws) X.W.inv g).2.s.M::z3 yM X.W.sw (zA.out (X.st ⟨M,Rf⟩ Ws) X.W.inv g).2.w::R:=by
 refine ze (jK v X) fun y hX=> ?_
 obtain⟨a,s,i,b⟩:=y
 dsimp only [Es,List.cons_append,List.nil_append]
 have hL:zA.Zt (zA.mk X.A X.fm X.sm X.S ⟨M,Rf⟩ (Vq Ws M ((qH X.fm (g:Int)).getD 0))) (zA.loose (zA.mk X.A X.fm X.sm X.S ⟨M,Rf⟩ (Vq Ws M ((qH X.fm (g:Int)).getD 0))) (g:Int)) 0:=zA.Zt.loose ⟨hX.1,hX.2,Nat.le_refl _,rfl⟩ (g:Int)
 have lW:0≤((aF Ws M ((qH X.fm (g:Int)).getD 0):Nat):Int)∧((aF Ws M ((qH X.fm (g:Int)).getD 0):Nat):Int)≤64:=by have:=KO Ws M ((qH X.fm (g:Int)).getD 0);omega
 refine SW.intro rfl Tryz.func184 rfl ?_
 refine O0 7 J (zf (cs:= [_]) rfl rfl rfl (by decide) rfl fun i12=> ?_)
 refine zd (Sub.one (K:=zC) (a:=i12) (x:= [vu g]) (K2:=zX C7 1) (a2:= .slice (some (i12,0)) 1 (some 1) 1) (x2:= [g]) fun q hq=>Qr (en:=C7) (es:=1) (xs:= [g]) (fun _=>rfl) (by decide) q hq) ?_
 refine yY (nM _ _ [g] (by intro x hx;simp at hx;rcases hx with rfl;exact hgm) (by show 1≤1000;decide)) rfl (fun _=>rfl) ?_
 rintro _ _ ⟨u13,rfl,rfl⟩
 refine Z 3 J (zV (fun YM=> ?_) (fun YM=> ?_))
 ·rw [show re [g]= [(g:Int)]from if_pos YM]
  refine Z 4 J (zW [0,1,3,7,0,16,48,127,255,511,511,1023,4095] [([0,1,2,3,4,5,6,7,8,9,10,11,12],[3,6,7],none)] (by kernel_rfl) ?_)
  refine z7 (ZK 2 J (zx J Y (q9 J Y J (ZK 1 J (jM rfl (fun _ h=>yg rfl rfl rfl (by decide) (by show(0:Int)<(1:Nat);decide) h) ?_)))))
  refine Gy 0 J Y J (by rfl) J (jM rfl (fun _ h=>Yv rfl rfl rfl h) ?_)
  refine ZK 3 J (jD (fun nT=> ?_) (fun nT=> ?_))
  ·refine ZK 2 J (z8 ⟨(yN J Y J J J (va rfl (fun _ h=>wX (j:=0) rfl rfl rfl (by rfl) rfl h) rfl rfl (z6 _ rfl) (va rfl (fun _ h=>Yv rfl rfl rfl h) rfl rfl (z6 _ rfl) z9))),?_⟩)
   refine OX 17 J (fa J Y (fa J Y (ld J Y J (Z 1 J (Z1 (td _ _ _ _ _) J Y (Z 1 J (z5 (fun GW=> ?_) (fun GW=> ?_))))))))
   ·refine Z 7 J (zI J J J ?_)
    have e:zA.out (X.st ⟨M,Rf⟩ Ws) X.W.inv g=(5,(zA.mk X.A X.fm X.sm X.S ⟨M,Rf⟩ Ws)):=(if_neg (by rw [YM];nofun)).trans ((if_neg (by rw [nT];nofun)).trans (if_pos GW))
    rw [e]
    exact⟨_,⟨rfl,rfl⟩,Sub.W9 (zt (X:=X.of (zA.mk X.A X.fm X.sm X.S ⟨M,Rf⟩ Ws)) ⟨hX.1,hX.2⟩) Y⟩
   refine Z 4 J (zW [0,1,3,7,15,0,32,96,224,480,0,2047,4095,8191,8191,16383,65535] [([0,1,2,3,4,5,6,7,8,9,10],[4,9],some 11),([12,13,14,15,16],[],none)] (by kernel_rfl) ?_)
   refine z7 (ZK 2 J (zx J Y (zx J Y (q9 J Y J (ZK 2 J (zx J Y (zx J Y (q9 J Y J (ZK 1 J (z8 ⟨(yN J Y J J J (yN J Y J J J z9)),?_⟩))))))))))
   refine Z2 (KU _ _ _ Ws M ((qH X.fm (g:Int)).getD 0)) J Y Y (zJ (z7 (ZK 3 J (jD (fun Ay=> ?_) (fun Ay=> ?_)))))
   ·refine ZK 2 J (z8 ⟨z9,?_⟩)
    refine OX 12 J (qJ rfl (fun _ h=>yg rfl rfl rfl (by decide) (by show(0:Int)<(1:Nat);decide) h) ?_)
    refine lE 0 J Y J (by rfl) J (Z6 (bw _ _ X.W X.o a s i b X.fm X.sm Rf hX.1 hX.2 M (Vq Ws M ((qH X.fm (g:Int)).getD 0)) (g:Int)) J Y Y Y Y Y Y (Z 2 J (zW [0,1,3,7,0,16,48,0,255] [([0,1,2,3,4,5,6,7],[3,6],some 8),([],[],none)] (by kernel_rfl) ?_)))
    refine z7 (ZK 2 J (zx J Y (q9 J Y J (ZK 1 J (jM rfl (fun _ h=>yg rfl rfl rfl (by decide) (by show(0:Int)<(1:Nat);decide) h) ?_)))))
    refine Gy 0 J Y J (by rfl) J (ZK 1 J (z8 ⟨(yN J Y J J J (va rfl (fun _ h=>wX (j:=0) rfl rfl rfl (by rfl) rfl h) rfl rfl (z6 _ rfl) z9)),?_⟩))
    refine Zb rfl rfl rfl rfl rfl ?_
    refine zJ (z7 (z8 ⟨z9,?_⟩))
    refine OX 4 J (qJ rfl (fun _ h=>yg rfl rfl rfl (by decide) (by show(0:Int)<(1:Nat);decide) h) ?_)
    refine lE 0 J Y J (by rfl) J (Z7 (gA _ _ X.W X.o a s i b X.A (zA.loose (zA.mk X.A X.fm X.sm X.S ⟨M,Rf⟩ (Vq Ws M ((qH X.fm (g:Int)).getD 0))) (g:Int)).fm (wG (zA.loose (zA.mk X.A X.fm X.sm X.S ⟨M,Rf⟩ (Vq Ws M ((qH X.fm (g:Int)).getD 0))) (g:Int)).sm (g:Int) ((aF Ws M ((qH X.fm (g:Int)).getD 0):Nat):Int)) (zA.loose (zA.mk X.A X.fm X.sm X.S ⟨M,Rf⟩ (Vq Ws M ((qH X.fm (g:Int)).getD 0))) (g:Int)).s.R hL.f (hL.s.ins (g:Int) lW) (zA.loose (zA.mk X.A X.fm X.sm X.S ⟨M,Rf⟩ (Vq Ws M ((qH X.fm (g:Int)).getD 0))) (g:Int)).s.M X.S (by omega) (g:Int)) J Y Y Y Y Y Y Y (Z 6 J (zI J J J ?_)))
    have e:zA.out (X.st ⟨M,Rf⟩ Ws) X.W.inv g=(0,zA.Dh (zA.mk X.A X.fm X.sm X.S ⟨M,Rf⟩ Ws) X.W.inv (g:Int) ((qH X.fm (g:Int)).getD 0)):=(if_neg (by rw [YM];nofun)).trans ((if_neg (by rw [nT];nofun)).trans ((if_neg GW).trans (if_neg (by rw [Ay];nofun))))
    rw [e]
    exact⟨_,⟨rfl,rfl⟩,Sub.W9 (zt (X:=X.of (zA.Dh (zA.mk X.A X.fm X.sm X.S ⟨M,Rf⟩ Ws) X.W.inv (g:Int) ((qH X.fm (g:Int)).getD 0))) ⟨hL.f,(hL.s.ins (g:Int) lW)⟩) Y⟩
   refine ZK 2 J (z8 ⟨z9,?_⟩)
   refine OX 12 J (zI J J J ?_)
   have e:zA.out (X.st ⟨M,Rf⟩ Ws) X.W.inv g=(4,(zA.mk X.A X.fm X.sm X.S ⟨M,Rf⟩ Ws)):=(if_neg (by rw [YM];nofun)).trans ((if_neg (by rw [nT];nofun)).trans ((if_neg GW).trans (if_pos Ay)))
   have e2:((ZW Ws M ((qH X.fm (g:Int)).getD 0)).map fun p=>p.2).getD Ws=Ws:=AS Ay
   rw [e2]
   rw [e]
   exact⟨_,⟨rfl,rfl⟩,Sub.W9 (zt (X:=X.of (zA.mk X.A X.fm X.sm X.S ⟨M,Rf⟩ Ws)) ⟨hX.1,hX.2⟩) Y⟩
  refine ZK 2 J (z8 ⟨(yN J Y J J J (va rfl (fun _ h=>wX (j:=0) rfl rfl rfl (by rfl) rfl h) rfl rfl (z6 _ rfl) (va rfl (fun _ h=>Yv rfl rfl rfl h) rfl rfl (z6 _ rfl) z9))),?_⟩)
  refine OX 16 J (zI J J J ?_)
  have e:zA.out (X.st ⟨M,Rf⟩ Ws) X.W.inv g=(3,(zA.mk X.A X.fm X.sm X.S ⟨M,Rf⟩ Ws)):=(if_neg (by rw [YM];nofun)).trans (if_pos nT)
  rw [e]
  exact⟨_,⟨rfl,rfl⟩,Sub.W9 (zt (X:=X.of (zA.mk X.A X.fm X.sm X.S ⟨M,Rf⟩ Ws)) ⟨hX.1,hX.2⟩) Y⟩
 rw [show re [g]= [(0:Int)]from if_neg (by rw [YM];nofun)]
 refine Z 4 J (zW [0,1,3,7,0,16,48,127,255,511,511,1023,4095] [([0,1,2,3,4,5,6,7,8,9,10,11,12],[3,6,7],none)] (by kernel_rfl) ?_)
 refine z7 (ZK 2 J (zx J Y (q9 J Y J (ZK 1 J (jM rfl (fun _ h=>yg rfl rfl rfl (by decide) (by show(0:Int)<(1:Nat);decide) h) ?_)))))
 refine Gy 0 J Y J (by rfl) J (jM rfl (fun _ h=>Yv rfl rfl rfl h) ?_)
 refine ZK 3 J (jD (fun nT=> ?_) (fun nT=> ?_))
 ·refine ZK 2 J (z8 ⟨(yN J Y J J J (va rfl (fun _ h=>wX (j:=0) rfl rfl rfl (by rfl) rfl h) rfl rfl (z6 _ rfl) (va rfl (fun _ h=>Yv rfl rfl rfl h) rfl rfl (z6 _ rfl) z9))),?_⟩)
  refine OX 16 J (zI J J J ?_)
  have e:zA.out (X.st ⟨M,Rf⟩ Ws) X.W.inv g=(3,(zA.mk X.A X.fm X.sm X.S ⟨M,Rf⟩ Ws)):=if_pos YM
  rw [e]
  exact⟨_,⟨rfl,rfl⟩,Sub.W9 (zt (X:=X.of (zA.mk X.A X.fm X.sm X.S ⟨M,Rf⟩ Ws)) ⟨hX.1,hX.2⟩) Y⟩
 refine ZK 2 J (z8 ⟨(yN J Y J J J (va rfl (fun _ h=>wX (j:=0) rfl rfl rfl (by rfl) rfl h) rfl rfl (z6 _ rfl) (va rfl (fun _ h=>Yv rfl rfl rfl h) rfl rfl (z6 _ rfl) z9))),?_⟩)
 refine OX 16 J (zI J J J ?_)
 have e:zA.out (X.st ⟨M,Rf⟩ Ws) X.W.inv g=(3,(zA.mk X.A X.fm X.sm X.S ⟨M,Rf⟩ Ws)):=if_pos YM
 rw [e]
 exact⟨_,⟨rfl,rfl⟩,Sub.W9 (zt (X:=X.of (zA.mk X.A X.fm X.sm X.S ⟨M,Rf⟩ Ws)) ⟨hX.1,hX.2⟩) Y⟩
def zA.drop (x:zA):zA:=let y:=(zH x.A 256).foldl zA.loose x; { y with A:=qx,S:= { y.S with tables:= [] },s:=y.S.tables.foldl PM.jO y.s }
theorem I2 (x:zA) (ps:List Int):(ps.foldl zA.loose x).S=x.S∧(ps.foldl zA.loose x).A=x.A:=by
 induction ps generalizing x with
 |nil=>exact⟨rfl,rfl⟩
 |cons p ps ih=>exact ih (x.loose p)
theorem oK (R:List SP) (v:Nat) (X:YV) (M:zF) (Rf:List (Int×Int)) (Ws:Q4) (hT:X.S.tables.length≤500000):yH 130 [vp v 0] (z3 WN v X::z3 zi X.W.p ⟨X.W.m,Rf⟩::z3 zY X.W.m M::z3 yM X.W.sw Ws::R) fun w L=>w= .tuple []∧L=z3 WN v (X.of (zA.drop (X.st ⟨M,Rf⟩ Ws)))::z3 zi X.W.p ⟨X.W.m,(zA.drop (X.st ⟨M,Rf⟩ Ws)).s.R⟩::z3 zY X.W.m (zA.drop (X.st ⟨M,Rf⟩ Ws)).s.M::z3 yM X.W.sw (zA.drop (X.st ⟨M,Rf⟩ Ws)).w::R:=by
 refine ze (jK v X) fun y hX=> ?_
 obtain⟨a,s,i,b⟩:=y
 dsimp only [Es,List.cons_append,List.nil_append]
 refine SW.intro rfl Tryz.func130 rfl ?_
 refine O0 5 J (fa J Y (ld J Y J (yY (nr _ _ X.A) rfl (fun _=>rfl) ?_)))
 rintro w8 _ ⟨_,rfl,hw8,rfl⟩
 have Ub:=jt X.A 256
 refine qJ rfl (fun _ h=>yI rfl rfl rfl rfl rfl h) ?_
 refine Z 3 J (zy (fun j T L=> ∃(c:Nat),(c≤(zH X.A 256).length)∧(zA.Zt (zA.mk X.A X.fm X.sm X.S ⟨M,Rf⟩ Ws) (((zH X.A 256).take c).foldl zA.loose (zA.mk X.A X.fm X.sm X.S ⟨M,Rf⟩ Ws)) 0)∧j=(zH X.A 256).length-c∧T.len=2∧Tm.get 0 T=some (vp v 0)∧Tm.get 8 T=some (w8)∧Tm.get 9 T=some (vi ((zH X.A 256).length:Nat))∧Tm.get 10 T=some (vi (c:Nat))∧Sub L (z3 (zX ye 1) w8 (zH X.A 256)::z3 zC v (mA X.W X.o a s i b)::z3 wD a X.A::z3 ZM i (((zH X.A 256).take c).foldl zA.loose (zA.mk X.A X.fm X.sm X.S ⟨M,Rf⟩ Ws)).fm::z3 ZM b (((zH X.A 256).take c).foldl zA.loose (zA.mk X.A X.fm X.sm X.S ⟨M,Rf⟩ Ws)).sm::z3 zi X.W.p ⟨X.W.m,(((zH X.A 256).take c).foldl zA.loose (zA.mk X.A X.fm X.sm X.S ⟨M,Rf⟩ Ws)).s.R⟩::z3 we s ⟨X.W.m,X.W.p,X.S⟩::z3 zY X.W.m (((zH X.A 256).take c).foldl zA.loose (zA.mk X.A X.fm X.sm X.S ⟨M,Rf⟩ Ws)).s.M::z3 yM X.W.sw (((zH X.A 256).take c).foldl zA.loose (zA.mk X.A X.fm X.sm X.S ⟨M,Rf⟩ Ws)).w::R)) ((zH X.A 256).length) ⟨0,by omega,⟨hX.1,hX.2,Nat.le_refl _,rfl⟩,by omega,rfl,rfl,rfl,rfl,rfl,(by rw [List.take_zero,List.foldl_nil];exact Y)⟩ ?_)
 rintro j T L0 ⟨c,hc,hF,rfl,hl,g0,g8,g9,YL,yU⟩
 obtain⟨tg,rfl⟩:=GY hl g0 g8 g9 YL
 clear hl g0 g8 g9 YL
 refine yE yU ?_
 clear yU L0
 refine O0 3 J (z5 (fun Gq=> ?_) (fun Gq=> ?_))
 ·refine Z 8 J ?_
  obtain⟨z,hz⟩: ∃z,(zH X.A 256)[c]? =some z:=⟨(zH X.A 256)[c]'(by omega),List.getElem?_eq_getElem (by omega)⟩
  refine qJ rfl (fun _ h=>yg rfl rfl rfl (by omega) (by omega) h) ?_
  refine lE 0 J Y J hz J (Z 5 J (Z6 (bw _ _ X.W X.o a s i b (((zH X.A 256).take c).foldl zA.loose (zA.mk X.A X.fm X.sm X.S ⟨M,Rf⟩ Ws)).fm (((zH X.A 256).take c).foldl zA.loose (zA.mk X.A X.fm X.sm X.S ⟨M,Rf⟩ Ws)).sm (((zH X.A 256).take c).foldl zA.loose (zA.mk X.A X.fm X.sm X.S ⟨M,Rf⟩ Ws)).s.R hF.f hF.s (((zH X.A 256).take c).foldl zA.loose (zA.mk X.A X.fm X.sm X.S ⟨M,Rf⟩ Ws)).s.M (((zH X.A 256).take c).foldl zA.loose (zA.mk X.A X.fm X.sm X.S ⟨M,Rf⟩ Ws)).w z) J Y Y Y Y Y Y (Z 2 J (ad J (Z 2 J ?_)))))
  have hK:=qk zA.loose (zA.mk X.A X.fm X.sm X.S ⟨M,Rf⟩ Ws) (zH X.A 256) c _ hz
  exact Or.inl ⟨rfl,_,by omega,c+1,by omega,by rw [hK];exact hF.loose z,rfl,rfl,rfl,rfl,rfl,rfl,(by rw [hK];exact Y)⟩
 refine Z 4 J (Or.inr ⟨nofun,?_⟩)
 refine OX 2 J ?_
 have Uz:c=(zH X.A 256).length:=by omega
 subst Uz
 rw [List.take_length]at hF ⊢
 refine Z 1 J (qZ (BL _) rfl (fun _=>rfl) ?_)
 rintro _ _ ⟨a19,rfl,rfl⟩
 refine Z 1 J (fa J Y (sO J Y J J J (Z 4 J (fa J Y (ld J Y J (Z3 (KC _ _ _ _ X.S ((zH X.A 256).foldl zA.loose (zA.mk X.A X.fm X.sm X.S ⟨M,Rf⟩ Ws)).s.M ((zH X.A 256).foldl zA.loose (zA.mk X.A X.fm X.sm X.S ⟨M,Rf⟩ Ws)).s.R (by omega)) J Y Y Y (Z 1 J (wq J J ?_))))))))
 have hS:=I2 (zA.mk X.A X.fm X.sm X.S ⟨M,Rf⟩ Ws) (zH X.A 256)
 refine⟨_,⟨rfl,rfl⟩,?_⟩
 have e:(zA.drop (X.st ⟨M,Rf⟩ Ws))= { ((zH X.A 256).foldl zA.loose (zA.mk X.A X.fm X.sm X.S ⟨M,Rf⟩ Ws))with A:=qx,S:= { X.S with tables:= [] },s:=X.S.tables.foldl PM.jO ((zH X.A 256).foldl zA.loose (zA.mk X.A X.fm X.sm X.S ⟨M,Rf⟩ Ws)).s } :=by { unfold zA.drop;simp only [hS.1] }
 rw [e]
 exact Sub.W9 (zt (X:=⟨X.W,X.o,qx,_,_,{ X.S with tables:= [] }⟩) ⟨hF.f,hF.s⟩) Y
structure gT where
 fr:Int
 zE:Int
 zM:Bool
 inv:Bool
 num:Int
 u:Nat
 X:yS
abbrev ou (C:gT):List z0:= [vi C.fr,vi C.zE,.bool C.zM,.bool C.inv,vi C.num,vp C.u 0]
abbrev xU (c:Nat) (C:gT) (_:Unit):List SP:= [z3 zC c (ou C),z3 uz C.u C.X]
def gX (c:Nat) (C:gT):SP:=fun h=> ∃y:Unit,True∧Sat (xU c C y) h
theorem uL (c:Nat) (C:gT): ∀h,gX c C h→ ∃y:Unit,True∧Sat (xU c C y) h:=fun _ h=>h
theorem qE {c:Nat} {C:gT} : ∀h,Sat [z3 zC c (ou C),z3 uz C.u C.X] h→gX c C h:=fun _ x=>⟨(),trivial,x⟩
def gT.dv (C:gT) (pair:Int):Int:=if C.zM then 2*pair+1 else 2*pair
theorem zh.IX {S:zh} (h:S.Ok) (p:Int):0≤S.pair p∧S.pair p≤3:=by
 unfold zh.pair;split
 ·exact h.2.2.1 _
 omega
theorem zh.MV {S:zh} (h:S.Ok) (p:Int):0≤(S.ask p).1∧(S.ask p).1≤3:=by
 unfold zh.ask
 split
 ·split
  ·exact h.2.2.1 _
  split
  ·rename_i v hv
   unfold zh.least at hv
   split at hv
   ·cases hv;show(0:Int)≤1∧(1:Int)≤3;omega
   split at hv
   ·cases hv;show(0:Int)≤2∧(2:Int)≤3;omega
   split at hv
   ·cases hv;show(0:Int)≤3∧(3:Int)≤3;omega
   cases hv
  show(0:Int)≤1∧(1:Int)≤3;omega
 show(0:Int)≤0∧(0:Int)≤3;omega
theorem Bw (R:List SP) (fr zE:Int) (zM inv:Bool) (z:Int):yH 71 [.agg (Yf fr zE zM inv),vi z] (R) fun w L=> ∃c u t,w=vp c 0∧L=z3 gX c ⟨fr,zE,zM,inv,z,u,⟨z,0,0,t,[]⟩⟩::R:=by
 refine SW.intro rfl Tryz.func71 rfl ?_
 refine O0 2 J (yu rfl rfl rfl rfl fun i2=> ?_)
 refine Z 3 J (zW [0,0,0,4,15,31,63] [([0,1,2],[0],some 3),([4,5,6],[0],none)] (by kernel_rfl) ?_)
 refine z7 (kv J Y Y J J (ZK 2 J (z8 ⟨(Wm J Y Y J J J (z6 _ rfl) z9),?_⟩)))
 refine qZ (OU _ _) rfl (fun _=>rfl) ?_
 rintro _ _ ⟨n8,t8,rfl,rfl⟩
 refine zJ (z7 (cz [_,_,_,_,_,_] J Y Y J (r8 rfl rfl rfl rfl fun i10=> ?_)))
 refine ZK 1 J (z8 ⟨(Wm J Y Y J J J (z6 _ rfl) z9),?_⟩)
 exact OX 1 J (zI J J J ⟨_,⟨i10,n8,t8,rfl,rfl⟩,Sub.qi (qE (C:=⟨fr,zE,zM,inv,z,n8,⟨z,0,0,t8,[]⟩⟩)) Y⟩)
theorem Un (R:List SP) (c:Nat) (C:gT):yH 27 [vp c 0] (z3 gX c C::R) fun w L=>w=vp C.u 0∧L=z3 gX c C::R:=by
 refine ze (uL c C) fun y _=> ?_
 dsimp only [xU,List.cons_append,List.nil_append]
 refine SW.intro rfl Tryz.func27 rfl ?_
 exact O0 8 J (fa J Y (ld J Y J (Z 3 J (zI J J J ⟨_,⟨rfl,rfl⟩,Sub.qi (qE (C:=C)) Y⟩))))
theorem Uo (R:List SP) (p:Int) (hp:0≤p∧p≤3):yH 161 [vi p] (R) fun w L=>w=vi (2*p)∧L=R:=by
 refine SW.intro rfl Tryz.func161 rfl ?_
 exact O0 7 J (ml J (Z 3 J (zI J J J fq)))
theorem Fv (R:List SP) (c:Nat) (C:gT) (p:Int) (hp:0≤p∧p≤3):yH 194 [vp c 0,vi p] (z3 zC c (ou C)::R) fun w L=>w=vi (C.dv p)∧L=z3 zC c (ou C)::R:=by
 refine SW.intro rfl Tryz.func194 rfl ?_
 refine O0 9 J (fa J Y (fa J Y (ld J Y J (zV (fun h9=> ?_) (fun h9=> ?_)))))
 ·refine Z 5 J (ml J (ad J (Z 3 J (zI J J J ?_))))
  have e:C.dv p=2*p+1:=if_pos h9
  rw [e]
  exact fq
 refine Z 6 J (Z0 (Uo _ _ (by omega)) J (Z 3 J (zI J J J ?_)))
 have e:C.dv p=2*p:=if_neg (by rw [h9];nofun)
 rw [e]
 exact fq
theorem Fu (R:List SP) (c:Nat) (C:gT):yH 112 [vp c 0] (z3 gX c C::R) fun w L=>w= .tuple []∧L=z3 gX c { C with X:= { C.X with root:=0,yC:=0 } } ::R:=by
 refine ze (uL c C) fun y _=> ?_
 dsimp only [xU,List.cons_append,List.nil_append]
 refine SW.intro rfl Tryz.func112 rfl ?_
 exact O0 3 J (fa J Y (ld J Y J (Z1 (xE _ _ C.X 0 0) J Y (Z 1 J (wq J J ⟨_,⟨rfl,rfl⟩,Sub.qi (qE (C:= { C with X:= { C.X with root:=0,yC:=0 } })) Y⟩)))))
theorem fI (R:List SP) (c:Nat) (C:gT) (n v:Nat) (P:zh) (X:YV) (p:Int):yH 141 [vp c 0,vp n 0,vp v 0,vi p] (z3 gX c C::z3 wV n P::z3 WN v X::R) fun w L=>w= .tuple []∧L=z3 gX c { C with X:= { C.X with root:=(X.S.kernel:Nat),yC:=C.dv (P.pair p) } } ::z3 wV n P::z3 WN v X::R:=by
 refine ze (uL c C) fun y _=> ?_
 dsimp only [xU,List.cons_append,List.nil_append]
 refine yl (eZ n P) fun hP=> ?_
 have hb:=zh.IX hP p
 refine SW.intro rfl Tryz.func141 rfl ?_
 refine O0 3 J (Z1 (bz _ _ X) J Y (Z 6 J (zW [0,1,3,7,0,0,0,0,192,480,1023] [([0,1,2,3,4,5,6,7],[3],some 8),([],[3],some 9),([],[3],some 10),([],[],none)] (by kernel_rfl) ?_)))
 refine z7 (ZK 2 J (zx J Y (q9 J Y J (ZK 4 J (z8 ⟨(yN J Y J J J z9),?_⟩)))))
 refine Z1 (ed _ _ _ _) J Y (zJ (z7 (z8 ⟨(yN J Y J J J z9),?_⟩)))
 refine Z1 (Fv _ _ C _ (by omega)) J Y (zJ (z7 (z8 ⟨(yN J Y J J J z9),?_⟩)))
 refine Z1 (xE _ _ C.X (X.S.kernel:Nat) (C.dv (P.pair p))) J Y (zJ (z7 (z8 ⟨z9,?_⟩)))
 exact wq J J ⟨_,⟨rfl,rfl⟩,Sub.qi (qE (C:= { C with X:= { C.X with root:=(X.S.kernel:Nat),yC:=C.dv (P.pair p) } })) Y⟩
def uV (xs:List uO) (z:Int):List uO:=xs.filter fun y=>decide (y.yC≠z)||y.iP
theorem yS.Ok.uV {X:yS} (h:X.Ok) (z:Int):({ X with xs:=uV X.xs z } :yS).Ok:=fun x hx=>h x (List.mem_filter.1 hx).1
def gT.leave (C:gT) (P:zh) (user:Nat) (p:Int):gT:= { C with X:= { C.X with root:=(user:Nat),yC:=2*(P.ask p).1,xs:=if((P.ask p).2.2.take C.num (P.ask p).1).1 then uV (uV C.X.xs (2*(P.ask p).1)) (2*(P.ask p).1+1)else C.X.xs } }
theorem fK (R:List SP) (c:Nat) (C:gT) (n v:Nat) (P:zh) (X:YV) (p:Int) (hg:P.gen≤4611686018427387903):yH 113 [vp c 0,vp n 0,vp v 0,vi p] (z3 gX c C::z3 wV n P::z3 WN v X::R) fun w L=>w= .bool (P.ask p).2.1∧L=z3 gX c (C.leave P X.S.user p)::z3 wV n ((P.ask p).2.2.take C.num (P.ask p).1).2::z3 WN v X::R:=by
 refine ze (uL c C) fun y _=> ?_
 dsimp only [xU,List.cons_append,List.nil_append]
 refine yl (eZ n P) fun hP=> ?_
 have hb:=zh.MV hP p
 refine yl (VP C.u C.X) fun P5=> ?_
 refine SW.intro rfl Tryz.func113 rfl ?_
 refine O0 8 J (Z1 (O1 _ _ P p hg) J Y (Z 12 J (fa J Y (ld J Y J (Z 1 J (Z1 (Ii _ _ (P.ask p).2.2 C.num (P.ask p).1) J Y (zV (fun QN=> ?_) (fun QN=> ?_))))))))
 ·refine Z 6 J (fa J Y (ld J Y J (Z1 (br _ _ C.X) J Y (Z 1 J (Z0 (Uo _ (P.ask p).1 (by omega)) J (wj (uM C.u C.X) fun _ hXX=> ?_))))))
  dsimp only [kK,List.cons_append,List.nil_append]
  refine Z1 (EY _ _ C.X.xs (2*(P.ask p).1)) J Y (zd (Sub.qi (p:=z3 uz C.u (yS.mk C.X.zQ C.X.root C.X.yC C.X.t (uV C.X.xs (2*(P.ask p).1)))) (qF (a:=C.u) (X:=(yS.mk C.X.zQ C.X.root C.X.yC C.X.t (uV C.X.xs (2*(P.ask p).1)))) (P5.uV (2*(P.ask p).1))) (Sub.refl _)) ?_)
  refine Z 4 J (fa J Y (ld J Y J (Z1 (br _ _ (yS.mk C.X.zQ C.X.root C.X.yC C.X.t (uV C.X.xs (2*(P.ask p).1)))) J Y (Z 1 J (Z0 (Uo _ (P.ask p).1 (by omega)) J (ad J (wj (uM C.u (yS.mk C.X.zQ C.X.root C.X.yC C.X.t (uV C.X.xs (2*(P.ask p).1)))) fun _ hXX=> ?_)))))))
  dsimp only [kK,List.cons_append,List.nil_append]
  refine Z1 (EY _ _ (uV C.X.xs (2*(P.ask p).1)) (2*(P.ask p).1+1)) J Y (zd (Sub.qi (p:=z3 uz C.u (yS.mk C.X.zQ C.X.root C.X.yC C.X.t (uV (uV C.X.xs (2*(P.ask p).1)) (2*(P.ask p).1+1)))) (qF (a:=C.u) (X:=(yS.mk C.X.zQ C.X.root C.X.yC C.X.t (uV (uV C.X.xs (2*(P.ask p).1)) (2*(P.ask p).1+1)))) ((P5.uV (2*(P.ask p).1)).uV (2*(P.ask p).1+1))) (Sub.refl _)) ?_)
  refine Z 4 J (Z1 (bz _ _ X) J Y (Z 7 J (zW [0,1,3,7,0,0,32,127] [([0,1,2,3,4,5],[3],some 6),([],[3],some 7),([],[],none)] (by kernel_rfl) ?_)))
  refine z7 (ZK 2 J (zx J Y (q9 J Y J (ZK 2 J (z8 ⟨(yN J Y J J J z9),?_⟩)))))
  refine Z0 (Uo _ (P.ask p).1 (by omega)) J (zJ (z7 (z8 ⟨(yN J Y J J J z9),?_⟩)))
  refine Z1 (xE _ _ (yS.mk C.X.zQ C.X.root C.X.yC C.X.t (uV (uV C.X.xs (2*(P.ask p).1)) (2*(P.ask p).1+1))) (X.S.user:Nat) (2*(P.ask p).1)) J Y (zJ (z7 (z8 ⟨z9,?_⟩)))
  refine OX 6 J (zI J J J ?_)
  have e:C.leave P X.S.user p= { C with X:= { (yS.mk C.X.zQ C.X.root C.X.yC C.X.t (uV (uV C.X.xs (2*(P.ask p).1)) (2*(P.ask p).1+1)))with root:=(X.S.user:Nat),yC:=2*(P.ask p).1 } } :=by { unfold gT.leave;rw [QN];rfl }
  rw [e]
  exact⟨_,⟨rfl,rfl⟩,Sub.qi (qE (C:= { C with X:= { (yS.mk C.X.zQ C.X.root C.X.yC C.X.t (uV (uV C.X.xs (2*(P.ask p).1)) (2*(P.ask p).1+1)))with root:=(X.S.user:Nat),yC:=2*(P.ask p).1 } })) Y⟩
 refine Z 6 J (Z1 (bz _ _ X) J Y (Z 7 J (zW [0,1,3,7,0,0,32,127] [([0,1,2,3,4,5],[3],some 6),([],[3],some 7),([],[],none)] (by kernel_rfl) ?_)))
 refine z7 (ZK 2 J (zx J Y (q9 J Y J (ZK 2 J (z8 ⟨(yN J Y J J J z9),?_⟩)))))
 refine Z0 (Uo _ (P.ask p).1 (by omega)) J (zJ (z7 (z8 ⟨(yN J Y J J J z9),?_⟩)))
 refine Z1 (xE _ _ C.X (X.S.user:Nat) (2*(P.ask p).1)) J Y (zJ (z7 (z8 ⟨z9,?_⟩)))
 refine OX 6 J (zI J J J ?_)
 have e:C.leave P X.S.user p= { C with X:= { C.X with root:=(X.S.user:Nat),yC:=2*(P.ask p).1 } } :=by { unfold gT.leave;rw [QN];rfl }
 rw [e]
 exact⟨_,⟨rfl,rfl⟩,Sub.qi (qE (C:= { C with X:= { C.X with root:=(X.S.user:Nat),yC:=2*(P.ask p).1 } })) Y⟩
theorem JH {z:Int} (h:0≤z):z0.int .u64 (.lit z)=vu z.toNat:=by unfold vu;rw [Int.toNat_of_nonneg h]
def gT.jc (C:gT) (M:zF) (H:yF) (frame word:Int):Bool×gT×yF:=
 if(0≤frame∧frame<M.n)∧0≤word∧word<8 then
  (let r:=C.X.trans M H false false (8*(256+frame)+word).toNat
   if r.1.2≠0 then(false,{ C with X:=r.2.1 },r.2.2)else(true,{ C with X:=r.2.1 },(r.2.2.touch C.num r.1.1).2))else(false,C,H)
theorem Fz (R:List SP) (c:Nat) (C:gT) (W:Wd) (h:Nat) (M:zF) (H:yF) (frame word:Int):yH 95 [vp c 0,.agg (dC W),vp h 0,vi frame,vi word] (z3 gX c C::z3 zY W.m M::z3 qj h H::R) fun w L=>w= .bool (C.jc M H frame word).1∧L=z3 gX c (C.jc M H frame word).2.1::z3 zY W.m M::z3 qj h (C.jc M H frame word).2.2::R:=by
 refine ze (uL c C) fun y _=> ?_
 dsimp only [xU,List.cons_append,List.nil_append]
 refine yl (qf W.m M) fun hM=> ?_
 have hn:=hM.2.1
 refine SW.intro rfl Tryz.func95 rfl ?_
 refine O0 2 J (yu rfl rfl rfl rfl fun i6=> ?_)
 refine Z 7 J (z5 (fun YQ=> ?_) (fun YQ=> ?_))
 ·refine Z 22 J (zI J J J ?_)
  have e:(C.jc M H frame word)=(false,C,H):=if_neg (by omega)
  rw [e]
  exact⟨_,⟨rfl,rfl⟩,Sub.qi (qE (C:=C)) Y⟩
 refine Z 2 J (fa J Y (ld J Y J (Z1 (gL _ _ _) J Y (Z 1 J (z5 (fun Ua=> ?_) (fun Ua=> ?_))))))
 ·refine Z 16 J (zI J J J ?_)
  have e:(C.jc M H frame word)=(false,C,H):=if_neg (by omega)
  rw [e]
  exact⟨_,⟨rfl,rfl⟩,Sub.qi (qE (C:=C)) Y⟩
 refine Z 4 J (z5 (fun kB=> ?_) (fun kB=> ?_))
 ·refine Z 12 J (zI J J J ?_)
  have e:(C.jc M H frame word)=(false,C,H):=if_neg (by omega)
  rw [e]
  exact⟨_,⟨rfl,rfl⟩,Sub.qi (qE (C:=C)) Y⟩
 refine Z 4 J (z5 (fun Uy=> ?_) (fun Uy=> ?_))
 ·refine Z 8 J (zI J J J ?_)
  have e:(C.jc M H frame word)=(false,C,H):=if_neg (by omega)
  rw [e]
  exact⟨_,⟨rfl,rfl⟩,Sub.qi (qE (C:=C)) Y⟩
 refine Z 5 J (zW [0,1,3,7,0,16,0,0,128,384,0,1920,3968,8191,16383,32767,32767,65535,262143] [([0,1,2,3,4,5,6,7,8,9,10,11,12],[3,5,8,9,11,12],some 13),([14,15,16,17,18],[],none)] (by kernel_rfl) ?_)
 refine z7 (ZK 2 J (zx J Y (q9 J Y J (zx J Y (q9 J Y J (ZK 2 J (PJ J (uc rfl (fun _=>zG rfl rfl rfl (gm (by omega))) ?_))))))))
 refine ZK 1 J (PJ J (uc rfl (fun _=>qy rfl rfl (qR (by omega))) ?_))
 refine QA (JH (by omega)) ?_
 refine z8 ⟨(yN J Y J J J (yN J Y J J J (uR rfl (fun _=>zG rfl rfl rfl (gJ (by omega))) rfl rfl (z6 _ rfl) (uR rfl (fun _=>zG rfl rfl rfl (gm (by omega))) rfl rfl (z6 _ rfl) (uR rfl (fun _=>zG rfl rfl rfl (gJ (by omega))) rfl rfl (z6 _ rfl) (uR rfl (fun _=>qy rfl rfl (qR (by omega))) rfl rfl (by rw [JH (by omega)];exact z6 _ rfl) z9)))))),?_⟩
 refine Z3 (lA _ _ _ _ C.X M H false false (8*(256+frame)+word).toNat) J Y Y Y (zJ (z7 (ZK 5 J (z8 ⟨z9,?_⟩))))
 refine OX 5 J (z5 (fun Jb=> ?_) (fun Jb=> ?_))
 ·refine Z 7 J (zI J J J ?_)
  have e:(C.jc M H frame word)=(false,{ C with X:=(C.X.trans M H false false (8*(256+frame)+word).toNat).2.1 },(C.X.trans M H false false (8*(256+frame)+word).toNat).2.2):=(if_pos (by omega)).trans (if_pos Jb)
  rw [e]
  exact⟨_,⟨rfl,rfl⟩,Sub.qi (qE (C:= { C with X:=(C.X.trans M H false false (8*(256+frame)+word).toNat).2.1 })) Y⟩
 refine Z 8 J (fa J Y (ld J Y J (Z 1 J (Z1 (gn _ _ (C.X.trans M H false false (8*(256+frame)+word).toNat).2.2 C.num (C.X.trans M H false false (8*(256+frame)+word).toNat).1.1) J Y (Z 6 J (zI J J J ?_))))))
 have e:(C.jc M H frame word)=(true,{ C with X:=(C.X.trans M H false false (8*(256+frame)+word).toNat).2.1 },((C.X.trans M H false false (8*(256+frame)+word).toNat).2.2.touch C.num (C.X.trans M H false false (8*(256+frame)+word).toNat).1.1).2):=(if_pos (by omega)).trans (if_neg Jb)
 rw [e]
 exact⟨_,⟨rfl,rfl⟩,Sub.qi (qE (C:= { C with X:=(C.X.trans M H false false (8*(256+frame)+word).toNat).2.1 })) Y⟩
theorem BY (M:zF) (hn:M.n≤64) (z4:Nat): ∀k t pl,t<M.n→(M.uK z4 k t pl).1≤64∧(M.uK z4 k t pl).2.2.2.length≤pl.length+k:=by
 intro k
 induction k with
 |zero=>intro t pl h;exact⟨by show t≤64;omega,by show pl.length≤_;omega⟩
 |succ k ih=>
  intro t pl h
  rw [xR M z4 k t pl _ _ rfl rfl]
  have hl: ∀z:Int,(pl++ [z]).length=pl.length+1:=fun z=>by rw [List.length_append];rfl
  split
  ·split
   ·refine⟨?_,?_⟩
    ·show bV _≤64;omega
    show(pl++ [_]).length≤_;rw [hl];omega
   exact⟨Nat.zero_le _,by show(pl++ [_]).length≤_;rw [hl];omega⟩
  split
  ·exact⟨Nat.zero_le _,by show(pl++ [_]).length≤_;rw [hl];omega⟩
  split
  ·rename_i h3
   have:=ih (fN (M.je t (yJ z4 (2-k)))) (pl++ [((8*t+yJ z4 (2-k):Nat):Int)]) h3
   rw [hl]at this
   exact⟨this.1,by omega⟩
  exact⟨Nat.zero_le _,by show(pl++ [_]).length≤_;rw [hl];omega⟩
theorem nz (M:zF) (hn:M.n≤64) (root z4:Int):(M.blind root z4).1≤64∧(M.blind root z4).2.2.2.length≤3:=by
 unfold zF.blind
 split
 ·exact⟨Nat.zero_le _,Nat.zero_le _⟩
 split
 ·have:=BY M hn z4.toNat 3 root.toNat [] (by omega)
  simpa using this
 exact⟨Nat.zero_le _,Nat.zero_le _⟩
def yS.seen (X:yS) (M:zF) (C:yF) (zQ z4:Int):(Int×Bool×Bool)×yF:=
 if(X.find z4).isSome then((((X.find z4).getD cx).frame,true,true),C)else((((M.blind X.root z4).1:Nat),(M.blind X.root z4).2.1,(M.blind X.root z4).2.2.1),C.Gd zQ (M.blind X.root z4).2.2.2)
theorem yS.KD {X:yS} (h:X.Ok) {M:zF} (hM:M.Ok) (C:yF) (zQ z4:Int):0≤(X.seen M C zQ z4).1.1∧(X.seen M C zQ z4).1.1≤64:=by
 unfold yS.seen
 split
 ·rename_i e
  cases hf:X.find z4 with
  |none=>rw [hf]at e;cases e
  |some x=>exact h x (List.mem_of_find?_eq_some hf)
 have:=(nz M hM.2.1 X.root z4).1
 show 0≤(((M.blind X.root z4).1:Nat):Int)∧(((M.blind X.root z4).1:Nat):Int)≤64;omega
def yS.spec (X:yS) (M:zF) (C:yF) (zQ:Int) (at_:Nat):(Nat×Bool)×yF:=
 if 4096≤at_ then((0,false),C)else
 let r:=X.seen M C zQ ((at_/8:Nat):Int)
 let line:=8*r.1.1+((at_%8:Nat):Int)
 if r.1.2.2=false∨(r.1.2.1=false∧r.2.A2 zQ line=false)then((0,false),r.2)else((M.rd line,(M.read line).isSome),(r.2.touch zQ line).2)
theorem OD (R:List SP) (m c u:Nat) (M:zF) (C:yF) (X:yS) (zQ:Int) (z4:Int):yH 148 [vp m 0,vp c 0,vp u 0,vi zQ,vi z4] (z3 zY m M::z3 qj c C::z3 uz u X::R) fun w L=>w= .tuple [vi (X.seen M C zQ z4).1.1,.bool (X.seen M C zQ z4).1.2.1,.bool (X.seen M C zQ z4).1.2.2]∧L=z3 zY m M::z3 qj c (X.seen M C zQ z4).2::z3 uz u X::R:=by
 refine yl (qf m M) fun hM=> ?_
 refine yl (VP u X) fun hX=> ?_
 refine SW.intro rfl Tryz.func148 rfl ?_
 refine O0 10 J (Z1 (br _ _ X) J Y (Z 1 J (Z1 (oI _ _ X) J Y (Z 1 J (wj (uM u X) fun _ hXX=> ?_)))))
 dsimp only [kK,List.cons_append,List.nil_append]
 refine Z1 (oE _ _ X.xs X.yC z4) J Y (zd (Sub.qi (p:=z3 uz u X) (qF (a:=u) (X:=X) hX) (Sub.refl _)) ?_)
 refine Z 3 J (zV (fun nT=> ?_) (fun nT=> ?_))
 ·refine zn rfl rfl rfl fun i13=> ?_
  refine sN J Y Y J J J (Z 9 J (fa J Y (ld J Y J (Z 5 J (⟨.inr rfl,_,fun _ h=>(zu (zm rfl) (zu (zm rfl) (zu (zm rfl) qY))),?_⟩)))))
  have e:(X.seen M C zQ z4)=((((X.find z4).getD cx).frame,true,true),C):=if_pos nT
  rw [e]
  exact fq
 refine zn rfl rfl rfl fun i13=> ?_
 refine sN J Y Y J J J (Z 12 J (Z1 (oJ _ _ X) J Y (Z 1 J (yY (Ey _ _ M X.root z4) rfl (fun _=>rfl) ?_))))
 rintro _ _ ⟨z2R,rfl,rfl⟩
 refine yW (v:=z2R) fun lk c6 cG SY _=> ?_
 subst SY
 have Ub:=(nz M hM.2.1 X.root z4).2
 refine Z 14 J (qJ rfl (fun _ h=>yI rfl rfl rfl rfl rfl h) ?_)
 refine Z 3 J (zy (fun j T L=> ∃(q:Nat),(q≤(M.blind X.root z4).2.2.2.length)∧j=(M.blind X.root z4).2.2.2.length-q∧T.len=4∧Tm.get 1 T=some (vp c 0)∧Tm.get 3 T=some (vi zQ)∧Tm.get 10 T=some (vi ((M.blind X.root z4).1:Nat))∧Tm.get 11 T=some (.bool (M.blind X.root z4).2.1)∧Tm.get 12 T=some (.bool (M.blind X.root z4).2.2.1)∧Tm.get 40 T=some ((.slice lk (M.blind X.root z4).2.2.2.length c6 cG))∧Tm.get 41 T=some (vi ((M.blind X.root z4).2.2.2.length:Nat))∧Tm.get 42 T=some (vi (q:Nat))∧Sub L (z3 qj c (C.Gd zQ ((M.blind X.root z4).2.2.2.take q))::z3 (zX ye 1) (.slice lk (M.blind X.root z4).2.2.2.length c6 cG) (M.blind X.root z4).2.2.2::z3 uz u X::z3 zY m M::R)) ((M.blind X.root z4).2.2.2.length) ⟨0,by omega,by omega,rfl,rfl,rfl,rfl,rfl,rfl,rfl,rfl,rfl,(by rw [List.take_zero];exact(show Sub _ (z3 qj c C::z3 (zX ye 1) (.slice lk (M.blind X.root z4).2.2.2.length c6 cG) (M.blind X.root z4).2.2.2::z3 uz u X::z3 zY m M::R)from Y))⟩ ?_)
 rintro j T L0 ⟨q,hq,rfl,hl,g1,g3,YL,kA,iN,RN,RP,RQ,yU⟩
 obtain⟨tg,rfl⟩:=lp8 hl g1 g3 YL kA iN RN RP RQ
 clear hl g1 g3 YL kA iN RN RP RQ
 refine yE yU ?_
 clear yU L0
 refine O0 3 J (z5 (fun xl=> ?_) (fun xl=> ?_))
 ·refine Z 8 J ?_
  obtain⟨z,hz⟩: ∃z,(M.blind X.root z4).2.2.2[q]? =some z:=⟨(M.blind X.root z4).2.2.2[q]'(by omega),List.getElem?_eq_getElem (by omega)⟩
  refine qJ rfl (fun _ h=>yg rfl rfl rfl (by omega) (by omega) h) ?_
  refine lE 0 J Y J hz J (Z 6 J (Z1 (gn _ _ (C.Gd zQ ((M.blind X.root z4).2.2.2.take q)) _ _) J Y (Z 2 J (ad J (Z 2 J ?_)))))
  exact Or.inl ⟨rfl,_,by omega,q+1,by omega,rfl,rfl,rfl,rfl,rfl,rfl,rfl,rfl,rfl,rfl,(by rw [yF.xN hz];exact Y)⟩
 refine Z 4 J (Or.inr ⟨nofun,?_⟩)
 refine OX 10 J (⟨.inr rfl,_,fun _ h=>(zu (zm rfl) (zu (zm rfl) (zu (zm rfl) qY))),?_⟩)
 have cl:q=(M.blind X.root z4).2.2.2.length:=by omega
 subst cl
 rw [List.take_length]
 have e:(X.seen M C zQ z4)=(((((M.blind X.root z4).1:Nat):Int),(M.blind X.root z4).2.1,(M.blind X.root z4).2.2.1),C.Gd zQ (M.blind X.root z4).2.2.2):=if_neg (by rw [nT];nofun)
 rw [e]
 exact fq
theorem xC (R:List SP) (m c u:Nat) (M:zF) (C:yF) (X:yS) (zQ:Int) (at_:Nat):yH 96 [vp m 0,vp c 0,vp u 0,vi zQ,vu at_] (z3 zY m M::z3 qj c C::z3 uz u X::R) fun w L=>w= .tuple [vu (X.spec M C zQ at_).1.1,.bool (X.spec M C zQ at_).1.2]∧L=z3 zY m M::z3 qj c (X.spec M C zQ at_).2::z3 uz u X::R:=by
 refine yl (qf m M) fun hM=> ?_
 refine yl (VP u X) fun hX=> ?_
 have hb:=yS.KD hX hM C zQ ((at_/8:Nat):Int)
 refine SW.intro rfl Tryz.func96 rfl ?_
 refine O0 10 J (z5 (fun Q9=> ?_) (fun Q9=> ?_))
 ·refine Z 8 J (qt J J J J ?_)
  have e:(X.spec M C zQ at_)=((0,false),C):=if_pos (by omega)
  rw [e]
  exact fq
 refine Z 10 J (zo rfl (fun _=>zG rfl rfl rfl (ln (y:=8) (by omega) (by decide))) ?_)
 refine zo rfl (fun _=>qy rfl rfl (vz (by omega))) ?_
 refine qI (w:=vi ((at_/8:Nat):Int)) (by rw [Int.natCast_ediv];rfl) ?_
 refine Z3 (OD _ _ _ _ M C X zQ ((at_/8:Nat):Int)) J Y Y Y (Z 3 J (zV (fun Uy=> ?_) (fun Uy=> ?_)))
 ·refine Z 1 J (zV (fun Vj=> ?_) (fun Vj=> ?_))
  ·refine Z 7 J (ml J (Z 1 J (zo rfl (fun _=>zG rfl rfl rfl (xP (y:=8) (by omega) (by decide))) ?_)))
   refine zo rfl (fun _=>qy rfl rfl (vz (by omega))) ?_
   refine qI (w:=vi ((at_%8:Nat):Int)) (by rw [Int.natCast_emod];rfl) ?_
   refine ad J (Z 26 J (Z1 (gn _ _ (X.seen M C zQ ((at_/8:Nat):Int)).2 zQ (8*(X.seen M C zQ ((at_/8:Nat):Int)).1.1+((at_%8:Nat):Int))) J Y (Z 5 J (Z1 (J8 _ _ M _ (by omega)) J Y (Z 6 J (qt J J J J ?_))))))
   have hr: ¬((X.seen M C zQ ((at_/8:Nat):Int)).1.2.2=false∨((X.seen M C zQ ((at_/8:Nat):Int)).1.2.1=false∧(X.seen M C zQ ((at_/8:Nat):Int)).2.A2 zQ (8*(X.seen M C zQ ((at_/8:Nat):Int)).1.1+((at_%8:Nat):Int))=false)):=by
    rintro (h|⟨h,h2⟩)
    ·rw [Vj]at h;cases h
    rw [Uy]at h;cases h
   have e:(X.spec M C zQ at_)=((M.rd (8*(X.seen M C zQ ((at_/8:Nat):Int)).1.1+((at_%8:Nat):Int)),(M.read (8*(X.seen M C zQ ((at_/8:Nat):Int)).1.1+((at_%8:Nat):Int))).isSome),((X.seen M C zQ ((at_/8:Nat):Int)).2.touch zQ (8*(X.seen M C zQ ((at_/8:Nat):Int)).1.1+((at_%8:Nat):Int))).2):=(if_neg (by omega)).trans (if_neg hr)
   rw [e]
   exact fq
  refine Z 7 J (ml J (Z 1 J (zo rfl (fun _=>zG rfl rfl rfl (xP (y:=8) (by omega) (by decide))) ?_)))
  refine zo rfl (fun _=>qy rfl rfl (vz (by omega))) ?_
  refine qI (w:=vi ((at_%8:Nat):Int)) (by rw [Int.natCast_emod];rfl) ?_
  refine ad J (Z 26 J (qt J J J J ?_))
  have e:(X.spec M C zQ at_)=((0,false),(X.seen M C zQ ((at_/8:Nat):Int)).2):=(if_neg (by omega)).trans (if_pos (.inl Vj))
  rw [e]
  exact fq
 refine Z 1 J (zV (fun Vj=> ?_) (fun Vj=> ?_))
 ·refine Z 7 J (ml J (Z 1 J (zo rfl (fun _=>zG rfl rfl rfl (xP (y:=8) (by omega) (by decide))) ?_)))
  refine zo rfl (fun _=>qy rfl rfl (vz (by omega))) ?_
  refine qI (w:=vi ((at_%8:Nat):Int)) (by rw [Int.natCast_emod];rfl) ?_
  refine ad J (Z 14 J (Z1 (Fx _ _ (X.seen M C zQ ((at_/8:Nat):Int)).2 zQ (8*(X.seen M C zQ ((at_/8:Nat):Int)).1.1+((at_%8:Nat):Int))) J Y (zV (fun HF=> ?_) (fun HF=> ?_))))
  ·refine Z 11 J (Z1 (gn _ _ (X.seen M C zQ ((at_/8:Nat):Int)).2 zQ (8*(X.seen M C zQ ((at_/8:Nat):Int)).1.1+((at_%8:Nat):Int))) J Y (Z 5 J (Z1 (J8 _ _ M _ (by omega)) J Y (Z 6 J (qt J J J J ?_)))))
   have hr: ¬((X.seen M C zQ ((at_/8:Nat):Int)).1.2.2=false∨((X.seen M C zQ ((at_/8:Nat):Int)).1.2.1=false∧(X.seen M C zQ ((at_/8:Nat):Int)).2.A2 zQ (8*(X.seen M C zQ ((at_/8:Nat):Int)).1.1+((at_%8:Nat):Int))=false)):=by
    rintro (h|⟨h,h2⟩)
    ·rw [Vj]at h;cases h
    rw [HF]at h2;cases h2
   have e:(X.spec M C zQ at_)=((M.rd (8*(X.seen M C zQ ((at_/8:Nat):Int)).1.1+((at_%8:Nat):Int)),(M.read (8*(X.seen M C zQ ((at_/8:Nat):Int)).1.1+((at_%8:Nat):Int))).isSome),((X.seen M C zQ ((at_/8:Nat):Int)).2.touch zQ (8*(X.seen M C zQ ((at_/8:Nat):Int)).1.1+((at_%8:Nat):Int))).2):=(if_neg (by omega)).trans (if_neg hr)
   rw [e]
   exact fq
  refine Z 11 J (qt J J J J ?_)
  have e:(X.spec M C zQ at_)=((0,false),(X.seen M C zQ ((at_/8:Nat):Int)).2):=(if_neg (by omega)).trans (if_pos (.inr ⟨Uy,HF⟩))
  rw [e]
  exact fq
 refine Z 7 J (ml J (Z 1 J (zo rfl (fun _=>zG rfl rfl rfl (xP (y:=8) (by omega) (by decide))) ?_)))
 refine zo rfl (fun _=>qy rfl rfl (vz (by omega))) ?_
 refine qI (w:=vi ((at_%8:Nat):Int)) (by rw [Int.natCast_emod];rfl) ?_
 refine ad J (Z 26 J (qt J J J J ?_))
 have e:(X.spec M C zQ at_)=((0,false),(X.seen M C zQ ((at_/8:Nat):Int)).2):=(if_neg (by omega)).trans (if_pos (.inl Vj))
 rw [e]
 exact fq
def wk (digit:Int):Nat:=if digit<0∨64≤digit then 0 else digit.toNat
theorem DF (a:Nat):Nat.land a 1≤1:=by
 have:Nat.land a 1=a%2:=Nat.and_one_is_mod a
 rw [this];omega
theorem OF (x d:Nat) (h:x≤18446744073709551615):x/2^d≤18446744073709551615:=Nat.le_trans (Nat.div_le_self _ _) h
theorem KK {X:yS} {M:zF} (hM:M.Ok) (C:yF) (zQ:Int) (at_:Nat):(X.spec M C zQ at_).1.1≤18446744073709551615:=by
 unfold yS.spec
 split
 ·exact Nat.zero_le _
 simp only
 split
 ·exact Nat.zero_le _
 exact zF.ph hM _
def yS.chain (X:yS) (M:zF) (C:yF) (zQ:Int) (at_ base:Nat) (digit:Int):Int×yF:=
 if(X.spec M C zQ at_).1.2=false then(0,(X.spec M C zQ at_).2)else
 let r:=X.spec M (X.spec M C zQ at_).2 zQ (YS base (8*Nat.land ((X.spec M C zQ at_).1.1/2^wk digit) 1))
 if r.1.2=false then(1,r.2)else(2,r.2)
theorem E5 (R:List SP) (m c u:Nat) (M:zF) (C:yF) (X:yS) (zQ:Int) (at_ base:Nat) (digit:Int):yH 58 [vp m 0,vp c 0,vp u 0,vi zQ,vu at_,vu base,vi digit] (z3 zY m M::z3 qj c C::z3 uz u X::R) fun w L=>w=vi (X.chain M C zQ at_ base digit).1∧L=z3 zY m M::z3 qj c (X.chain M C zQ at_ base digit).2::z3 uz u X::R:=by
 refine yl (qf m M) fun hM=> ?_
 have hx:=KK (X:=X) hM C zQ at_
 have hs:=OF (X.spec M C zQ at_).1.1 (wk digit) hx
 have LS:=DF ((X.spec M C zQ at_).1.1/2^wk digit)
 have z7O:wk digit≤63:=by unfold wk;split<;>omega
 refine SW.intro rfl Tryz.func58 rfl ?_
 refine O0 11 J (Z3 (xC _ _ _ _ M C X zQ at_) J Y Y Y (Z 3 J (zV (fun QN=> ?_) (fun QN=> ?_))))
 ·refine Z 16 J (z5 (fun Vj=> ?_) (fun Vj=> ?_))
  ·refine Z 19 J (qI (w:=vi (wk digit:Nat)) (by unfold wk;rw [if_pos (by omega)];rfl) ?_)
   refine zo rfl (fun _=>zG rfl rfl rfl (nw (a:=(X.spec M C zQ at_).1.1) (b:=wk digit) (by omega) (by show _≤64;omega))) ?_
   refine zo rfl (fun _=>zG rfl rfl rfl (gC (op:= .and) (a:=((X.spec M C zQ at_).1.1/2^wk digit)) (b:=1) (r:=Nat.land ((X.spec M C zQ at_).1.1/2^wk digit) 1) rfl hs (by decide))) ?_
   refine zo rfl (fun _=>zG rfl rfl rfl (pG (.inr (.inr ⟨rfl,rfl⟩)) rfl (qR (by omega)))) ?_
   refine qI (w:=vu (8*Nat.land ((X.spec M C zQ at_).1.1/2^wk digit) 1)) (by unfold vu;rw [Int.natCast_mul];rfl) ?_
   refine zo rfl (fun _=>zG rfl rfl rfl WY) ?_
   refine Z3 (xC _ _ _ _ M (X.spec M C zQ at_).2 X zQ (YS base (8*Nat.land ((X.spec M C zQ at_).1.1/2^wk digit) 1))) J Y Y Y (Z 3 J (zV (fun Jb=> ?_) (fun Jb=> ?_)))
   ·refine Z 14 J (zI J J J ?_)
    have e:(X.chain M C zQ at_ base digit)=(2,(X.spec M (X.spec M C zQ at_).2 zQ (YS base (8*Nat.land ((X.spec M C zQ at_).1.1/2^wk digit) 1))).2):=(if_neg (by rw [QN];nofun)).trans (if_neg (by rw [Jb];nofun))
    rw [e]
    exact fq
   refine Z 13 J (zI J J J ?_)
   have e:(X.chain M C zQ at_ base digit)=(1,(X.spec M (X.spec M C zQ at_).2 zQ (YS base (8*Nat.land ((X.spec M C zQ at_).1.1/2^wk digit) 1))).2):=(if_neg (by rw [QN];nofun)).trans (if_pos Jb)
   rw [e]
   exact fq
  refine Z 3 J (z5 (fun Ax=> ?_) (fun Ax=> ?_))
  ·refine Z 16 J (qI (w:=vi (wk digit:Nat)) (by unfold wk;rw [if_pos (by omega)];rfl) ?_)
   refine zo rfl (fun _=>zG rfl rfl rfl (nw (a:=(X.spec M C zQ at_).1.1) (b:=wk digit) (by omega) (by show _≤64;omega))) ?_
   refine zo rfl (fun _=>zG rfl rfl rfl (gC (op:= .and) (a:=((X.spec M C zQ at_).1.1/2^wk digit)) (b:=1) (r:=Nat.land ((X.spec M C zQ at_).1.1/2^wk digit) 1) rfl hs (by decide))) ?_
   refine zo rfl (fun _=>zG rfl rfl rfl (pG (.inr (.inr ⟨rfl,rfl⟩)) rfl (qR (by omega)))) ?_
   refine qI (w:=vu (8*Nat.land ((X.spec M C zQ at_).1.1/2^wk digit) 1)) (by unfold vu;rw [Int.natCast_mul];rfl) ?_
   refine zo rfl (fun _=>zG rfl rfl rfl WY) ?_
   refine Z3 (xC _ _ _ _ M (X.spec M C zQ at_).2 X zQ (YS base (8*Nat.land ((X.spec M C zQ at_).1.1/2^wk digit) 1))) J Y Y Y (Z 3 J (zV (fun Jb=> ?_) (fun Jb=> ?_)))
   ·refine Z 14 J (zI J J J ?_)
    have e:(X.chain M C zQ at_ base digit)=(2,(X.spec M (X.spec M C zQ at_).2 zQ (YS base (8*Nat.land ((X.spec M C zQ at_).1.1/2^wk digit) 1))).2):=(if_neg (by rw [QN];nofun)).trans (if_neg (by rw [Jb];nofun))
    rw [e]
    exact fq
   refine Z 13 J (zI J J J ?_)
   have e:(X.chain M C zQ at_ base digit)=(1,(X.spec M (X.spec M C zQ at_).2 zQ (YS base (8*Nat.land ((X.spec M C zQ at_).1.1/2^wk digit) 1))).2):=(if_neg (by rw [QN];nofun)).trans (if_pos Jb)
   rw [e]
   exact fq
  refine Z 14 J (qI (w:=vi (wk digit:Nat)) (by unfold wk;rw [if_neg (by omega),Int.toNat_of_nonneg (by omega)]) ?_)
  refine zo rfl (fun _=>zG rfl rfl rfl (nw (a:=(X.spec M C zQ at_).1.1) (b:=wk digit) (by omega) (by show _≤64;omega))) ?_
  refine zo rfl (fun _=>zG rfl rfl rfl (gC (op:= .and) (a:=((X.spec M C zQ at_).1.1/2^wk digit)) (b:=1) (r:=Nat.land ((X.spec M C zQ at_).1.1/2^wk digit) 1) rfl hs (by decide))) ?_
  refine zo rfl (fun _=>zG rfl rfl rfl (pG (.inr (.inr ⟨rfl,rfl⟩)) rfl (qR (by omega)))) ?_
  refine qI (w:=vu (8*Nat.land ((X.spec M C zQ at_).1.1/2^wk digit) 1)) (by unfold vu;rw [Int.natCast_mul];rfl) ?_
  refine zo rfl (fun _=>zG rfl rfl rfl WY) ?_
  refine Z3 (xC _ _ _ _ M (X.spec M C zQ at_).2 X zQ (YS base (8*Nat.land ((X.spec M C zQ at_).1.1/2^wk digit) 1))) J Y Y Y (Z 3 J (zV (fun Jb=> ?_) (fun Jb=> ?_)))
  ·refine Z 14 J (zI J J J ?_)
   have e:(X.chain M C zQ at_ base digit)=(2,(X.spec M (X.spec M C zQ at_).2 zQ (YS base (8*Nat.land ((X.spec M C zQ at_).1.1/2^wk digit) 1))).2):=(if_neg (by rw [QN];nofun)).trans (if_neg (by rw [Jb];nofun))
   rw [e]
   exact fq
  refine Z 13 J (zI J J J ?_)
  have e:(X.chain M C zQ at_ base digit)=(1,(X.spec M (X.spec M C zQ at_).2 zQ (YS base (8*Nat.land ((X.spec M C zQ at_).1.1/2^wk digit) 1))).2):=(if_neg (by rw [QN];nofun)).trans (if_pos Jb)
  rw [e]
  exact fq
 refine Z 15 J (zI J J J ?_)
 have e:(X.chain M C zQ at_ base digit)=(0,(X.spec M C zQ at_).2):=if_pos QN
 rw [e]
 exact fq
def RF (k:Nat):List Nat:= [[115,101,116],[97,100,100],[108,111,97,100],[115,116,111,114,101],[99,108,101,97,114],[106,117,109,112],[99,97,108,108]].getD k []
def fmA (k:Nat):Bool:= [true,true,true,true,false,true,false].getD k false
def fmB (k:Nat):Bool:= [false,true,true,true,true,false,false].getD k false
def fmN (k:Nat):Bool:= [true,false,true,true,true,true,true].getD k false
def CN (k:Nat):Int:= [0,0,0,0,0,0,1].getD k 0
def CM (k:Nat):Int:= [65535,0,65535,65535,65535,23,9].getD k 0
def fh (j:Nat):z0:=match j%6 with
 |0=> .str (RF (j/6))
 |1=> .bool (fmA (j/6))
 |2=> .bool (fmB (j/6))
 |3=> .bool (fmN (j/6))
 |4=>vi (CN (j/6))
 |_=>vi (CM (j/6))
def fj (k:Nat):List z0:= [.str (RF k),.bool (fmA k),.bool (fmB k),.bool (fmN k),vi (CN k),vi (CM k)]
theorem fi {k:Nat} (h:k<7):zj fh (k*6+0) 6=fj k:=by
 rcases(by omega:k=0∨k=1∨k=2∨k=3∨k=4∨k=5∨k=6)with rfl|rfl|rfl|rfl|rfl|rfl|rfl<;>rfl
theorem CO {k:Nat} (h:k<7):Vi (.agg (fj k)) (.agg (fj k))=true:=by
 rcases(by omega:k=0∨k=1∨k=2∨k=3∨k=4∨k=5∨k=6)with rfl|rfl|rfl|rfl|rfl|rfl|rfl<;>rfl
theorem iK {i:Nat} (cs:List z0) (h:cs=(List.range 42).map fh): ∀f,zC i cs f→zO i (42,fh) f:=by
 have hl:cs.length=42:=by rw [h];simp
 intro f hf
 have:=vE (f:=fh) (fun j hj=>by rw [hl]at hj;rw [h,List.getElem?_map,List.getElem?_range hj];rfl) f hf
 rw [hl]at this;exact this
def GI (u:Bool) (x:Int):Bool:=if u then decide (0≤x∧x<8)else decide (x=0)
def qN (op a b n:Int):Bool:=decide (1≤op∧op≤7) && (GI (fmA (op-1).toNat) a && (GI (fmB (op-1).toNat) b && decide (CN (op-1).toNat≤n∧n≤CM (op-1).toNat)))
theorem Cz (R:List SP):yH 153 [] (R) fun v L=> ∃i,v= .slice (some (i,0)) 7 (some 7) 6∧L=z3 zO i (42,fh)::R:=by
 refine SW.intro rfl Tryz.func153 rfl ?_
 refine O0 6 J (bu [_,_,_,_,_,_] J Y Y J (bu [_,_,_,_,_,_] J Y Y J (bu [_,_,_,_,_,_] J Y Y J (bu [_,_,_,_,_,_] J Y Y J (bu [_,_,_,_,_,_] J Y Y J (bu [_,_,_,_,_,_] J Y Y J (bu [_,_,_,_,_,_] J Y Y J (zf rfl rfl rfl (by decide) rfl fun i8=> ?_))))))))
 exact Z 3 J (zI J J J ⟨_,⟨i8,rfl,rfl⟩,Sub.one fun f hf=>iK _ (by rfl) f hf⟩)
theorem D3 (R:List SP) (u:Bool) (x:Int):yH 154 [.bool u,vi x] (R) fun v L=>v= .bool (GI u x)∧L=R:=by
 refine SW.intro rfl Tryz.func154 rfl ?_
 refine O0 8 J (zV (fun h5=> ?_) (fun h5=> ?_))
 ·refine Z 6 J (z5 (fun h7=> ?_) (fun h7=> ?_))
  ·refine Z 7 J (zI J J J (⟨_,⟨congrArg z0.bool ?_,rfl⟩,Y⟩))
   have hu:=h5
   subst hu
   unfold GI
   simp only [if_true]
   simp;omega
  refine Z 7 J (zI J J J (⟨_,⟨congrArg z0.bool ?_,rfl⟩,Y⟩))
  have hu:=h5
  subst hu
  unfold GI
  simp only [if_true]
  simp;omega
 refine Z 10 J (zI J J J (⟨_,⟨congrArg z0.bool ?_,rfl⟩,Y⟩))
 have hu:=h5
 subst hu
 unfold GI
 rfl
theorem G5 (R:List SP) (op a b n:Int):yH 104 [.agg [vi op,vi a,vi b,vi n]] (R) fun v L=>v=vi (if qN op a b n then 0 else 1)∧L=R:=by
 refine SW.intro rfl Tryz.func104 rfl ?_
 refine O0 2 J (yu rfl rfl rfl rfl fun i1=> ?_)
 refine Z 5 J (fa J Y (ld J Y J (Z 1 J (z5 (fun h6=> ?_) (fun h6=> ?_)))))
 ·refine Z 12 J (zI J J J ?_)
  have e:qN op a b n=false:=by
   unfold qN;rw [decide_eq_false (show¬(1≤op∧op≤7)by omega)];rfl
  rw [e]
  exact fq
 refine Z 1 J (fa J Y (ld J Y J (Z 1 J (z5 (fun GV=> ?_) (fun GV=> ?_)))))
 ·refine Z 8 J (zI J J J ?_)
  have e:qN op a b n=false:=by
   unfold qN;rw [decide_eq_false (show¬(1≤op∧op≤7)by omega)];rfl
  rw [e]
  exact fq
 refine Z 5 J (zW [0,0,2,6,15,31,0,127] [([1,2,3,6],[2,3],some 0),([4,5],[2,3,5],some 7),([],[],none)] (by kernel_rfl) ?_)
 refine z7 (zx J Y (q9 J Y J (uc rfl (fun _=>zG rfl rfl rfl (aW (by omega))) ?_)))
 refine kq rfl rfl rfl fun i3=> ?_
 refine z8 ⟨(yN J Y J J J (uR rfl (fun _=>zG rfl rfl rfl (aW (by omega))) rfl rfl (z6 _ rfl) z9)),?_⟩
 refine qZ (Cz _) rfl (fun _=>rfl) ?_
 rintro _ _ ⟨n12,rfl,rfl⟩
 refine zJ (z7 (uc rfl (fun _=>uo rfl rfl rfl (by omega) (by omega)) ?_))
 refine jM rfl (fun _ h=>vB (vs:=fj (op-1).toNat) rfl rfl (by omega) (by exact fi (by omega)) h) ?_
 refine z8 ⟨(yN J Y J J J (uR rfl (fun _=>zG rfl rfl rfl (aW (by omega))) rfl rfl (z6 _ rfl) (va rfl (fun _ h=>vB (vs:=fj (op-1).toNat) rfl rfl (by omega) (by exact fi (by omega)) h) rfl rfl (CO (by omega)) z9))),?_⟩
 refine sN J Y Y J J J (zJ (z7 (z8 ⟨z9,?_⟩)))
 refine OX 3 J (fa J Y (ld J Y J (fa J Y (ld J Y J (Z0 (D3 _ _ _) J (zV (fun Aw=> ?_) (fun Aw=> ?_)))))))
 ·refine Z 2 J (fa J Y (ld J Y J (fa J Y (ld J Y J (Z0 (D3 _ _ _) J (zV (fun Vj=> ?_) (fun Vj=> ?_)))))))
  ·refine Z 3 J (fa J Y (ld J Y J (fa J Y (ld J Y J (Z 1 J (z5 (fun kf=> ?_) (fun kf=> ?_)))))))
   ·refine Z 15 J (zI J J J ?_)
    have e:qN op a b n=false:=by
     unfold qN;rw [decide_eq_true (show 1≤op∧op≤7 by omega),Aw,Vj,decide_eq_false (by omega)];rfl
    rw [e]
    exact fq
   refine Z 2 J (fa J Y (ld J Y J (fa J Y (ld J Y J (Z 1 J (z5 (fun h44=> ?_) (fun h44=> ?_)))))))
   ·refine Z 8 J (zI J J J ?_)
    have e:qN op a b n=false:=by
     unfold qN;rw [decide_eq_true (show 1≤op∧op≤7 by omega),Aw,Vj,decide_eq_false (by omega)];rfl
    rw [e]
    exact fq
   refine Z 9 J (zI J J J ?_)
   have e:qN op a b n=true:=by
    unfold qN;rw [decide_eq_true (show 1≤op∧op≤7 by omega),Aw,Vj,decide_eq_true (by omega)];rfl
   rw [e]
   exact fq
  refine Z 23 J (zI J J J ?_)
  have e:qN op a b n=false:=by
   unfold qN;rw [decide_eq_true (show 1≤op∧op≤7 by omega),Aw,Vj];rfl
  rw [e]
  exact fq
 refine Z 30 J (zI J J J ?_)
 have e:qN op a b n=false:=by
  unfold qN;rw [decide_eq_true (show 1≤op∧op≤7 by omega),Aw];rfl
 rw [e]
 exact fq
abbrev YF (w:Nat→Nat) (v:z0) (pc:Int):List z0:= [vu (w 0),vu (w 1),vu (w 2),vu (w 3),vu (w 4),vu (w 5),vu (w 6),vu (w 7),v,vi pc]
def FW (w:Nat→Nat) (v:z0) (pc:Int):Nat→z0
 |8=>v
 |9=>vi pc
 |j=>vu (w j)
theorem YE (w:Nat→Nat) (v:z0) (pc:Int) {j:Nat} (h:j<8):FW w v pc j=vu (w j):=by
 rcases(by omega:j=0∨j=1∨j=2∨j=3∨j=4∨j=5∨j=6∨j=7)with rfl|rfl|rfl|rfl|rfl|rfl|rfl|rfl<;>rfl
theorem rp (w:Nat→Nat) (v:z0) (pc:Int): ∀j,j<(YF w v pc).length→(YF w v pc)[j]? =some (FW w v pc j):=by
 intro j h
 have h:j<10:=h
 rcases(by omega:j<8∨j=8∨j=9)with h|rfl|rfl
 ·rw [YE _ _ _ h]
  rcases(by omega:j=0∨j=1∨j=2∨j=3∨j=4∨j=5∨j=6∨j=7)with rfl|rfl|rfl|rfl|rfl|rfl|rfl|rfl<;>rfl
 ·rfl
 rfl
def W3 (w:Nat→Nat) (k:Nat) (x:Nat):Nat→Nat:=fun j=>if j=k then x else w j
theorem GM (w:Nat→Nat) (v:z0) (pc:Int) {k i:Nat} (hk:k<8) (hi:i=k) (x:Nat):upd (FW w v pc) i (vu x)=FW (W3 w k x) v pc:=by
 subst hi
 funext j
 unfold upd
 by_cases e:j=i
 ·rw [if_pos e,e,YE _ _ _ hk];unfold W3;rw [if_pos rfl]
 rw [if_neg e]
 by_cases h:j<8
 ·rw [YE _ _ _ h,YE _ _ _ h];unfold W3;rw [if_neg e]
 unfold FW
 split
 ·rfl
 ·rfl
 unfold W3;rw [if_neg e]
def z2F:qG:=⟨0,0,0,0⟩
def qG.ok (x:qG):Bool:=qN x.op x.a x.b x.n
def wP (code:List qG) (pc:Int):Option qG:=if 0≤pc∧pc<code.length then(match code[pc.toNat]? with
 |some x=>if x.ok then some x else none
 |none=>none)else none
def wK (code:List qG) (pc:Int):Int:=if(code.length:Int)≤pc then 0 else pc
def wc (w:Nat→Nat) (code:List qG) (pc:Int):Option ((Nat→Nat)×Int):=match wP code pc with
 |none=>none
 |some x=>if x.op=1 then some (W3 w x.a.toNat x.n.toNat,wK code (pc+1))else if x.op=2 then some (W3 w x.a.toNat (YS (w x.a.toNat) (w x.b.toNat)),wK code (pc+1))
  else if x.op=6 then(if w x.a.toNat≠0 then some (w,wK code x.n)else some (w,wK code (pc+1)))else none
def addrOf (w:Nat→Nat) (x:qG):Nat:=if x.ok then YS (w x.b.toNat) x.n.toNat else 0
def qg (w:Nat→Nat) (x:qG) (v:Nat):Nat→Nat:=if x.ok=false then w else if x.op=3 then W3 w x.a.toNat v else if x.op=7 then W3 w 0 v else w
def VG (w:Nat→Nat) (code:Int):Nat→Nat:=W3 w 7 (100+code).toNat
theorem rJ {code:List qG} {pc:Int} {x:qG} (h:wP code pc=some x):0≤pc∧pc<code.length∧code[pc.toNat]? =some x∧x.ok=true:=by
 unfold wP at h
 split at h
 ·split at h
  ·split at h
   ·cases h;exact⟨by omega,by omega,‹_›,‹_›⟩
   cases h
  cases h
 cases h
theorem qG.Db {x:qG} (h:x.ok=true):1≤x.op∧x.op≤7∧0≤x.a∧x.a<8∧0≤x.b∧x.b<8∧0≤x.n∧x.n≤65535:=by
 unfold qG.ok qN at h
 simp only [Bool.and_eq_true,decide_eq_true_eq]at h
 obtain⟨h1,h2,h3,h4⟩:=h
 have r: ∀(u:Bool) (z:Int),GI u z=true→0≤z∧z<8:=by
  intro u z h
  unfold GI at h
  cases u with
  |true=>simp at h;omega
  |false=>simp at h;omega
 have:=r _ _ h2
 have:=r _ _ h3
 refine⟨h1.1,h1.2,by omega,by omega,by omega,by omega,?_⟩
 obtain⟨k,hk⟩: ∃k,(x.op-1).toNat=k:=⟨_,rfl⟩
 rw [hk]at h4
 rcases(by omega:k=0∨k=1∨k=2∨k=3∨k=4∨k=5∨k=6)with rfl|rfl|rfl|rfl|rfl|rfl|rfl<;>simp [CN,CM]at h4<;>omega
theorem oM {z:Int} (h:0≤z):z0.int .u64 (.lit z)=vu z.toNat:=by unfold vu;rw [Int.toNat_of_nonneg h]
theorem DY (code:List qG) (pc:Int):(∃x,wP code pc=some x)∨wP code pc=none:=by cases wP code pc<;>simp
theorem te (R:List SP) (w:Nat→Nat) (v:z0) (code:List qG) (gE:code.length≤1000) (pc:Int):yH 87 [.agg (YF w v pc)] (z3 (zX qs 4) v code::R) fun u L=>u= .tuple [.agg (qs ((wP code pc).getD z2F)),.bool (wP code pc).isSome]∧L=z3 (zX qs 4) v code::R:=by
 refine SW.intro rfl Tryz.func87 rfl ?_
 refine O0 2 J (yu rfl rfl rfl rfl fun i1=> ?_)
 refine zn rfl rfl rfl fun i2=> ?_
 refine Z 5 J (fa J Y (ld J Y J (Z 1 J (z5 (fun h6=> ?_) (fun h6=> ?_)))))
 ·refine Z 22 J (bu [_,_,_,_] J Y Y J (sN J Y Y J J J (Z 3 J (⟨.inr rfl,_,fun _ h=>(zu (yQ rfl (yo rfl (Nat.le_of_ble_eq_true rfl) h)) (zu (zm rfl) qY)),?_⟩))))
  have e:wP code pc=none:=by { unfold wP;rw [if_neg (by omega)] }
  rw [e]
  exact fq
 refine Z 1 J (fa J Y (ld J Y J (fa J Y (ld J Y J (qJ rfl (fun _ h=>yI rfl rfl rfl rfl rfl h) ?_)))))
 refine Z 1 J (z5 (fun ai=> ?_) (fun ai=> ?_))
 ·refine Z 15 J (bu [_,_,_,_] J Y Y J (sN J Y Y J J J (Z 3 J (⟨.inr rfl,_,fun _ h=>(zu (yQ rfl (yo rfl (Nat.le_of_ble_eq_true rfl) h)) (zu (zm rfl) qY)),?_⟩))))
  have e:wP code pc=none:=by { unfold wP;rw [if_neg (by omega)] }
  rw [e]
  exact fq
 refine Z 2 J (fa J Y (ld J Y J (fa J Y (ld J Y J ?_))))
 obtain⟨x,hx⟩: ∃x,code[pc.toNat]? =some x:=⟨code[pc.toNat]'(by omega),List.getElem?_eq_getElem (by omega)⟩
 refine qJ rfl (fun _ h=>yg rfl rfl rfl (by omega) (by omega) h) ?_
 refine qJ rfl (fun _ h=>Gt rfl rfl rfl hx h) ?_
 refine Z0 (G5 _ _ _ _ _) J ?_
 rcases Bool.eq_false_or_eq_true x.ok with hI|hI
 ·rw [if_pos (show qN x.op x.a x.b x.n=true from hI)]
  refine zo rfl (fun _=>zG rfl rfl rfl (uT rfl)) (qm (by omega) ?_)
  refine Z 6 J (fa J Y (ld J Y J (fa J Y (ld J Y J (qJ rfl (fun _ h=>yg rfl rfl rfl (by omega) (by omega) h) ?_)))))
  refine qJ rfl (fun _ h=>Gt rfl rfl rfl hx h) ?_
  refine sN J Y Y J J J (Z 3 J (⟨.inr rfl,_,fun _ h=>(zu (yQ rfl (yo rfl (Nat.le_of_ble_eq_true rfl) h)) (zu (zm rfl) qY)),?_⟩))
  have e:wP code pc=some x:=by { unfold wP;rw [if_pos (by omega),hx];exact if_pos hI }
  rw [e]
  exact fq
 rw [if_neg (show¬qN x.op x.a x.b x.n=true from fun e=>by rw [show qN x.op x.a x.b x.n=x.ok from rfl,hI]at e;cases e)]
 refine zo rfl (fun _=>zG rfl rfl rfl (uT rfl)) (dx (by omega) ?_)
 refine Z 5 J (bu [_,_,_,_] J Y Y J (sN J Y Y J J J (Z 3 J (⟨.inr rfl,_,fun _ h=>(zu (yQ rfl (yo rfl (Nat.le_of_ble_eq_true rfl) h)) (zu (zm rfl) qY)),?_⟩))))
 have e:wP code pc=none:=by { unfold wP;rw [if_pos (by omega),hx];exact if_neg (by rw [hI];nofun) }
 rw [e]
 exact fq
theorem ej (R:List SP) (w:Nat→Nat) (v:z0) (code:List qG) (gE:code.length≤1000) (p0 pc:Int):yH 140 [.agg (YF w v p0),vi pc] (z3 (zX qs 4) v code::R) fun u L=> ∃v2,u= .agg (YF w v2 (wK code pc))∧L=z3 (zX qs 4) v2 code::z3 (zX qs 4) v code::R:=by
 refine SW.intro rfl Tryz.func140 rfl ?_
 refine O0 2 J (yu rfl rfl rfl rfl fun i2=> ?_)
 refine zn rfl rfl rfl fun i4=> ?_
 refine Z 3 J (fa J Y (ld J Y J (yY (JJ _ _ _ (by omega)) rfl (fun _=>rfl) ?_)))
 rintro u7 _ rfl
 refine yW (v:=u7) fun au7 cu7 eu7 z23 _=> ?_
 subst z23
 refine fa J Y (sO J Y J J J (Z 4 J (fa J Y (sO J Y J J J (Z 4 J (fa J Y (ld J Y J (fa J Y (ld J Y J (qJ rfl (fun _ h=>yI rfl rfl rfl rfl rfl h) ?_))))))))))
 refine Z 1 J (z5 (fun j4=> ?_) (fun j4=> ?_))
 ·refine Z 3 J (fa J Y (sO J Y J J J (Z 3 J (lN J Y Y J J (sN J Y Y J J J (Z 2 J (⟨.inr rfl,_,fun _ h=>(zu (yQ rfl (yo rfl (Nat.le_of_ble_eq_true rfl) h)) qY),?_⟩)))))))
  have e:wK code pc=0:=if_pos j4
  rw [e]
  exact⟨_,⟨_,rfl,rfl⟩,Y⟩
 refine Z 5 J (lN J Y Y J J (sN J Y Y J J J (Z 2 J (⟨.inr rfl,_,fun _ h=>(zu (yQ rfl (yo rfl (Nat.le_of_ble_eq_true rfl) h)) qY),?_⟩))))
 have e:wK code pc=pc:=if_neg j4
 rw [e]
 exact⟨_,⟨_,rfl,rfl⟩,Y⟩
theorem rf (R:List SP) (w:Nat→Nat) (v:z0) (code:List qG) (gE:code.length≤1000) (pc:Int):yH 90 [.agg (YF w v pc)] (z3 (zX qs 4) v code::R) fun u L=>match wc w code pc with
 |some (w2,p2)=> ∃v2,u= .tuple [.agg (YF w2 v2 p2),.bool true]∧L=z3 (zX qs 4) v2 code::z3 (zX qs 4) v code::R
 |none=>u= .tuple [.agg (YF (fun _=>0) (.slice none 0 (some 0) 0) 0),.bool false]∧L=z3 (zX qs 4) v code::R:=by
 refine SW.intro rfl Tryz.func90 rfl ?_
 refine O0 2 J (yu rfl rfl rfl rfl fun i1=> ?_)
 refine zn rfl rfl rfl fun i2=> ?_
 refine Z 4 J (lN J Y Y J J (Z1 (te _ _ _ _ (by omega) _) J Y ?_))
 rcases DY code pc with⟨x,hN⟩|hN
 ·rw [hN]
  dsimp only [Option.getD,Option.isSome]
  have hx:=rJ hN
  have ho:=qG.Db hx.2.2.2
  refine Z 3 J (zn rfl rfl rfl fun i4=> ?_)
  refine sN J Y Y J J J (Z 12 J (lN J Y Y J J (fa J Y (ld J Y J (ad J (yY (ej _ _ _ code (by omega) _ _) rfl (fun _=>rfl) ?_))))))
  rintro _ _ ⟨v19,rfl,rfl⟩
  refine yW (v:=v19) fun BT C0 CC Su _=> ?_
  subst Su
  refine zn rfl rfl rfl fun i6=> ?_
  refine sN J Y Y J J J (VU (i:=i6) (n:=10) (FW w (.slice BT code.length C0 CC) (wK code (pc+1))) rfl (rp w (.slice BT code.length C0 CC) (wK code (pc+1))) ?_)
  refine Z 4 J (fa J Y (ld J Y J (Z 5 J (z5 (fun kB=> ?_) (fun kB=> ?_)))))
  ·refine Z 4 J (fa J Y (ld J Y J (fa J Y (ld J Y J (zo rfl (fun _=>qy rfl rfl (qR (by omega))) ?_)))))
   refine qI (oM (by omega)) ?_
   refine fa J Y (zo rfl (fun _=>zw rfl rfl rfl (by omega) (by omega)) ?_)
   refine sF J Y J J (Z 3 J (qJ rfl (fun _ h=>vB (vs:=YF (W3 w x.a.toNat x.n.toNat) (.slice BT code.length C0 CC) (wK code (pc+1))) rfl rfl (by omega) (by rw [GM _ _ _ (k:=x.a.toNat) (by omega) (by omega)];rfl) h) ?_))
   refine sN J Y Y J J J (Z 3 J (⟨.inr rfl,_,fun _ h=>(zu (yQ rfl (yo rfl (Nat.le_of_ble_eq_true rfl) h)) (zu (zm rfl) qY)),?_⟩))
   have e:wc w code pc=some (W3 w x.a.toNat x.n.toNat,(wK code (pc+1))):=by { unfold wc;rw [hN];exact if_pos kB }
   rw [e]
   exact⟨_,⟨_,rfl,rfl⟩,Y⟩
  refine Z 6 J (z5 (fun dk=> ?_) (fun dk=> ?_))
  ·refine Z 3 J (zW [0,1,0,4,0,28,60,0,128,0,896,1920,4092,0,16383,32767] [([0,1,2,3,4,5,6,7,8,9,10,11,12,13,14],[1,3,6,8,11,12],some 15),([],[],none)] (by kernel_rfl) ?_)
   refine z7 (zx J Y (q9 J Y J (zx J Y (q9 J Y J (zx J Y (uc rfl (fun _=>zw rfl rfl rfl (by omega) (by omega)) ?_))))))
   refine YO J Y (YE _ _ _ (by omega)) (zx J Y (q9 J Y J (zx J Y (uc rfl (fun _=>zw rfl rfl rfl (by omega) (by omega)) ?_))))
   refine YO J Y (YE _ _ _ (by omega)) (uc rfl (fun _=>zG rfl rfl rfl WY) ?_)
   refine zx J Y (uc rfl (fun _=>zw rfl rfl rfl (by omega) (by omega)) ?_)
   refine z8 ⟨(yN J Y J J J (yN J Y J J J (jP J Y (YE _ _ _ (by omega)) J (z6 _ rfl) (yN J Y J J J (jP J Y (YE _ _ _ (by omega)) J (z6 _ rfl) (uR rfl (fun _=>zG rfl rfl rfl WY) rfl rfl (z6 _ rfl) z9)))))),?_⟩
   refine sF J Y J J (zJ (z7 (z8 ⟨z9,?_⟩)))
   refine OX 2 J (qJ rfl (fun _ h=>vB (vs:=YF (W3 w x.a.toNat (YS (w x.a.toNat) (w x.b.toNat))) (.slice BT code.length C0 CC) (wK code (pc+1))) rfl rfl (by omega) (by rw [GM _ _ _ (k:=x.a.toNat) (by omega) (by omega)];rfl) h) ?_)
   refine sN J Y Y J J J (Z 3 J (⟨.inr rfl,_,fun _ h=>(zu (yQ rfl (yo rfl (Nat.le_of_ble_eq_true rfl) h)) (zu (zm rfl) qY)),?_⟩))
   have e:wc w code pc=some (W3 w x.a.toNat (YS (w x.a.toNat) (w x.b.toNat)),(wK code (pc+1))):=by { unfold wc;rw [hN];exact(if_neg kB).trans (if_pos dk) }
   rw [e]
   exact⟨_,⟨_,rfl,rfl⟩,Y⟩
  refine Z 6 J (z5 (fun LL=> ?_) (fun LL=> ?_))
  ·refine Z 5 J (fa J Y (ld J Y J (VU (i:=i1) (n:=10) (FW w v pc) rfl (rp w v pc) ?_)))
   refine fa J Y (zo rfl (fun _=>zw rfl rfl rfl (by omega) (by omega)) ?_)
   refine lf J Y (YE _ _ _ (by omega)) (Z 1 J (z5 (fun HH=> ?_) (fun HH=> ?_)))
   ·refine Z 3 J (qJ rfl (fun _ h=>vB (vs:=YF w v pc) rfl rfl (by omega) rfl h) ?_)
    refine fa J Y (ld J Y J (yY (ej _ _ _ code (by omega) _ _) rfl (fun _=>rfl) ?_))
    rintro _ _ ⟨Tv,rfl,rfl⟩
    refine yW (v:=Tv) fun ll cB cH hZ _=> ?_
    subst hZ
    refine UP rfl rfl rfl rfl (by rfl) rfl (by omega) ?_
    refine Z 3 J (qJ rfl (fun _ h=>vB (vs:=YF w (.slice ll code.length cB cH) (wK code x.n)) rfl rfl (by omega) rfl h) ?_)
    refine sN J Y Y J J J (Z 3 J (⟨.inr rfl,_,fun _ h=>(zu (yQ rfl (yo rfl (Nat.le_of_ble_eq_true rfl) h)) (zu (zm rfl) qY)),?_⟩))
    have e:wc w code pc=some (w,wK code x.n):=by { unfold wc;rw [hN];exact(if_neg kB).trans ((if_neg dk).trans ((if_pos LL).trans (if_pos (fun e=>HH (congrArg Int.ofNat e))))) }
    rw [e]
    exact⟨_,⟨_,rfl,rfl⟩,Y⟩
   refine Z 5 J (qJ rfl (fun _ h=>vB (vs:=YF w (.slice BT code.length C0 CC) (wK code (pc+1))) rfl rfl (by omega) rfl h) ?_)
   refine sN J Y Y J J J (Z 3 J (⟨.inr rfl,_,fun _ h=>(zu (yQ rfl (yo rfl (Nat.le_of_ble_eq_true rfl) h)) (zu (zm rfl) qY)),?_⟩))
   have e:wc w code pc=some (w,(wK code (pc+1))):=by { unfold wc;rw [hN];exact(if_neg kB).trans ((if_neg dk).trans ((if_pos LL).trans (if_neg (fun e=>HH (fun e2=>e (Int.ofNat.inj e2)))))) }
   rw [e]
   exact⟨_,⟨_,rfl,rfl⟩,Y⟩
  refine Z 5 J (bu [_,_,_,_,_,_,_,_,_,_] J Y Y J (sN J Y Y J J J (Z 3 J (⟨.inr rfl,_,fun _ h=>(zu (yQ rfl (yo rfl (Nat.le_of_ble_eq_true rfl) h)) (zu (zm rfl) qY)),?_⟩))))
  have e:wc w code pc=none:=by { unfold wc;rw [hN];exact(if_neg kB).trans ((if_neg dk).trans (if_neg LL)) }
  rw [e]
  exact fq
 rw [hN]
 dsimp only [Option.getD,Option.isSome]
 refine Z 3 J (zn rfl rfl rfl fun i4=> ?_)
 refine sN J Y Y J J J (Z 11 J (bu [_,_,_,_,_,_,_,_,_,_] J Y Y J (sN J Y Y J J J (Z 3 J (⟨.inr rfl,_,fun _ h=>(zu (yQ rfl (yo rfl (Nat.le_of_ble_eq_true rfl) h)) (zu (zm rfl) qY)),?_⟩)))))
 have e:wc w code pc=none:=by { unfold wc;rw [hN] }
 rw [e]
 exact fq
theorem Ij (R:List SP) (w:Nat→Nat) (v:z0) (pc:Int) (x:qG):yH 135 [.agg (YF w v pc),.agg (qs x)] (R) fun u L=>u=vu (addrOf w x)∧L=R:=by
 refine SW.intro rfl Tryz.func135 rfl ?_
 refine O0 2 J (yu rfl rfl rfl rfl fun i2=> ?_)
 refine yu rfl rfl rfl rfl fun i3=> ?_
 refine Z 5 J (lN J Y Y J J (Z0 (G5 _ _ _ _ _) J ?_))
 rcases Bool.eq_false_or_eq_true x.ok with hI|hI
 ·rw [if_pos (show qN x.op x.a x.b x.n=true from hI)]
  refine zo rfl (fun _=>zG rfl rfl rfl (uT rfl)) (qm (by omega) ?_)
  refine Z 4 J (zW [0,1,0,7,15,0,32,96,255,511] [([0,1,2,3,4,5,6,7,8,9],[1,4,6,7,8],none)] (by kernel_rfl) ?_)
  refine z7 ?_
  have ho:=qG.Db hI
  refine Ht (i:=i2) (n:=10) (FW w v pc) rfl (rp w v pc) ?_
  refine zx J Y (q9 J Y J (zx J Y (uc rfl (fun _=>zw rfl rfl rfl (by omega) (by omega)) ?_)))
  refine YO J Y (YE _ _ _ (by omega)) (zx J Y (q9 J Y J (uc rfl (fun _=>qy rfl rfl (qR (by omega))) ?_)))
  refine QA (oM (by omega)) ?_
  refine uc rfl (fun _=>zG rfl rfl rfl WY) ?_
  refine ZK 1 J (z8 ⟨(yN J Y J J J (jP J Y (YE _ _ _ (by omega)) J (z6 _ rfl) (yN J Y J J J (uR rfl (fun _=>qy rfl rfl (qR (by omega))) rfl rfl (by rw [oM (by omega)];exact z6 _ rfl) (uR rfl (fun _=>zG rfl rfl rfl WY) rfl rfl (z6 _ rfl) z9))))),?_⟩)
  refine OX 1 J (zI J J J ?_)
  have e:addrOf w x=YS (w x.b.toNat) x.n.toNat:=if_pos hI
  rw [e]
  exact fq
 rw [if_neg (show¬qN x.op x.a x.b x.n=true from fun e=>by rw [show qN x.op x.a x.b x.n=x.ok from rfl,hI]at e;cases e)]
 refine zo rfl (fun _=>zG rfl rfl rfl (uT rfl)) (dx (by omega) ?_)
 refine Z 7 J (zI J J J ?_)
 have e:addrOf w x=0:=if_neg (by rw [hI];nofun)
 rw [e]
 exact fq
theorem GH (R:List SP) (w:Nat→Nat) (v:z0) (code:List qG) (gE:code.length≤1000) (pc:Int) (nX: -1000000≤pc∧pc≤1000000) (x:qG) (q:Nat):yH 134 [.agg (YF w v pc),.agg (qs x),vu q] (z3 (zX qs 4) v code::R) fun u L=> ∃v2,u= .agg (YF (qg w x q) v2 (wK code (pc+1)))∧L=z3 (zX qs 4) v2 code::z3 (zX qs 4) v code::R:=by
 refine SW.intro rfl Tryz.func134 rfl ?_
 refine O0 2 J (yu rfl rfl rfl rfl fun i3=> ?_)
 refine yu rfl rfl rfl rfl fun i4=> ?_
 refine zn rfl rfl rfl fun i6=> ?_
 refine Z 3 J (lN J Y Y J J (fa J Y (ld J Y J (ad J (yY (ej _ _ _ code (by omega) _ _) rfl (fun _=>rfl) ?_)))))
 rintro _ _ ⟨v12,rfl,rfl⟩
 refine yW (v:=v12) fun oX ow iD Ss _=> ?_
 subst Ss
 refine zn rfl rfl rfl fun i7=> ?_
 refine sN J Y Y J J J (VU (i:=i7) (n:=10) (FW w (.slice oX code.length ow iD) (wK code (pc+1))) rfl (rp w (.slice oX code.length ow iD) (wK code (pc+1))) ?_)
 refine Z 5 J (lN J Y Y J J (Z0 (G5 _ _ _ _ _) J ?_))
 rcases Bool.eq_false_or_eq_true x.ok with hI|hI
 ·rw [if_pos (show qN x.op x.a x.b x.n=true from hI)]
  refine zo rfl (fun _=>zG rfl rfl rfl (uT rfl)) (qm (by omega) ?_)
  refine Z 5 J ?_
  have ho:=qG.Db hI
  refine fa J Y (ld J Y J (Z 1 J (z5 (fun Ua=> ?_) (fun Ua=> ?_))))
  ·refine Z 4 J (fa J Y (ld J Y J (Z 1 J (fa J Y (zo rfl (fun _=>zw rfl rfl rfl (by omega) (by omega)) ?_)))))
   refine sF J Y J J (Z 3 J (qJ rfl (fun _ h=>vB (vs:=YF (W3 w x.a.toNat q) (.slice oX code.length ow iD) (wK code (pc+1))) rfl rfl (by omega) (by rw [GM _ _ _ (k:=x.a.toNat) (by omega) (by omega)];rfl) h) ?_))
   refine sN J Y Y J J J (Z 2 J (⟨.inr rfl,_,fun _ h=>(zu (yQ rfl (yo rfl (Nat.le_of_ble_eq_true rfl) h)) qY),?_⟩))
   have e:qg w x q=W3 w x.a.toNat q:=by { unfold qg;exact(if_neg (by rw [hI];nofun)).trans (if_pos Ua) }
   rw [e]
   exact⟨_,⟨_,rfl,rfl⟩,Y⟩
  refine Z 5 J (fa J Y (ld J Y J (Z 1 J (z5 (fun Vj=> ?_) (fun Vj=> ?_)))))
  ·refine Z 5 J (fa J Y (zo rfl (fun _=>zw rfl rfl rfl (by omega) (by omega)) ?_))
   refine sF J Y J J (Z 3 J (qJ rfl (fun _ h=>vB (vs:=YF (W3 w 0 q) (.slice oX code.length ow iD) (wK code (pc+1))) rfl rfl (by omega) (by rw [GM _ _ _ (k:=0) (by omega) (by omega)];rfl) h) ?_))
   refine sN J Y Y J J J (Z 2 J (⟨.inr rfl,_,fun _ h=>(zu (yQ rfl (yo rfl (Nat.le_of_ble_eq_true rfl) h)) qY),?_⟩))
   have e:qg w x q=W3 w 0 q:=by { unfold qg;exact(if_neg (by rw [hI];nofun)).trans ((if_neg Ua).trans (if_pos Vj)) }
   rw [e]
   exact⟨_,⟨_,rfl,rfl⟩,Y⟩
  refine Z 6 J (qJ rfl (fun _ h=>vB (vs:=YF w (.slice oX code.length ow iD) (wK code (pc+1))) rfl rfl (by omega) rfl h) ?_)
  refine sN J Y Y J J J (Z 2 J (⟨.inr rfl,_,fun _ h=>(zu (yQ rfl (yo rfl (Nat.le_of_ble_eq_true rfl) h)) qY),?_⟩))
  have e:qg w x q=w:=by { unfold qg;exact(if_neg (by rw [hI];nofun)).trans ((if_neg Ua).trans (if_neg Vj)) }
  rw [e]
  exact⟨_,⟨_,rfl,rfl⟩,Y⟩
 rw [if_neg (show¬qN x.op x.a x.b x.n=true from fun e=>by rw [show qN x.op x.a x.b x.n=x.ok from rfl,hI]at e;cases e)]
 refine zo rfl (fun _=>zG rfl rfl rfl (uT rfl)) (dx (by omega) ?_)
 refine Z 6 J (qJ rfl (fun _ h=>vB (vs:=YF w (.slice oX code.length ow iD) (wK code (pc+1))) rfl rfl (by omega) rfl h) ?_)
 refine sN J Y Y J J J (Z 2 J (⟨.inr rfl,_,fun _ h=>(zu (yQ rfl (yo rfl (Nat.le_of_ble_eq_true rfl) h)) qY),?_⟩))
 have e:qg w x q=w:=by { unfold qg;exact if_pos hI }
 rw [e]
 exact⟨_,⟨_,rfl,rfl⟩,Y⟩
theorem bY (R:List SP) (w:Nat→Nat) (v:z0) (code:List qG) (gE:code.length≤1000) (pc:Int) (nX: -1000000≤pc∧pc≤1000000) (z:Int) (hz:0≤z∧z≤1000):yH 190 [.agg (YF w v pc),vi z] (z3 (zX qs 4) v code::R) fun u L=> ∃v2,u= .agg (YF (VG w z) v2 (wK code (pc+1)))∧L=z3 (zX qs 4) v2 code::z3 (zX qs 4) v code::R:=by
 refine SW.intro rfl Tryz.func190 rfl ?_
 refine O0 2 J (yu rfl rfl rfl rfl fun i2=> ?_)
 refine zn rfl rfl rfl fun i4=> ?_
 refine Z 3 J (lN J Y Y J J (fa J Y (ld J Y J (ad J (yY (ej _ _ _ code (by omega) _ _) rfl (fun _=>rfl) ?_)))))
 rintro _ _ ⟨v10,rfl,rfl⟩
 refine yW (v:=v10) fun MX Ml Mp Sr _=> ?_
 subst Sr
 refine zn rfl rfl rfl fun i5=> ?_
 refine sN J Y Y J J J (VU (i:=i5) (n:=10) (FW w (.slice MX code.length Ml Mp) (wK code (pc+1))) rfl (rp w (.slice MX code.length Ml Mp) (wK code (pc+1))) ?_)
 refine Z 4 J (ad J (zo rfl (fun _=>qy rfl rfl (qR (by omega))) ?_))
 refine qI (oM (by omega)) ?_
 refine fa J Y (zo rfl (fun _=>zw rfl rfl rfl (by omega) (by omega)) ?_)
 refine sF J Y J J (Z 3 J (qJ rfl (fun _ h=>vB (vs:=YF (VG w z) (.slice MX code.length Ml Mp) (wK code (pc+1))) rfl rfl (by omega) (by rw [GM _ _ _ (k:=7) (by omega) (by omega)];rfl) h) ?_))
 refine sN J Y Y J J J (Z 2 J (⟨.inr rfl,_,fun _ h=>(zu (yQ rfl (yo rfl (Nat.le_of_ble_eq_true rfl) h)) qY),?_⟩))
 exact⟨_,⟨_,rfl,rfl⟩,Y⟩
structure wN where
 cf:List (Int×Int)
 cS:y5
 pS:y5
 s:PM
abbrev wN.share (fm:List (Int×Int)) (y:wN) (z4:Int):wN:= { y with cf:=wG y.cf z4 ((qH fm z4).getD 0),s:=y.s.share ((qH fm z4).getD 0) }
abbrev wN.both (A:Nat→Int) (fm sm:List (Int×Int)) (w:Q4) (inv:Bool) (y:wN) (z4:Int):wN:=
 { y with cS:=(zA.tell ⟨A,y.cf,[],y.cS,y.s,w⟩ inv z4).S,pS:=(zA.tell ⟨A,fm,sm,y.pS,(zA.tell ⟨A,y.cf,[],y.cS,y.s,w⟩ inv z4).s,w⟩ inv z4).S,s:=(zA.tell ⟨A,fm,sm,y.pS,(zA.tell ⟨A,y.cf,[],y.cS,y.s,w⟩ inv z4).s,w⟩ inv z4).s }
def zA.fork (x:zA) (W:Wd) (o:Int):Int×Option (List (Int×Int)×y5)×zA:=
 if 0<x.sm.length then(5,none,x)else match PM.space x.s W.zM W.mp W.gate o with
 |none=>(2,none,x)
 |some (s1,S1)=>
  if s1.M.left<s1.M.kM S1.kernel (zH x.A 256)then(2,none,{ x with s:=(zA.drop ⟨qx,[],[],S1,s1,x.w⟩).s,w:=(zA.drop ⟨qx,[],[],S1,s1,x.w⟩).w })else
  let y:=(zH x.A 256).foldl (wN.both x.A x.fm x.sm x.w W.inv) ((zH x.A 256).foldl (wN.share x.fm) ⟨[],S1,x.S,s1⟩)
  (0,some (y.cf,y.cS),{ x with S:=y.pS,s:=y.s })
theorem tu (s:PM) (z:Int):(s.share z).R=if cnt s.R z=0 then s.R else wG s.R z (cnt s.R z+1):=by unfold PM.share;split<;>rfl
theorem KE (s:PM) (z:Int):(s.share z).M=s.M:=by unfold PM.share;split<;>rfl
theorem GP {s:PM} {k:Int} (h: ∀z,cnt s.R z≤k) (h1:1≤k) (c w:Int): ∀z,cnt (s.take c w).R z≤k:=by
 intro z
 unfold PM.take
 split
 ·show cnt (wG _ _ _) z≤k
  rw [Wb];split
  ·exact h1
  exact h z
 exact h z
theorem JC {s s1:PM} {S1:y5} {kp:Bool} {mp g:Nat} {o k:Int} (hs:s.space kp mp g o=some (s1,S1)) (h: ∀z,cnt s.R z≤k) (h1:1≤k): ∀z,cnt s1.R z≤k:=by
 unfold PM.space at hs
 cases kp with
 |true=>
  simp only [if_true]at hs
  split at hs
  ·cases hs
  cases hs;exact GP (GP h h1 _ _) h1 _ _
 |false=>
  simp only [Bool.false_eq_true,if_false]at hs
  split at hs
  ·cases hs
  cases hs;exact GP h h1 _ _
theorem JD {s s1:PM} {S1:y5} {kp:Bool} {mp g:Nat} {o:Int} (hs:s.space kp mp g o=some (s1,S1)):S1.tables.length≤2:=by
 unfold PM.space at hs
 cases kp with
 |true=>
  simp only [if_true]at hs
  split at hs
  ·cases hs
  cases hs;exact Nat.le_refl _
 |false=>
  simp only [Bool.false_eq_true,if_false]at hs
  split at hs
  ·cases hs
  cases hs;show 1≤2;omega
structure wN.Zt (fm:List (Int×Int)) (S:y5) (y:wN) (k j:Nat):Prop where
 f:YK y.cf
 c:y.cS.tables.length≤2+2*j
 p:y.pS.tables.length≤S.tables.length+2*j
 n: ∀z,cnt y.s.R z≤1000000+k
theorem wN.Zt.share {fm:List (Int×Int)} (hf:YK fm) {S:y5} {y:wN} {k j:Nat} (h:wN.Zt fm S y k j) (z4:Int):wN.Zt fm S (y.share fm z4) (k+1) j:=⟨h.f.ins z4 (hf.at z4),h.c,h.p,fun z=>by
 have h1:=h.n z
 have h2:=h.n ((qH fm z4).getD 0)
 show cnt (y.s.share _).R z≤_
 rw [tu];split
 ·omega
 rw [Wb];split<;>omega⟩
theorem wN.Zt.both {fm sm:List (Int×Int)} {S:y5} {y:wN} {j:Nat} (h:YK y.cf∧y.cS.tables.length≤2+2*j∧y.pS.tables.length≤S.tables.length+2*j) (A:Nat→Int) (w:Q4) (inv:Bool) (z4:Int):YK (y.both A fm sm w inv z4).cf∧(y.both A fm sm w inv z4).cS.tables.length≤2+2*(j+1)∧(y.both A fm sm w inv z4).pS.tables.length≤S.tables.length+2*(j+1):=by
 refine⟨h.1,?_,?_⟩
 ·have h2:=h.2.1
  show(PM.yZ _ y.cS z4 _).2.tables.length≤_
  refine Nat.le_trans (Yn _ y.cS z4 _).1 ?_;omega
 have h2:=h.2.2
 show(PM.yZ _ y.pS z4 _).2.tables.length≤_
 refine Nat.le_trans (Yn _ y.pS z4 _).1 ?_;omega
theorem Kk (R:List SP) (v:Nat) (X:YV) (M:zF) (Rf:List (Int×Int)) (Ws:Q4) (hT:X.S.tables.length≤400000) (dO: ∀z,cnt Rf z≤1000000) (PB:X.W.mp<1099511627776) (P9:X.W.gate<1099511627776) (o2:Int):yH 227 [vp v 0,vi o2] (z3 WN v X::z3 zi X.W.p ⟨X.W.m,Rf⟩::z3 zY X.W.m M::z3 yM X.W.sw Ws::R) fun w L=>match(zA.fork (X.st ⟨M,Rf⟩ Ws) X.W o2)with
 |(e,some (cf,cS),x)=> ∃v2,w= .tuple [vp v2 0,vi e]∧L=z3 WN v2 ⟨X.W,o2,X.A,cf,[],cS⟩::z3 WN v (X.of x)::z3 zi X.W.p ⟨X.W.m,x.s.R⟩::z3 zY X.W.m x.s.M::z3 yM X.W.sw x.w::R
 |(e,none,x)=>w= .tuple [.ptr none,vi e]∧L=z3 WN v (X.of x)::z3 zi X.W.p ⟨X.W.m,x.s.R⟩::z3 zY X.W.m x.s.M::z3 yM X.W.sw x.w::R:=by
 refine ze (jK v X) fun y hX=> ?_
 obtain⟨a,s,i,b⟩:=y
 dsimp only [Es,List.cons_append,List.nil_append]
 refine SW.intro rfl Tryz.func227 rfl ?_
 refine O0 10 J (fa J Y (ld J Y J (qJ rfl (fun _ h=>HP rfl rfl rfl rfl rfl h) ?_)))
 refine Z 1 J (z5 (fun lP=> ?_) (fun lP=> ?_))
 ·refine Z 8 J (qt J J J J ?_)
  have e:(zA.fork (X.st ⟨M,Rf⟩ Ws) X.W o2)=(5,none,(zA.mk X.A X.fm X.sm X.S ⟨M,Rf⟩ Ws)):=if_pos (show 0<X.sm.length by omega)
  rw [e]
  exact⟨_,⟨rfl,rfl⟩,Sub.W9 (zt (X:=X.of (zA.mk X.A X.fm X.sm X.S ⟨M,Rf⟩ Ws)) ⟨hX.1,hX.2⟩) Y⟩
 refine Z 7 J (fa J Y (ld J Y J (yY (nr _ _ X.A) rfl (fun _=>rfl) ?_)))
 rintro Tz _ ⟨_,rfl,z8Z,rfl⟩
 have Ub:=jt X.A 256
 refine Z 6 J (fa J Y (lN J Y Y J J (Z 1 J (VT (Et _ X.W PB P9 M Rf o2) rfl (fun _=>rfl) ?_))))
 intro u30 L30 He
 rcases eW (PM.space ⟨M,Rf⟩ X.W.zM X.W.mp X.W.gate o2)with⟨⟨s1,S1⟩,dQ⟩|dQ
 ·simp only [dQ]at He
  obtain⟨IB,rfl,rfl⟩:=He
  have lW:=JD dQ
  refine wj (jK IB (YV.mk X.W o2 qx [] [] S1)) fun y2 LP=> ?_
  obtain⟨a2,s2,i2,b2⟩:=y2
  dsimp only [Es,List.cons_append,List.nil_append]
  refine Z 16 J (zW [0,1,3,7,0,31,0,64,192,448,960,2047,4095] [([0,1,2,3,4,6,7,8,9,10],[3,10],some 5),([],[10],some 11),([12],[12],none)] (by kernel_rfl) ?_)
  refine z7 (ZK 2 J (zx J Y (q9 J Y J (ZK 3 J (zx J Y (zx J Y (q9 J Y J (z8 ⟨(yN J Y J J J (yN J Y J J J z9)),?_⟩))))))))
  refine Z3 (o5 _ _ _ _ S1 s1.M _ (zH X.A 256) (by omega)) J Y Y Y (zJ (z7 (z8 ⟨(yN J Y J J J z9),?_⟩)))
  refine Z2 (bG _ _ _ s1.R s1.M) J Y Y (zJ (z7 (ZK 1 J (ql (fun h47=> ?_) (fun h47=> ?_)))))
  ·refine z8 ⟨(gv J J J (by rw [decide_eq_true h47];rfl) z9),?_⟩
   refine OX 4 J (zd (Sub.W9 (p:=z3 WN IB (YV.mk X.W o2 qx [] [] S1)) (zt (v:=IB) (a:=a2) (s:=s2) (i:=i2) (j:=b2) (X:=(YV.mk X.W o2 qx [] [] S1)) LP) (Sub.refl _)) ?_)
   refine Z4 (oK _ _ (YV.mk X.W o2 qx [] [] S1) s1.M s1.R Ws (by show S1.tables.length≤500000;omega)) J Y Y Y Y (Z 7 J (qt J J J J ?_))
   have e:(zA.fork (X.st ⟨M,Rf⟩ Ws) X.W o2)=(2,none,(zA.mk X.A X.fm X.sm X.S (zA.drop (zA.mk qx [] [] S1 s1 Ws)).s (zA.drop (zA.mk qx [] [] S1 s1 Ws)).w)):=by { unfold zA.fork;rw [if_neg (show¬0<X.sm.length by omega)];simp only [dQ];exact if_pos (by omega) }
   rw [e]
   exact⟨_,⟨rfl,rfl⟩,Sub.W9 (zt (X:=X.of (zA.mk X.A X.fm X.sm X.S (zA.drop (zA.mk qx [] [] S1 s1 Ws)).s (zA.drop (zA.mk qx [] [] S1 s1 Ws)).w)) ⟨hX.1,hX.2⟩) Y⟩
  refine z8 ⟨(gv J J J (by rw [decide_eq_false h47];rfl) z9),?_⟩
  refine OX 7 J (fa J Y (ld J Y J (yY (nj _ _ X.A) rfl (fun _=>rfl) ?_)))
  rintro _ _ ⟨Pe,rfl,rfl⟩
  refine Z 1 J (fa J Y (sO J Y J J J (Z 5 J (qJ rfl (fun _ h=>yI rfl rfl rfl rfl rfl h) ?_))))
  refine Z 3 J (zy (fun j T L=> ∃(c:Nat),(c≤(zH X.A 256).length)∧(wN.Zt X.fm X.S (((zH X.A 256).take c).foldl (wN.share X.fm) ⟨[],S1,X.S,s1⟩) c 0)∧j=(zH X.A 256).length-c∧T.len=7∧Tm.get 0 T=some (vp v 0)∧Tm.get 6 T=some (Tz)∧Tm.get 7 T=some (vp IB 0)∧Tm.get 58 T=some (Tz)∧Tm.get 59 T=some (vi ((zH X.A 256).length:Nat))∧Tm.get 60 T=some (vi (c:Nat))∧Sub L (z3 (zX ye 1) Tz (zH X.A 256)::z3 zC IB (mA X.W o2 Pe s2 i2 b2)::z3 wD Pe X.A::z3 ZM i2 (((zH X.A 256).take c).foldl (wN.share X.fm) ⟨[],S1,X.S,s1⟩).cf::z3 ZM b2 []::z3 we s2 ⟨X.W.m,X.W.p,(((zH X.A 256).take c).foldl (wN.share X.fm) ⟨[],S1,X.S,s1⟩).cS⟩::z3 zC v (mA X.W X.o a s i b)::z3 wD a X.A::z3 ZM i X.fm::z3 ZM b X.sm::z3 we s ⟨X.W.m,X.W.p,(((zH X.A 256).take c).foldl (wN.share X.fm) ⟨[],S1,X.S,s1⟩).pS⟩::z3 zi X.W.p ⟨X.W.m,(((zH X.A 256).take c).foldl (wN.share X.fm) ⟨[],S1,X.S,s1⟩).s.R⟩::z3 zY X.W.m (((zH X.A 256).take c).foldl (wN.share X.fm) ⟨[],S1,X.S,s1⟩).s.M::z3 yM X.W.sw Ws::R)) ((zH X.A 256).length) ⟨0,by omega,⟨YK.nil,lW,Nat.le_refl _,fun z=>by have:=JC dQ dO (by decide) z;show cnt s1.R z≤_;omega⟩,by omega,rfl,rfl,rfl,rfl,rfl,rfl,rfl,(by rw [List.take_zero,List.foldl_nil];exact Y)⟩ ?_)
  rintro j T L0 ⟨c,hc,hF,rfl,hl,g0,g6,g7,g58,g59,g60,yU⟩
  obtain⟨tg,rfl⟩:=I4 hl g0 g6 g7 g58 g59 g60
  clear hl g0 g6 g7 g58 g59 g60
  refine yE yU ?_
  clear yU L0
  refine O0 3 J (z5 (fun CU=> ?_) (fun CU=> ?_))
  ·refine Z 8 J ?_
   obtain⟨z,hz⟩: ∃z,(zH X.A 256)[c]? =some z:=⟨(zH X.A 256)[c]'(by omega),List.getElem?_eq_getElem (by omega)⟩
   refine qJ rfl (fun _ h=>yg rfl rfl rfl (by omega) (by omega) h) ?_
   refine lE 0 J Y J hz J (Z 3 J (zW [0,1,3,7,0,0,32,96,224,0,992,2047] [([0,1,2,3,4,5,6,7,8,9,10],[3,8,10],some 11),([],[],none)] (by kernel_rfl) ?_))
   refine z7 (ZK 2 J (zx J Y (q9 J Y J (ZK 3 J (zx J Y (q9 J Y J (ZK 1 J (jM rfl (fun _ h=>jQ rfl rfl rfl h) ?_))))))))
   refine z8 ⟨(yN J Y J J J (yN J Y J J J (va rfl (fun _ h=>jQ rfl rfl rfl h) rfl rfl (z6 _ rfl) z9))),?_⟩
   refine Zb rfl rfl rfl rfl rfl ?_
   refine zJ (z7 (z8 ⟨z9,?_⟩))
   refine zW [0,1,3,7,15,0,32,96,224,0,992,2047] [([0,1,2,3,4,5,6,7,8,9,10],[4,8,10],some 11),([],[],none)] (by kernel_rfl) ?_
   refine z7 (ZK 2 J (zx J Y (zx J Y (q9 J Y J (ZK 2 J (zx J Y (q9 J Y J (ZK 1 J (jM rfl (fun _ h=>jQ rfl rfl rfl h) ?_)))))))))
   refine z8 ⟨(yN J Y J J J (yN J Y J J J (va rfl (fun _ h=>jQ rfl rfl rfl h) rfl rfl (z6 _ rfl) z9))),?_⟩
   refine Z1 (KF _ _ _ (((zH X.A 256).take c).foldl (wN.share X.fm) ⟨[],S1,X.S,s1⟩).s.R ((qH X.fm z).getD 0) (by have:=hF.n ((qH X.fm z).getD 0);omega)) J Y (zJ (z7 (z8 ⟨z9,?_⟩)))
   refine OX 1 J (ad J (Z 2 J ?_))
   have hK:=qk (wN.share X.fm) ⟨[],S1,X.S,s1⟩ (zH X.A 256) c _ hz
   have eR:(wN.share X.fm (((zH X.A 256).take c).foldl (wN.share X.fm) ⟨[],S1,X.S,s1⟩) z).s.R=_:=tu (((zH X.A 256).take c).foldl (wN.share X.fm) ⟨[],S1,X.S,s1⟩).s ((qH X.fm z).getD 0)
   have eM:(wN.share X.fm (((zH X.A 256).take c).foldl (wN.share X.fm) ⟨[],S1,X.S,s1⟩) z).s.M=_:=KE (((zH X.A 256).take c).foldl (wN.share X.fm) ⟨[],S1,X.S,s1⟩).s ((qH X.fm z).getD 0)
   exact Or.inl ⟨rfl,_,by omega,c+1,by omega,by rw [hK];exact wN.Zt.share hX.1 hF z,rfl,rfl,rfl,rfl,rfl,rfl,rfl,rfl,(by rw [hK,eR,eM];exact Y)⟩
  refine Z 4 J (Or.inr ⟨nofun,?_⟩)
  refine OX 4 J (qJ rfl (fun _ h=>yI rfl rfl rfl rfl rfl h) ?_)
  refine Z 3 J ?_
  have Uz:c=(zH X.A 256).length:=by omega
  subst Uz
  rw [List.take_length]at hF ⊢
  refine zy (fun j T L=> ∃(q:Nat),(q≤(zH X.A 256).length)∧(YK (((zH X.A 256).take q).foldl (wN.both X.A X.fm X.sm Ws X.W.inv) ((zH X.A 256).foldl (wN.share X.fm) ⟨[],S1,X.S,s1⟩)).cf∧(((zH X.A 256).take q).foldl (wN.both X.A X.fm X.sm Ws X.W.inv) ((zH X.A 256).foldl (wN.share X.fm) ⟨[],S1,X.S,s1⟩)).cS.tables.length≤2+2*q∧(((zH X.A 256).take q).foldl (wN.both X.A X.fm X.sm Ws X.W.inv) ((zH X.A 256).foldl (wN.share X.fm) ⟨[],S1,X.S,s1⟩)).pS.tables.length≤X.S.tables.length+2*q)∧j=(zH X.A 256).length-q∧T.len=7∧Tm.get 0 T=some (vp v 0)∧Tm.get 7 T=some (vp IB 0)∧Tm.get 88 T=some (Tz)∧Tm.get 89 T=some (vi ((zH X.A 256).length:Nat))∧Tm.get 90 T=some (vi (q:Nat))∧Sub L (z3 (zX ye 1) Tz (zH X.A 256)::z3 zC IB (mA X.W o2 Pe s2 i2 b2)::z3 wD Pe X.A::z3 ZM i2 (((zH X.A 256).take q).foldl (wN.both X.A X.fm X.sm Ws X.W.inv) ((zH X.A 256).foldl (wN.share X.fm) ⟨[],S1,X.S,s1⟩)).cf::z3 ZM b2 []::z3 we s2 ⟨X.W.m,X.W.p,(((zH X.A 256).take q).foldl (wN.both X.A X.fm X.sm Ws X.W.inv) ((zH X.A 256).foldl (wN.share X.fm) ⟨[],S1,X.S,s1⟩)).cS⟩::z3 zC v (mA X.W X.o a s i b)::z3 wD a X.A::z3 ZM i X.fm::z3 ZM b X.sm::z3 we s ⟨X.W.m,X.W.p,(((zH X.A 256).take q).foldl (wN.both X.A X.fm X.sm Ws X.W.inv) ((zH X.A 256).foldl (wN.share X.fm) ⟨[],S1,X.S,s1⟩)).pS⟩::z3 zi X.W.p ⟨X.W.m,(((zH X.A 256).take q).foldl (wN.both X.A X.fm X.sm Ws X.W.inv) ((zH X.A 256).foldl (wN.share X.fm) ⟨[],S1,X.S,s1⟩)).s.R⟩::z3 zY X.W.m (((zH X.A 256).take q).foldl (wN.both X.A X.fm X.sm Ws X.W.inv) ((zH X.A 256).foldl (wN.share X.fm) ⟨[],S1,X.S,s1⟩)).s.M::z3 yM X.W.sw Ws::R)) ((zH X.A 256).length) ⟨0,by omega,⟨hF.f,hF.c,hF.p⟩,by omega,rfl,rfl,rfl,rfl,rfl,rfl,(by rw [List.take_zero,List.foldl_nil];exact Y)⟩ ?_
  rintro j T L0 ⟨q,hq,hG,rfl,hl,g0,g7,g88,g89,g90,yU⟩
  obtain⟨tg,rfl⟩:=I3 hl g0 g7 g88 g89 g90
  clear hl g0 g7 g88 g89 g90
  refine yE yU ?_
  clear yU L0
  refine O0 3 J (z5 (fun h91=> ?_) (fun h91=> ?_))
  ·refine Z 8 J ?_
   obtain⟨z,hz⟩: ∃z,(zH X.A 256)[q]? =some z:=⟨(zH X.A 256)[q]'(by omega),List.getElem?_eq_getElem (by omega)⟩
   refine qJ rfl (fun _ h=>yg rfl rfl rfl (by omega) (by omega) h) ?_
   refine lE 0 J Y J hz J (Z 6 J (Z7 (gA _ IB X.W o2 Pe s2 i2 b2 X.A (((zH X.A 256).take q).foldl (wN.both X.A X.fm X.sm Ws X.W.inv) ((zH X.A 256).foldl (wN.share X.fm) ⟨[],S1,X.S,s1⟩)).cf [] (((zH X.A 256).take q).foldl (wN.both X.A X.fm X.sm Ws X.W.inv) ((zH X.A 256).foldl (wN.share X.fm) ⟨[],S1,X.S,s1⟩)).s.R hG.1 YK.nil (((zH X.A 256).take q).foldl (wN.both X.A X.fm X.sm Ws X.W.inv) ((zH X.A 256).foldl (wN.share X.fm) ⟨[],S1,X.S,s1⟩)).s.M (((zH X.A 256).take q).foldl (wN.both X.A X.fm X.sm Ws X.W.inv) ((zH X.A 256).foldl (wN.share X.fm) ⟨[],S1,X.S,s1⟩)).cS (by have:=hG.2.1;omega) z) J Y Y Y Y Y Y Y (Z 4 J (Z7 (gA _ v X.W X.o a s i b X.A X.fm X.sm (zA.tell (zA.mk X.A (((zH X.A 256).take q).foldl (wN.both X.A X.fm X.sm Ws X.W.inv) ((zH X.A 256).foldl (wN.share X.fm) ⟨[],S1,X.S,s1⟩)).cf [] (((zH X.A 256).take q).foldl (wN.both X.A X.fm X.sm Ws X.W.inv) ((zH X.A 256).foldl (wN.share X.fm) ⟨[],S1,X.S,s1⟩)).cS (((zH X.A 256).take q).foldl (wN.both X.A X.fm X.sm Ws X.W.inv) ((zH X.A 256).foldl (wN.share X.fm) ⟨[],S1,X.S,s1⟩)).s Ws) X.W.inv z).s.R hX.1 hX.2 (zA.tell (zA.mk X.A (((zH X.A 256).take q).foldl (wN.both X.A X.fm X.sm Ws X.W.inv) ((zH X.A 256).foldl (wN.share X.fm) ⟨[],S1,X.S,s1⟩)).cf [] (((zH X.A 256).take q).foldl (wN.both X.A X.fm X.sm Ws X.W.inv) ((zH X.A 256).foldl (wN.share X.fm) ⟨[],S1,X.S,s1⟩)).cS (((zH X.A 256).take q).foldl (wN.both X.A X.fm X.sm Ws X.W.inv) ((zH X.A 256).foldl (wN.share X.fm) ⟨[],S1,X.S,s1⟩)).s Ws) X.W.inv z).s.M (((zH X.A 256).take q).foldl (wN.both X.A X.fm X.sm Ws X.W.inv) ((zH X.A 256).foldl (wN.share X.fm) ⟨[],S1,X.S,s1⟩)).pS (by have:=hG.2.2;omega) z) J Y Y Y Y Y Y Y (Z 2 J (ad J (Z 2 J ?_)))))))
   have hK:=qk (wN.both X.A X.fm X.sm Ws X.W.inv) ((zH X.A 256).foldl (wN.share X.fm) ⟨[],S1,X.S,s1⟩) (zH X.A 256) q _ hz
   exact Or.inl ⟨rfl,_,by omega,q+1,by omega,by rw [hK];exact wN.Zt.both hG X.A Ws X.W.inv z,rfl,rfl,rfl,rfl,rfl,rfl,rfl,(by rw [hK];exact Y)⟩
  refine Z 4 J (Or.inr ⟨nofun,?_⟩)
  refine OX 7 J (qt J J J J ?_)
  have Uz:q=(zH X.A 256).length:=by omega
  subst Uz
  rw [List.take_length]at hG ⊢
  have e:(zA.fork (X.st ⟨M,Rf⟩ Ws) X.W o2)=(0,some (((zH X.A 256).foldl (wN.both X.A X.fm X.sm Ws X.W.inv) ((zH X.A 256).foldl (wN.share X.fm) ⟨[],S1,X.S,s1⟩)).cf,((zH X.A 256).foldl (wN.both X.A X.fm X.sm Ws X.W.inv) ((zH X.A 256).foldl (wN.share X.fm) ⟨[],S1,X.S,s1⟩)).cS),(zA.mk X.A X.fm X.sm ((zH X.A 256).foldl (wN.both X.A X.fm X.sm Ws X.W.inv) ((zH X.A 256).foldl (wN.share X.fm) ⟨[],S1,X.S,s1⟩)).pS ((zH X.A 256).foldl (wN.both X.A X.fm X.sm Ws X.W.inv) ((zH X.A 256).foldl (wN.share X.fm) ⟨[],S1,X.S,s1⟩)).s Ws)):=by { unfold zA.fork;rw [if_neg (show¬0<X.sm.length by omega)];simp only [dQ];exact if_neg (by omega) }
  rw [e]
  refine⟨_,⟨IB,rfl,rfl⟩,Sub.W9 (zt (X:=⟨X.W,o2,X.A,((zH X.A 256).foldl (wN.both X.A X.fm X.sm Ws X.W.inv) ((zH X.A 256).foldl (wN.share X.fm) ⟨[],S1,X.S,s1⟩)).cf,[],((zH X.A 256).foldl (wN.both X.A X.fm X.sm Ws X.W.inv) ((zH X.A 256).foldl (wN.share X.fm) ⟨[],S1,X.S,s1⟩)).cS⟩) ⟨hG.1,YK.nil⟩) (Sub.W9 (zt (X:=X.of (zA.mk X.A X.fm X.sm ((zH X.A 256).foldl (wN.both X.A X.fm X.sm Ws X.W.inv) ((zH X.A 256).foldl (wN.share X.fm) ⟨[],S1,X.S,s1⟩)).pS ((zH X.A 256).foldl (wN.both X.A X.fm X.sm Ws X.W.inv) ((zH X.A 256).foldl (wN.share X.fm) ⟨[],S1,X.S,s1⟩)).s Ws)) ⟨hX.1,hX.2⟩) Y)⟩
 simp only [dQ]at He
 obtain⟨rfl,rfl⟩:=He
 refine Z 19 J (qt J J J J ?_)
 have e:(zA.fork (X.st ⟨M,Rf⟩ Ws) X.W o2)=(2,none,(zA.mk X.A X.fm X.sm X.S ⟨M,Rf⟩ Ws)):=by { unfold zA.fork;rw [if_neg (show¬0<X.sm.length by omega)];simp only [dQ] }
 rw [e]
 exact⟨_,⟨rfl,rfl⟩,Sub.W9 (zt (X:=X.of (zA.mk X.A X.fm X.sm X.S ⟨M,Rf⟩ Ws)) ⟨hX.1,hX.2⟩) Y⟩
theorem sq (R:List SP) (m:Nat) (fr zE:Int) (zM inv:Bool) (kB:fr<24):yH 98 [.agg (Yf fr zE zM inv),vp m 0] (R) fun v L=>v= .tuple [.agg [vi 0,vi 0],.bool false]∧L=R:=by
 refine SW.intro rfl Tryz.func98 rfl ?_
 refine O0 2 J (yu rfl rfl rfl rfl fun i2=> ?_)
 refine zn rfl rfl rfl fun i4=> ?_
 refine Z 4 J (zW [0,1,3,7,15,31,63,127,255,511,1023,511,2559,8191,16383,32767,65535,131071,262143,524287,1048575,2097151,4194303,8388607,16777215] [([0,1,2,3,4,5,6,7,8,9,10,11],[1,2,5,6,10],some 12),([13,14,15,16,17,18,19,20,21,22,23,24],[10,13,17,18,22,23],none)] (by kernel_rfl) ?_)
 refine z7 (zx J Y (q9 J Y J (uc rfl (fun _=>zG rfl rfl rfl (Ui rfl)) (z2I (by omega) ?_))))
 refine ZK 9 J (z8 ⟨(yN J Y J J J (gv J J J (by rw [decide_eq_true kB];rfl) (yG rfl (yG rfl (yG rfl z9))))),?_⟩)
 refine ZT rfl (zJ (z7 (ZK 12 J (z8 ⟨(yG rfl (yG rfl (yG rfl (yG rfl (yG rfl (yG rfl z9)))))),?_⟩))))
 refine OX 3 J (bu [_,_] J Y Y J (sN J Y Y J J J (Z 3 J (⟨.inr rfl,_,fun _ h=>(zu (yQ rfl (yo rfl (Nat.le_of_ble_eq_true rfl) h)) (zu (zm rfl) qY)),?_⟩))))
 exact fq
def wh (fr zE:Int):Bool:=decide (24≤fr) && j7 (zF.new (min fr 64).toNat) fr zE
theorem Kj (R:List SP) (fr zE:Int) (zM inv:Bool):yH 59 [.agg (Yf fr zE zM inv)] (R) fun w L=>if wh fr zE then(∃m p sw,w= .tuple [.agg (dC ⟨fr,zE,zM,inv,m,p,sw,3,13⟩),vi 0]∧L=z3 zY m (pI (zF.new (min fr 64).toNat) zM)::z3 zi p ⟨m,[]⟩::z3 yM sw []::R)else(w= .tuple [.agg [vi 0,vi 0,.bool false,.bool false,.ptr none,.ptr none,.ptr none,vi 0,vi 0],vi 1]∧L=R):=by
 refine SW.intro rfl Tryz.func59 rfl ?_
 refine O0 2 J (yu rfl rfl rfl rfl fun i1=> ?_)
 refine zn rfl rfl rfl fun i2=> ?_
 refine Z 4 J (fa J Y (ld J Y J (qZ (Nl _ fr) rfl (fun _=>rfl) ?_)))
 rintro _ _ ⟨m9,rfl,rfl⟩
 rcases Decidable.em (fr<24)with hlow|hlow
 ·refine zd (M:=z3 zC i2 (z0.agg [.int .i64 (.lit 0),.int .i64 (.lit 0),.bool false,.bool false,.ptr none,.ptr none,.ptr none,.int .i64 (.lit 0),.int .i64 (.lit 0)]).cells::z3 zC i1 (z0.agg (Yf fr zE zM inv)).cells::R) (by split;exact Sub.drop (Sub.refl _);exact Sub.refl _) ?_
  refine Z 4 J (lN J Y Y J J (Z 1 J (Z0 (sq _ _ fr zE zM inv hlow) J ?_)))
  rcases Bool.eq_false_or_eq_true (j7 (zF.new (min fr 64).toNat) fr zE)with hb|hb
  ·try rw [hb]
   refine Z 3 J (zn rfl rfl rfl fun i5=> ?_)
   refine sN J Y Y J J J (Z 11 J (bu [_,_,_,_,_,_,_,_,_] J Y Y J (sN J Y Y J J J (Z 3 J (⟨.inr rfl,_,fun _ h=>(zu (yQ rfl (yo rfl (Nat.le_of_ble_eq_true rfl) h)) (zu (zm rfl) qY)),?_⟩)))))
   have e:wh fr zE=false:=by { unfold wh;rw [decide_eq_false (by omega)];rfl }
   refine⟨R,?_,Y⟩
   show(if wh fr zE=true then _ else _)
   rw [if_neg (by rw [e];nofun)]
   exact⟨rfl,rfl⟩
  try rw [hb]
  refine Z 3 J (zn rfl rfl rfl fun i5=> ?_)
  refine sN J Y Y J J J (Z 11 J (bu [_,_,_,_,_,_,_,_,_] J Y Y J (sN J Y Y J J J (Z 3 J (⟨.inr rfl,_,fun _ h=>(zu (yQ rfl (yo rfl (Nat.le_of_ble_eq_true rfl) h)) (zu (zm rfl) qY)),?_⟩)))))
  have e:wh fr zE=false:=by { unfold wh;rw [decide_eq_false (by omega)];rfl }
  refine⟨R,?_,Y⟩
  show(if wh fr zE=true then _ else _)
  rw [if_neg (by rw [e];nofun)]
  exact⟨rfl,rfl⟩
 rw [if_pos (show 0<fr by omega)]
 refine Z 4 J (lN J Y Y J J (Z 1 J (Z1 (K9 _ _ (zF.new (min fr 64).toNat) fr zE zM inv) J Y ?_)))
 rcases Bool.eq_false_or_eq_true (j7 (zF.new (min fr 64).toNat) fr zE)with hb|hb
 ·try rw [hb]
  refine Z 3 J (zn rfl rfl rfl fun i5=> ?_)
  refine sN J Y Y J J J (Z 11 J (zW [0,0,0,4,12,0,63,127,255] [([0,1,2,5],[0,5],some 3),([],[0,5],some 4),([6],[0,5],some 7),([8],[],none)] (by kernel_rfl) ?_))
  refine z7 (kv J Y Y J J (ZK 2 J (kv J Y Y J J (z8 ⟨(Wm J Y Y J J J (z6 _ rfl) (Wm J Y Y J J J (z6 _ rfl) z9)),?_⟩))))
  refine qZ (O6 _ _) rfl (fun _=>rfl) ?_
  rintro _ _ ⟨p22,rfl,rfl⟩
  refine zJ (z7 (z8 ⟨(Wm J Y Y J J J (z6 _ rfl) (Wm J Y Y J J J (z6 _ rfl) z9)),?_⟩))
  refine qZ (KR _) rfl (fun _=>rfl) ?_
  rintro _ _ ⟨s23,rfl,rfl⟩
  refine zJ (z7 (cz [_,_,_,_,_,_,_,_,_] J Y Y J (z8 ⟨(Wm J Y Y J J J (z6 _ rfl) (Wm J Y Y J J J (z6 _ rfl) z9)),?_⟩)))
  refine sN J Y Y J J J (zJ (z7 (ZK 1 J (z8 ⟨z9,?_⟩))))
  refine OX 1 J (⟨.inr rfl,_,fun _ h=>(zu (yQ rfl (yo rfl (Nat.le_of_ble_eq_true rfl) h)) (zu (zm rfl) qY)),?_⟩)
  have e:wh fr zE=true:=by { unfold wh;rw [decide_eq_true (by omega),hb];rfl }
  refine⟨z3 zY m9 (pI (zF.new (min fr 64).toNat) zM)::z3 zi p22 ⟨m9,[]⟩::z3 yM s23 []::R,?_,?_⟩
  ·show(if wh fr zE=true then _ else _)
   rw [if_pos e]
   exact⟨m9,p22,s23,rfl,rfl⟩
  simp only [if_true]
  exact Y
 try rw [hb]
 refine Z 3 J (zn rfl rfl rfl fun i5=> ?_)
 refine sN J Y Y J J J (Z 11 J (bu [_,_,_,_,_,_,_,_,_] J Y Y J (sN J Y Y J J J (Z 3 J (⟨.inr rfl,_,fun _ h=>(zu (yQ rfl (yo rfl (Nat.le_of_ble_eq_true rfl) h)) (zu (zm rfl) qY)),?_⟩)))))
 have e:wh fr zE=false:=by { unfold wh;rw [decide_eq_true (by omega),hb];rfl }
 refine⟨R,?_,Y⟩
 show(if wh fr zE=true then _ else _)
 rw [if_neg (by rw [e];nofun)]
 exact⟨rfl,rfl⟩
theorem OC {P:Program} {F:zD} {o:Oper} {T:Tm} {H:Hp} {t:TypeId} {x:Operand} {z:Int} (ho:o.op= .unOp .xor t x) (hx:zK T x=some (.int .u64 (.lit z))) (hz:0≤z∧z≤18446744073709551615):yd P F T H o=some (.val (.int .u64 (.lit (18446744073709551615-z))) H):=by
 simp only [yd,ho,cC,hx,Xk,qR hz,cond_true,ZO,zN.qK]
def Ww (z:Nat):Nat:=YS (18446744073709551615-z) 1
def codeOk (code:List qG):Bool:=decide (code.length≤24) && !(code.any fun x=> !x.ok)
theorem VO (R:List SP) (z:Nat) (hz:z≤100):yH 187 [vi (z:Nat)] (R) fun w L=>w=vu (Ww z)∧L=R:=by
 refine SW.intro rfl Tryz.func187 rfl ?_
 refine O0 7 J (zo rfl (fun _=>qy rfl rfl (qR (by omega))) ?_)
 refine zo rfl (fun _=>OC rfl rfl (by omega)) ?_
 refine qI (w:=vu (18446744073709551615-z)) (by show z0.int .u64 (.lit (18446744073709551615-(z:Int)))=_;congr 2;omega) ?_
 refine zo rfl (fun _=>zG rfl rfl rfl (WY (x:=18446744073709551615-z) (y:=1))) ?_
 exact Z 3 J (zI J J J fq)
theorem iq (R:List SP) (x:qG):yH 103 [.agg (qs x)] (R) fun w L=>w= .bool (!x.ok)∧L=R:=by
 refine SW.intro rfl Tryz.func103 rfl ?_
 refine O0 2 J (yu rfl rfl rfl rfl fun i1=> ?_)
 refine Z 4 J (lN J Y Y J J (Z0 (G5 _ _ _ _ _) J ?_))
 rcases Bool.eq_false_or_eq_true x.ok with hI|hI
 ·rw [if_pos (show qN x.op x.a x.b x.n=true from hI)]
  refine zo rfl (fun _=>zG rfl rfl rfl (uT rfl)) (qm (by omega) ?_)
  refine Z 3 J (zI J J J ?_)
  rw [hI]
  exact fq
 rw [if_neg (show¬qN x.op x.a x.b x.n=true from fun e=>by rw [show qN x.op x.a x.b x.n=x.ok from rfl,hI]at e;cases e)]
 refine zo rfl (fun _=>zG rfl rfl rfl (uT rfl)) (dx (by omega) ?_)
 refine Z 3 J (zI J J J ?_)
 rw [hI]
 exact fq
theorem DE (R:List SP) (v:z0) (code:List qG) (hn:code.length≤1000000):yH 62 [v] (z3 (zX qs 4) v code::R) fun w L=>w= .bool (codeOk code)∧L=z3 (zX qs 4) v code::R:=by
 refine SW.intro rfl Tryz.func62 rfl ?_
 refine O0 7 J (qJ rfl (fun _ h=>yI rfl rfl rfl rfl rfl h) ?_)
 refine Z 1 J (z5 (fun h5=> ?_) (fun h5=> ?_))
 ·refine Z 2 J (Z0 (Ar [] R v code hn (fun x=> !x.ok) 103 [] [] (fun x _ R2=>iq R2 x)) J ?_)
  dsimp only [List.nil_append]
  refine Z 5 J (zI J J J (⟨_,⟨congrArg z0.bool ?_,rfl⟩,Y⟩))
  unfold codeOk
  rw [decide_eq_true (by omega)];rfl
 refine Z 8 J (zI J J J (⟨_,⟨congrArg z0.bool ?_,rfl⟩,Y⟩))
 unfold codeOk
 rw [decide_eq_false (by omega)];rfl
end Go.Proofs.YtlhcpplnlgehbaaGreat
