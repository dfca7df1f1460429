/- Part of the proof: KVm2, KVm3, KVm4, KCpu, KSpec, KInsn, KRegs, KVm5, KVm6, KKern0. Names and blanks are cut short to keep within the size of a claim. -/
import Derived.Test.YtlhcpplnlgehbaaGreatM4
import Derived.Test.YtlhcpplnlgehbaaGreatM5
import Derived.Test.YtlhcpplnlgehbaaGreatM6
set_option linter.unusedVariables false
set_option linter.unusedSimpArgs false
set_option maxRecDepth 100000
namespace Go.Proofs.YtlhcpplnlgehbaaGreat
open Go Go.RowKit Go.Px
structure jX where
 W:Wd
 o:Int
 A:Nat→Int
 fm:List (Int×Int)
 sm:List (Int×Int)
 S:zm
def jX.Ok (X:jX):Prop:=jQ X.fm∧jQ X.sm
abbrev fj (v:Nat) (X:jX) (y:Nat×Nat×Nat×Nat):List SP:= [ent z8 v (J1 X.W X.o y.1 y.2.1 y.2.2.1 y.2.2.2),ent qY y.1 X.A,ent gP y.2.2.1 X.fm,ent gP y.2.2.2 X.sm,ent qs y.2.1 ⟨X.W.m,X.W.p,X.S⟩]
def Zs (v:Nat) (X:jX):SP:=fun h=> ∃y:Nat×Nat×Nat×Nat,X.Ok∧yd (fj v X y) h
theorem uR (v:Nat) (X:jX): ∀h,Zs v X h→ ∃y:Nat×Nat×Nat×Nat,X.Ok∧yd (fj v X y) h:=fun _ h=>h
theorem zg {v a s i j:Nat} {X:jX} (hX:X.Ok): ∀h,yd [ent z8 v (J1 X.W X.o a s i j),ent qY a X.A,ent gP i X.fm,ent gP j X.sm,ent qs s ⟨X.W.m,X.W.p,X.S⟩] h→Zs v X h:=fun _ x=>⟨(a,s,i,j),hX,x⟩
theorem UR (R:List SP) (v:Nat) (X:jX):zy 162 [vp v 0] (ent Zs v X::R) fun w L=>w= .tuple [vi (X.S.kernel:Nat),vi (X.S.user:Nat)]∧L=ent Zs v X::R:=by
 refine zS (uR v X) fun y hX=> ?_
 obtain⟨a,s,i,j⟩:=y
 dsimp only [fj,List.cons_append,List.nil_append]
 refine SW.intro rfl Tryz.func162 rfl ?_
 exact O0 9 J (fa J Y (ld J Y J (Z1 (fp _ _ _) J Y (Z 6 J (qO J J J J ⟨_,⟨rfl,rfl⟩,Sub.mk5 (zg hX) Y⟩)))))
theorem jQ.nil:jQ []:=fun p hp=>by cases hp
theorem mO {α:Type} (x:Option α):(∃y,x=some y)∨x=none:=by cases x<;>simp
abbrev Uc (W:Wd):List AVal:= [vi W.fr,vi W.cpus,.bool W.kpti,.bool W.inv,vp W.m 0,vp W.p 0,vp W.sw 0,vi (W.mp:Nat),vi (W.gate:Nat)]
theorem rC (R:List SP) (W:Wd) (hmp:W.mp<1099511627776) (hgt:W.gate<1099511627776) (M:zA) (Rf:List (Int×Int)) (o:Int):zy 68 [.agg (Uc W),vi o] (ent zX W.p ⟨W.m,Rf⟩::ent zQ W.m M::R) fun w L=>match PM.space ⟨M,Rf⟩ W.kpti W.mp W.gate o with
 |some (s,S)=> ∃v,w= .tuple [vp v 0,.bool true]∧L=ent Zs v ⟨W,o,qR,[],[],S⟩::ent zX W.p ⟨W.m,s.R⟩::ent zQ W.m s.M::R
 |none=>w= .tuple [.ptr none,.bool false]∧L=ent zX W.p ⟨W.m,Rf⟩::ent zQ W.m M::R:=by
 refine SW.intro rfl Tryz.func68 rfl ?_
 refine O0 2 J (yW rfl rfl rfl rfl fun i2=> ?_)
 refine Z 5 J (fa J Y (lN J Y Y J J (fa J Y (lN J Y Y J J (fa J Y (ld J Y J (fa J Y (ld J Y J (Z 1 J (Yc (oJ _ _ _ M Rf W.fr W.cpus W.kpti W.inv W.mp W.gate hmp hgt o) rfl (fun _=>rfl) ?_))))))))))
 intro u18 L18 hp18
 rcases mO (PM.space ⟨M,Rf⟩ W.kpti W.mp W.gate o)with⟨⟨s1,S1⟩,hsp⟩|hsp
 ·simp only [hsp]at hp18 ⊢
  obtain⟨n18,rfl,rfl⟩:=hp18
  refine Z 15 J (zO [0,0,0,0,0,0,63,127,255,511] [([0,1,3,4,5],[0],some 2),([6,7,8,9],[0],none)] (by kernel_rfl) ?_)
  refine z4 (Vl J Y Y J J (ZK 2 J (Ua rfl rfl fun i27=> ?_)))
  refine Ua rfl rfl fun i28=> ?_
  refine z5 ⟨(YC J Y Y J J J (z3 _ rfl) z6),?_⟩
  refine o_call (fb _) rfl (fun _=>rfl) ?_
  rintro _ _ ⟨a25,rfl,rfl⟩
  refine zF (z4 (p7 [_,_,_,_,_,_,_,_,_,_,_,_,_,_] J Y Y J (ky rfl rfl rfl rfl fun i30=> ?_)))
  refine ZK 2 J (z5 ⟨(YC J Y Y J J J (z3 _ rfl) z6),?_⟩)
  exact OX 1 J (qO J J J J ⟨_,⟨i30,rfl,rfl⟩,Sub.mk5 (zg (X:=⟨W,o,qR,[],[],S1⟩) ⟨jQ.nil,jQ.nil⟩) Y⟩)
 simp only [hsp]at hp18 ⊢
 obtain⟨rfl,rfl⟩:=hp18
 exact Z 19 J (qO J J J J fq)
abbrev jX.of (X:jX) (x:z7):jX:=⟨X.W,X.o,x.A,x.fm,x.sm,x.S⟩
abbrev jX.st (X:jX) (s:PM) (w:jt):z7:=⟨X.A,X.fm,X.sm,X.S,s,w⟩
theorem AO (R:List SP) (v:Nat) (X:jX) (M:zA) (Rf:List (Int×Int)) (Ws:jt) (hT:X.S.tables.length≤800000) (page:Int) (write:Bool):zy 191 [vp v 0,vi page,.bool write] (ent Zs v X::ent zX X.W.p ⟨X.W.m,Rf⟩::ent zQ X.W.m M::ent y5 X.W.sw Ws::R) fun w L=>w=vi (z7.fix (X.st ⟨M,Rf⟩ Ws) X.W.inv X.o page write).1∧L=ent Zs v (X.of (z7.fix (X.st ⟨M,Rf⟩ Ws) X.W.inv X.o page write).2)::ent zX X.W.p ⟨X.W.m,(z7.fix (X.st ⟨M,Rf⟩ Ws) X.W.inv X.o page write).2.s.R⟩::ent zQ X.W.m (z7.fix (X.st ⟨M,Rf⟩ Ws) X.W.inv X.o page write).2.s.M::ent y5 X.W.sw (z7.fix (X.st ⟨M,Rf⟩ Ws) X.W.inv X.o page write).2.w::R:=by
 refine yQ (qD X.W.m M) fun hM=> ?_
 have hn:M.n≤64:=hM.2.1
 refine zS (uR v X) fun y hX=> ?_
 obtain⟨a,s,i,j⟩:=y
 dsimp only [fj,List.cons_append,List.nil_append]
 refine yQ (xO a X.A) fun hA=> ?_
 have hr3:=Y8 hA page
 refine SW.intro rfl Tryz.func191 rfl ?_
 refine O0 8 J (fa J Y (ld J Y J (Z 1 J (Z1 (xG _ _ _ _) J Y (Z 3 J (z0 (fun h19=> ?_) (fun h19=> ?_)))))))
 ·refine Z 16 J (z0 (fun h23=> ?_) (fun h23=> ?_))
  ·refine Z 15 J (zE J J J ?_)
   have e:z7.fix (z7.mk X.A X.fm X.sm X.S ⟨M,Rf⟩ Ws) X.W.inv X.o page write=(2,(z7.mk X.A X.fm X.sm X.S ⟨M,Rf⟩ Ws)):=(if_neg (fun k=>k h19)).trans (if_pos (.inl h23))
   rw [e]
   exact⟨_,⟨rfl,rfl⟩,Sub.mk5 (zg (X:=X.of (z7.mk X.A X.fm X.sm X.S ⟨M,Rf⟩ Ws)) ⟨hX.1,hX.2⟩) Y⟩
  refine Z 2 J (zN (fun h25=> ?_) (fun h25=> ?_))
  ·subst h25
   refine Z 2 J (Z0 (JN _ _ (by assumption)) J (z0 (fun h28=> ?_) (fun h28=> ?_)))
   ·refine Z 11 J (fa J Y (ld J Y J (Z 1 J (yo rfl (fun _ h=>jh rfl rfl rfl h) ?_))))
    refine Z 3 J (zN (fun h40=> ?_) (fun h40=> ?_))
    ·refine Z 10 J (Z8 (xK _ _ X.W X.o a s i j X.A X.fm X.sm Rf hX.1 hX.2 M X.S (by omega) Ws page ((ym X.sm page).getD 0)) J Y Y Y Y Y Y Y Y (zN (fun h46=> ?_) (fun h46=> ?_)))
     ·refine Z 7 J (zO [0,1,3,7,15,31,63,3,131,387,899,3,3971,8191,16383,32767,65535,131071,131071,524287,1048575,2097151] [([0,1,2,3,4,5,6,7,8,9,10,11,12],[6,10,12],some 13),([14,15,16,17,18],[14],some 19),([20,21],[],none)] (by kernel_rfl) ?_)
      refine z4 (ZK 4 J (zj J Y (zj J Y (ye J Y J (ZK 2 J (zj J Y (ye J Y J (ZK 1 J (uW rfl (fun _ h=>ua rfl rfl rfl h) ?_)))))))))
      refine z5 ⟨(y6 J Y J J J (y6 J Y J J J (wV rfl (fun _ h=>ua rfl rfl rfl h) rfl rfl (z3 _ rfl) z6))),?_⟩
      refine Z1 (JU _ _ _ _ _) J Y (zF (z4 (ZK 1 J (qJ (fun h63=> ?_) (fun h63=> ?_)))))
      ·refine ZK 4 J (z5 ⟨(gv J J J (by rw [decide_eq_true h63];rfl) z6),?_⟩)
       refine Z4 (mY _ _ X.W X.o a s i j (z7.bring (z7.mk X.A X.fm X.sm X.S ⟨M,Rf⟩ Ws) X.W.inv X.o page ((ym X.sm page).getD 0)).2.fm (z7.bring (z7.mk X.A X.fm X.sm X.S ⟨M,Rf⟩ Ws) X.W.inv X.o page ((ym X.sm page).getD 0)).2.s.R (z7.Ok.bring (x:=(z7.mk X.A X.fm X.sm X.S ⟨M,Rf⟩ Ws)) ⟨hX.1,hX.2,hn⟩ X.W.inv X.o page ((ym X.sm page).getD 0)).f (z7.bring (z7.mk X.A X.fm X.sm X.S ⟨M,Rf⟩ Ws) X.W.inv X.o page ((ym X.sm page).getD 0)).2.s.M page) J Y Y Y Y (zN (fun h68=> ?_) (fun h68=> ?_))
       ·refine zF (z4 (ZK 2 J (z5 ⟨z6,?_⟩)))
        refine OX 6 J (Z7 (vX _ _ X.W X.o a s i j (z7.bring (z7.mk X.A X.fm X.sm X.S ⟨M,Rf⟩ Ws) X.W.inv X.o page ((ym X.sm page).getD 0)).2.A (vJ (z7.bring (z7.mk X.A X.fm X.sm X.S ⟨M,Rf⟩ Ws) X.W.inv X.o page ((ym X.sm page).getD 0)).2.fm ⟨(z7.bring (z7.mk X.A X.fm X.sm X.S ⟨M,Rf⟩ Ws) X.W.inv X.o page ((ym X.sm page).getD 0)).2.s.M,(z7.bring (z7.mk X.A X.fm X.sm X.S ⟨M,Rf⟩ Ws) X.W.inv X.o page ((ym X.sm page).getD 0)).2.s.R⟩ X.o page).2.1 (z7.bring (z7.mk X.A X.fm X.sm X.S ⟨M,Rf⟩ Ws) X.W.inv X.o page ((ym X.sm page).getD 0)).2.sm (vJ (z7.bring (z7.mk X.A X.fm X.sm X.S ⟨M,Rf⟩ Ws) X.W.inv X.o page ((ym X.sm page).getD 0)).2.fm ⟨(z7.bring (z7.mk X.A X.fm X.sm X.S ⟨M,Rf⟩ Ws) X.W.inv X.o page ((ym X.sm page).getD 0)).2.s.M,(z7.bring (z7.mk X.A X.fm X.sm X.S ⟨M,Rf⟩ Ws) X.W.inv X.o page ((ym X.sm page).getD 0)).2.s.R⟩ X.o page).2.2.R (jp (s:=⟨(z7.bring (z7.mk X.A X.fm X.sm X.S ⟨M,Rf⟩ Ws) X.W.inv X.o page ((ym X.sm page).getD 0)).2.s.M,(z7.bring (z7.mk X.A X.fm X.sm X.S ⟨M,Rf⟩ Ws) X.W.inv X.o page ((ym X.sm page).getD 0)).2.s.R⟩) (z7.Ok.bring (x:=(z7.mk X.A X.fm X.sm X.S ⟨M,Rf⟩ Ws)) ⟨hX.1,hX.2,hn⟩ X.W.inv X.o page ((ym X.sm page).getD 0)).f (z7.Ok.bring (x:=(z7.mk X.A X.fm X.sm X.S ⟨M,Rf⟩ Ws)) ⟨hX.1,hX.2,hn⟩ X.W.inv X.o page ((ym X.sm page).getD 0)).n X.o page).1 (z7.Ok.bring (x:=(z7.mk X.A X.fm X.sm X.S ⟨M,Rf⟩ Ws)) ⟨hX.1,hX.2,hn⟩ X.W.inv X.o page ((ym X.sm page).getD 0)).s (vJ (z7.bring (z7.mk X.A X.fm X.sm X.S ⟨M,Rf⟩ Ws) X.W.inv X.o page ((ym X.sm page).getD 0)).2.fm ⟨(z7.bring (z7.mk X.A X.fm X.sm X.S ⟨M,Rf⟩ Ws) X.W.inv X.o page ((ym X.sm page).getD 0)).2.s.M,(z7.bring (z7.mk X.A X.fm X.sm X.S ⟨M,Rf⟩ Ws) X.W.inv X.o page ((ym X.sm page).getD 0)).2.s.R⟩ X.o page).2.2.M (z7.bring (z7.mk X.A X.fm X.sm X.S ⟨M,Rf⟩ Ws) X.W.inv X.o page ((ym X.sm page).getD 0)).2.S (Nat.le_trans (Wh (z7.mk X.A X.fm X.sm X.S ⟨M,Rf⟩ Ws) X.W.inv X.o page ((ym X.sm page).getD 0)) (by show X.S.tables.length+2≤900000;omega)) page) J Y Y Y Y Y Y Y (Z 6 J (zE J J J ?_)))
        have hr: ¬(y7 X.A page=0∨(true=true∧y7 X.A page≠3)):=by
         rintro (h|⟨h,h2⟩)
         ·exact h23 h
         exact h2 h28
        have e:z7.fix (z7.mk X.A X.fm X.sm X.S ⟨M,Rf⟩ Ws) X.W.inv X.o page true=(0,(z7.part (z7.bring (z7.mk X.A X.fm X.sm X.S ⟨M,Rf⟩ Ws) X.W.inv X.o page ((ym X.sm page).getD 0)).2 X.o page).2.tell X.W.inv page):=(uq (x:=(z7.mk X.A X.fm X.sm X.S ⟨M,Rf⟩ Ws)) h19 hr).trans ((Vs h40 h46).trans (md ⟨rfl,h63⟩ h68))
        rw [e]
        exact⟨_,⟨rfl,rfl⟩,Sub.mk5 (zg (X:=X.of ((z7.part (z7.bring (z7.mk X.A X.fm X.sm X.S ⟨M,Rf⟩ Ws) X.W.inv X.o page ((ym X.sm page).getD 0)).2 X.o page).2.tell X.W.inv page)) ⟨(jp (s:=⟨(z7.bring (z7.mk X.A X.fm X.sm X.S ⟨M,Rf⟩ Ws) X.W.inv X.o page ((ym X.sm page).getD 0)).2.s.M,(z7.bring (z7.mk X.A X.fm X.sm X.S ⟨M,Rf⟩ Ws) X.W.inv X.o page ((ym X.sm page).getD 0)).2.s.R⟩) (z7.Ok.bring (x:=(z7.mk X.A X.fm X.sm X.S ⟨M,Rf⟩ Ws)) ⟨hX.1,hX.2,hn⟩ X.W.inv X.o page ((ym X.sm page).getD 0)).f (z7.Ok.bring (x:=(z7.mk X.A X.fm X.sm X.S ⟨M,Rf⟩ Ws)) ⟨hX.1,hX.2,hn⟩ X.W.inv X.o page ((ym X.sm page).getD 0)).n X.o page).1,(z7.Ok.bring (x:=(z7.mk X.A X.fm X.sm X.S ⟨M,Rf⟩ Ws)) ⟨hX.1,hX.2,hn⟩ X.W.inv X.o page ((ym X.sm page).getD 0)).s⟩) Y⟩
       refine zF (z4 (ZK 2 J (z5 ⟨z6,?_⟩)))
       refine OX 6 J (zE J J J ?_)
       have hr: ¬(y7 X.A page=0∨(true=true∧y7 X.A page≠3)):=by
        rintro (h|⟨h,h2⟩)
        ·exact h23 h
        exact h2 h28
       have e:z7.fix (z7.mk X.A X.fm X.sm X.S ⟨M,Rf⟩ Ws) X.W.inv X.o page true=(5,(z7.part (z7.bring (z7.mk X.A X.fm X.sm X.S ⟨M,Rf⟩ Ws) X.W.inv X.o page ((ym X.sm page).getD 0)).2 X.o page).2):=(uq (x:=(z7.mk X.A X.fm X.sm X.S ⟨M,Rf⟩ Ws)) h19 hr).trans ((Vs h40 h46).trans (xZ ⟨rfl,h63⟩ h68))
       rw [e]
       exact⟨_,⟨rfl,rfl⟩,Sub.mk5 (zg (X:=X.of (z7.part (z7.bring (z7.mk X.A X.fm X.sm X.S ⟨M,Rf⟩ Ws) X.W.inv X.o page ((ym X.sm page).getD 0)).2 X.o page).2) ⟨(jp (s:=⟨(z7.bring (z7.mk X.A X.fm X.sm X.S ⟨M,Rf⟩ Ws) X.W.inv X.o page ((ym X.sm page).getD 0)).2.s.M,(z7.bring (z7.mk X.A X.fm X.sm X.S ⟨M,Rf⟩ Ws) X.W.inv X.o page ((ym X.sm page).getD 0)).2.s.R⟩) (z7.Ok.bring (x:=(z7.mk X.A X.fm X.sm X.S ⟨M,Rf⟩ Ws)) ⟨hX.1,hX.2,hn⟩ X.W.inv X.o page ((ym X.sm page).getD 0)).f (z7.Ok.bring (x:=(z7.mk X.A X.fm X.sm X.S ⟨M,Rf⟩ Ws)) ⟨hX.1,hX.2,hn⟩ X.W.inv X.o page ((ym X.sm page).getD 0)).n X.o page).1,(z7.Ok.bring (x:=(z7.mk X.A X.fm X.sm X.S ⟨M,Rf⟩ Ws)) ⟨hX.1,hX.2,hn⟩ X.W.inv X.o page ((ym X.sm page).getD 0)).s⟩) Y⟩
      refine ZK 4 J (z5 ⟨(gv J J J (by rw [decide_eq_false h63];rfl) z6),?_⟩)
      refine gW rfl (zF (z4 (ZK 2 J (z5 ⟨z6,?_⟩))))
      refine OX 6 J (Z7 (vX _ _ X.W X.o a s i j (z7.bring (z7.mk X.A X.fm X.sm X.S ⟨M,Rf⟩ Ws) X.W.inv X.o page ((ym X.sm page).getD 0)).2.A (z7.bring (z7.mk X.A X.fm X.sm X.S ⟨M,Rf⟩ Ws) X.W.inv X.o page ((ym X.sm page).getD 0)).2.fm (z7.bring (z7.mk X.A X.fm X.sm X.S ⟨M,Rf⟩ Ws) X.W.inv X.o page ((ym X.sm page).getD 0)).2.sm (z7.bring (z7.mk X.A X.fm X.sm X.S ⟨M,Rf⟩ Ws) X.W.inv X.o page ((ym X.sm page).getD 0)).2.s.R (z7.Ok.bring (x:=(z7.mk X.A X.fm X.sm X.S ⟨M,Rf⟩ Ws)) ⟨hX.1,hX.2,hn⟩ X.W.inv X.o page ((ym X.sm page).getD 0)).f (z7.Ok.bring (x:=(z7.mk X.A X.fm X.sm X.S ⟨M,Rf⟩ Ws)) ⟨hX.1,hX.2,hn⟩ X.W.inv X.o page ((ym X.sm page).getD 0)).s (z7.bring (z7.mk X.A X.fm X.sm X.S ⟨M,Rf⟩ Ws) X.W.inv X.o page ((ym X.sm page).getD 0)).2.s.M (z7.bring (z7.mk X.A X.fm X.sm X.S ⟨M,Rf⟩ Ws) X.W.inv X.o page ((ym X.sm page).getD 0)).2.S (Nat.le_trans (Wh (z7.mk X.A X.fm X.sm X.S ⟨M,Rf⟩ Ws) X.W.inv X.o page ((ym X.sm page).getD 0)) (by show X.S.tables.length+2≤900000;omega)) page) J Y Y Y Y Y Y Y (Z 6 J (zE J J J ?_)))
      have hr: ¬(y7 X.A page=0∨(true=true∧y7 X.A page≠3)):=by
       rintro (h|⟨h,h2⟩)
       ·exact h23 h
       exact h2 h28
      have e:z7.fix (z7.mk X.A X.fm X.sm X.S ⟨M,Rf⟩ Ws) X.W.inv X.o page true=(0,z7.tell (z7.bring (z7.mk X.A X.fm X.sm X.S ⟨M,Rf⟩ Ws) X.W.inv X.o page ((ym X.sm page).getD 0)).2 X.W.inv page):=(uq (x:=(z7.mk X.A X.fm X.sm X.S ⟨M,Rf⟩ Ws)) h19 hr).trans ((Vs h40 h46).trans (Vr (fun k=>h63 k.2)))
      rw [e]
      exact⟨_,⟨rfl,rfl⟩,Sub.mk5 (zg (X:=X.of (z7.tell (z7.bring (z7.mk X.A X.fm X.sm X.S ⟨M,Rf⟩ Ws) X.W.inv X.o page ((ym X.sm page).getD 0)).2 X.W.inv page)) ⟨(z7.Ok.bring (x:=(z7.mk X.A X.fm X.sm X.S ⟨M,Rf⟩ Ws)) ⟨hX.1,hX.2,hn⟩ X.W.inv X.o page ((ym X.sm page).getD 0)).f,(z7.Ok.bring (x:=(z7.mk X.A X.fm X.sm X.S ⟨M,Rf⟩ Ws)) ⟨hX.1,hX.2,hn⟩ X.W.inv X.o page ((ym X.sm page).getD 0)).s⟩) Y⟩
     refine Z 9 J (zE J J J ?_)
     have hr: ¬(y7 X.A page=0∨(true=true∧y7 X.A page≠3)):=by
      rintro (h|⟨h,h2⟩)
      ·exact h23 h
      exact h2 h28
     have e:z7.fix (z7.mk X.A X.fm X.sm X.S ⟨M,Rf⟩ Ws) X.W.inv X.o page true=(5,(z7.bring (z7.mk X.A X.fm X.sm X.S ⟨M,Rf⟩ Ws) X.W.inv X.o page ((ym X.sm page).getD 0)).2):=(uq (x:=(z7.mk X.A X.fm X.sm X.S ⟨M,Rf⟩ Ws)) h19 hr).trans (dI h40 h46)
     rw [e]
     exact⟨_,⟨rfl,rfl⟩,Sub.mk5 (zg (X:=X.of (z7.bring (z7.mk X.A X.fm X.sm X.S ⟨M,Rf⟩ Ws) X.W.inv X.o page ((ym X.sm page).getD 0)).2) ⟨(z7.Ok.bring (x:=(z7.mk X.A X.fm X.sm X.S ⟨M,Rf⟩ Ws)) ⟨hX.1,hX.2,hn⟩ X.W.inv X.o page ((ym X.sm page).getD 0)).f,(z7.Ok.bring (x:=(z7.mk X.A X.fm X.sm X.S ⟨M,Rf⟩ Ws)) ⟨hX.1,hX.2,hn⟩ X.W.inv X.o page ((ym X.sm page).getD 0)).s⟩) Y⟩
    refine Z 18 J (zO [0,1,3,7,15,31,63,3,131,387,899,3,3971,8191,16383,32767,65535,131071,131071,524287,1048575,2097151] [([0,1,2,3,4,5,6,7,8,9,10,11,12],[6,10,12],some 13),([14,15,16,17,18],[14],some 19),([20,21],[],none)] (by kernel_rfl) ?_)
    refine z4 (ZK 4 J (zj J Y (zj J Y (ye J Y J (ZK 2 J (zj J Y (ye J Y J (ZK 1 J (uW rfl (fun _ h=>ua rfl rfl rfl h) ?_)))))))))
    refine z5 ⟨(y6 J Y J J J (y6 J Y J J J (wV rfl (fun _ h=>ua rfl rfl rfl h) rfl rfl (z3 _ rfl) z6))),?_⟩
    refine Z1 (JU _ _ _ _ _) J Y (zF (z4 (ZK 1 J (qJ (fun h63=> ?_) (fun h63=> ?_)))))
    ·refine ZK 4 J (z5 ⟨(gv J J J (by rw [decide_eq_true h63];rfl) z6),?_⟩)
     refine Z4 (mY _ _ X.W X.o a s i j (z7.mk X.A X.fm X.sm X.S ⟨M,Rf⟩ Ws).fm (z7.mk X.A X.fm X.sm X.S ⟨M,Rf⟩ Ws).s.R (z7.Ok.mk (x:=(z7.mk X.A X.fm X.sm X.S ⟨M,Rf⟩ Ws)) hX.1 hX.2 hn).f (z7.mk X.A X.fm X.sm X.S ⟨M,Rf⟩ Ws).s.M page) J Y Y Y Y (zN (fun h68=> ?_) (fun h68=> ?_))
     ·refine zF (z4 (ZK 2 J (z5 ⟨z6,?_⟩)))
      refine OX 6 J (Z7 (vX _ _ X.W X.o a s i j (z7.mk X.A X.fm X.sm X.S ⟨M,Rf⟩ Ws).A (vJ (z7.mk X.A X.fm X.sm X.S ⟨M,Rf⟩ Ws).fm ⟨(z7.mk X.A X.fm X.sm X.S ⟨M,Rf⟩ Ws).s.M,(z7.mk X.A X.fm X.sm X.S ⟨M,Rf⟩ Ws).s.R⟩ X.o page).2.1 (z7.mk X.A X.fm X.sm X.S ⟨M,Rf⟩ Ws).sm (vJ (z7.mk X.A X.fm X.sm X.S ⟨M,Rf⟩ Ws).fm ⟨(z7.mk X.A X.fm X.sm X.S ⟨M,Rf⟩ Ws).s.M,(z7.mk X.A X.fm X.sm X.S ⟨M,Rf⟩ Ws).s.R⟩ X.o page).2.2.R (jp (s:=⟨(z7.mk X.A X.fm X.sm X.S ⟨M,Rf⟩ Ws).s.M,(z7.mk X.A X.fm X.sm X.S ⟨M,Rf⟩ Ws).s.R⟩) (z7.Ok.mk (x:=(z7.mk X.A X.fm X.sm X.S ⟨M,Rf⟩ Ws)) hX.1 hX.2 hn).f (z7.Ok.mk (x:=(z7.mk X.A X.fm X.sm X.S ⟨M,Rf⟩ Ws)) hX.1 hX.2 hn).n X.o page).1 (z7.Ok.mk (x:=(z7.mk X.A X.fm X.sm X.S ⟨M,Rf⟩ Ws)) hX.1 hX.2 hn).s (vJ (z7.mk X.A X.fm X.sm X.S ⟨M,Rf⟩ Ws).fm ⟨(z7.mk X.A X.fm X.sm X.S ⟨M,Rf⟩ Ws).s.M,(z7.mk X.A X.fm X.sm X.S ⟨M,Rf⟩ Ws).s.R⟩ X.o page).2.2.M (z7.mk X.A X.fm X.sm X.S ⟨M,Rf⟩ Ws).S (by show X.S.tables.length≤900000;omega) page) J Y Y Y Y Y Y Y (Z 6 J (zE J J J ?_)))
      have hr: ¬(y7 X.A page=0∨(true=true∧y7 X.A page≠3)):=by
       rintro (h|⟨h,h2⟩)
       ·exact h23 h
       exact h2 h28
      have e:z7.fix (z7.mk X.A X.fm X.sm X.S ⟨M,Rf⟩ Ws) X.W.inv X.o page true=(0,(z7.part (z7.mk X.A X.fm X.sm X.S ⟨M,Rf⟩ Ws) X.o page).2.tell X.W.inv page):=(uq (x:=(z7.mk X.A X.fm X.sm X.S ⟨M,Rf⟩ Ws)) h19 hr).trans ((Vj h40).trans (md ⟨rfl,h63⟩ h68))
      rw [e]
      exact⟨_,⟨rfl,rfl⟩,Sub.mk5 (zg (X:=X.of ((z7.part (z7.mk X.A X.fm X.sm X.S ⟨M,Rf⟩ Ws) X.o page).2.tell X.W.inv page)) ⟨(jp (s:=⟨(z7.mk X.A X.fm X.sm X.S ⟨M,Rf⟩ Ws).s.M,(z7.mk X.A X.fm X.sm X.S ⟨M,Rf⟩ Ws).s.R⟩) (z7.Ok.mk (x:=(z7.mk X.A X.fm X.sm X.S ⟨M,Rf⟩ Ws)) hX.1 hX.2 hn).f (z7.Ok.mk (x:=(z7.mk X.A X.fm X.sm X.S ⟨M,Rf⟩ Ws)) hX.1 hX.2 hn).n X.o page).1,(z7.Ok.mk (x:=(z7.mk X.A X.fm X.sm X.S ⟨M,Rf⟩ Ws)) hX.1 hX.2 hn).s⟩) Y⟩
     refine zF (z4 (ZK 2 J (z5 ⟨z6,?_⟩)))
     refine OX 6 J (zE J J J ?_)
     have hr: ¬(y7 X.A page=0∨(true=true∧y7 X.A page≠3)):=by
      rintro (h|⟨h,h2⟩)
      ·exact h23 h
      exact h2 h28
     have e:z7.fix (z7.mk X.A X.fm X.sm X.S ⟨M,Rf⟩ Ws) X.W.inv X.o page true=(5,(z7.part (z7.mk X.A X.fm X.sm X.S ⟨M,Rf⟩ Ws) X.o page).2):=(uq (x:=(z7.mk X.A X.fm X.sm X.S ⟨M,Rf⟩ Ws)) h19 hr).trans ((Vj h40).trans (xZ ⟨rfl,h63⟩ h68))
     rw [e]
     exact⟨_,⟨rfl,rfl⟩,Sub.mk5 (zg (X:=X.of (z7.part (z7.mk X.A X.fm X.sm X.S ⟨M,Rf⟩ Ws) X.o page).2) ⟨(jp (s:=⟨(z7.mk X.A X.fm X.sm X.S ⟨M,Rf⟩ Ws).s.M,(z7.mk X.A X.fm X.sm X.S ⟨M,Rf⟩ Ws).s.R⟩) (z7.Ok.mk (x:=(z7.mk X.A X.fm X.sm X.S ⟨M,Rf⟩ Ws)) hX.1 hX.2 hn).f (z7.Ok.mk (x:=(z7.mk X.A X.fm X.sm X.S ⟨M,Rf⟩ Ws)) hX.1 hX.2 hn).n X.o page).1,(z7.Ok.mk (x:=(z7.mk X.A X.fm X.sm X.S ⟨M,Rf⟩ Ws)) hX.1 hX.2 hn).s⟩) Y⟩
    refine ZK 4 J (z5 ⟨(gv J J J (by rw [decide_eq_false h63];rfl) z6),?_⟩)
    refine gW rfl (zF (z4 (ZK 2 J (z5 ⟨z6,?_⟩))))
    refine OX 6 J (Z7 (vX _ _ X.W X.o a s i j (z7.mk X.A X.fm X.sm X.S ⟨M,Rf⟩ Ws).A (z7.mk X.A X.fm X.sm X.S ⟨M,Rf⟩ Ws).fm (z7.mk X.A X.fm X.sm X.S ⟨M,Rf⟩ Ws).sm (z7.mk X.A X.fm X.sm X.S ⟨M,Rf⟩ Ws).s.R (z7.Ok.mk (x:=(z7.mk X.A X.fm X.sm X.S ⟨M,Rf⟩ Ws)) hX.1 hX.2 hn).f (z7.Ok.mk (x:=(z7.mk X.A X.fm X.sm X.S ⟨M,Rf⟩ Ws)) hX.1 hX.2 hn).s (z7.mk X.A X.fm X.sm X.S ⟨M,Rf⟩ Ws).s.M (z7.mk X.A X.fm X.sm X.S ⟨M,Rf⟩ Ws).S (by show X.S.tables.length≤900000;omega) page) J Y Y Y Y Y Y Y (Z 6 J (zE J J J ?_)))
    have hr: ¬(y7 X.A page=0∨(true=true∧y7 X.A page≠3)):=by
     rintro (h|⟨h,h2⟩)
     ·exact h23 h
     exact h2 h28
    have e:z7.fix (z7.mk X.A X.fm X.sm X.S ⟨M,Rf⟩ Ws) X.W.inv X.o page true=(0,z7.tell (z7.mk X.A X.fm X.sm X.S ⟨M,Rf⟩ Ws) X.W.inv page):=(uq (x:=(z7.mk X.A X.fm X.sm X.S ⟨M,Rf⟩ Ws)) h19 hr).trans ((Vj h40).trans (Vr (fun k=>h63 k.2)))
    rw [e]
    exact⟨_,⟨rfl,rfl⟩,Sub.mk5 (zg (X:=X.of (z7.tell (z7.mk X.A X.fm X.sm X.S ⟨M,Rf⟩ Ws) X.W.inv page)) ⟨(z7.Ok.mk (x:=(z7.mk X.A X.fm X.sm X.S ⟨M,Rf⟩ Ws)) hX.1 hX.2 hn).f,(z7.Ok.mk (x:=(z7.mk X.A X.fm X.sm X.S ⟨M,Rf⟩ Ws)) hX.1 hX.2 hn).s⟩) Y⟩
   refine Z 10 J (zE J J J ?_)
   have e:z7.fix (z7.mk X.A X.fm X.sm X.S ⟨M,Rf⟩ Ws) X.W.inv X.o page true=(2,(z7.mk X.A X.fm X.sm X.S ⟨M,Rf⟩ Ws)):=(if_neg (fun k=>k h19)).trans (if_pos (.inr ⟨rfl,h28⟩))
   rw [e]
   exact⟨_,⟨rfl,rfl⟩,Sub.mk5 (zg (X:=X.of (z7.mk X.A X.fm X.sm X.S ⟨M,Rf⟩ Ws)) ⟨hX.1,hX.2⟩) Y⟩
  subst h25
  refine Z 14 J (fa J Y (ld J Y J (Z 1 J (yo rfl (fun _ h=>jh rfl rfl rfl h) ?_))))
  refine Z 3 J (zN (fun h40=> ?_) (fun h40=> ?_))
  ·refine Z 10 J (Z8 (xK _ _ X.W X.o a s i j X.A X.fm X.sm Rf hX.1 hX.2 M X.S (by omega) Ws page ((ym X.sm page).getD 0)) J Y Y Y Y Y Y Y Y (zN (fun h46=> ?_) (fun h46=> ?_)))
   ·refine Z 7 J (zO [0,1,3,7,15,31,63,3,131,387,899,3,3971,8191,16383,32767,65535,131071,131071,524287,1048575,2097151] [([0,1,2,3,4,5,6,7,8,9,10,11,12],[6,10,12],some 13),([14,15,16,17,18],[14],some 19),([20,21],[],none)] (by kernel_rfl) ?_)
    refine z4 (ZK 13 J (z5 ⟨(zx rfl (zx rfl (zx rfl z6))),?_⟩))
    refine gW rfl (zF (z4 (ZK 5 J (z5 ⟨(zx rfl z6),?_⟩))))
    refine gW rfl (zF (z4 (ZK 2 J (z5 ⟨z6,?_⟩))))
    refine OX 6 J (Z7 (vX _ _ X.W X.o a s i j (z7.bring (z7.mk X.A X.fm X.sm X.S ⟨M,Rf⟩ Ws) X.W.inv X.o page ((ym X.sm page).getD 0)).2.A (z7.bring (z7.mk X.A X.fm X.sm X.S ⟨M,Rf⟩ Ws) X.W.inv X.o page ((ym X.sm page).getD 0)).2.fm (z7.bring (z7.mk X.A X.fm X.sm X.S ⟨M,Rf⟩ Ws) X.W.inv X.o page ((ym X.sm page).getD 0)).2.sm (z7.bring (z7.mk X.A X.fm X.sm X.S ⟨M,Rf⟩ Ws) X.W.inv X.o page ((ym X.sm page).getD 0)).2.s.R (z7.Ok.bring (x:=(z7.mk X.A X.fm X.sm X.S ⟨M,Rf⟩ Ws)) ⟨hX.1,hX.2,hn⟩ X.W.inv X.o page ((ym X.sm page).getD 0)).f (z7.Ok.bring (x:=(z7.mk X.A X.fm X.sm X.S ⟨M,Rf⟩ Ws)) ⟨hX.1,hX.2,hn⟩ X.W.inv X.o page ((ym X.sm page).getD 0)).s (z7.bring (z7.mk X.A X.fm X.sm X.S ⟨M,Rf⟩ Ws) X.W.inv X.o page ((ym X.sm page).getD 0)).2.s.M (z7.bring (z7.mk X.A X.fm X.sm X.S ⟨M,Rf⟩ Ws) X.W.inv X.o page ((ym X.sm page).getD 0)).2.S (Nat.le_trans (Wh (z7.mk X.A X.fm X.sm X.S ⟨M,Rf⟩ Ws) X.W.inv X.o page ((ym X.sm page).getD 0)) (by show X.S.tables.length+2≤900000;omega)) page) J Y Y Y Y Y Y Y (Z 6 J (zE J J J ?_)))
    have hr: ¬(y7 X.A page=0∨(false=true∧y7 X.A page≠3)):=by
     rintro (h|⟨h,h2⟩)
     ·exact h23 h
     cases h
    have e:z7.fix (z7.mk X.A X.fm X.sm X.S ⟨M,Rf⟩ Ws) X.W.inv X.o page false=(0,z7.tell (z7.bring (z7.mk X.A X.fm X.sm X.S ⟨M,Rf⟩ Ws) X.W.inv X.o page ((ym X.sm page).getD 0)).2 X.W.inv page):=(uq (x:=(z7.mk X.A X.fm X.sm X.S ⟨M,Rf⟩ Ws)) h19 hr).trans ((Vs h40 h46).trans (Vr (fun k=>by cases k.1)))
    rw [e]
    exact⟨_,⟨rfl,rfl⟩,Sub.mk5 (zg (X:=X.of (z7.tell (z7.bring (z7.mk X.A X.fm X.sm X.S ⟨M,Rf⟩ Ws) X.W.inv X.o page ((ym X.sm page).getD 0)).2 X.W.inv page)) ⟨(z7.Ok.bring (x:=(z7.mk X.A X.fm X.sm X.S ⟨M,Rf⟩ Ws)) ⟨hX.1,hX.2,hn⟩ X.W.inv X.o page ((ym X.sm page).getD 0)).f,(z7.Ok.bring (x:=(z7.mk X.A X.fm X.sm X.S ⟨M,Rf⟩ Ws)) ⟨hX.1,hX.2,hn⟩ X.W.inv X.o page ((ym X.sm page).getD 0)).s⟩) Y⟩
   refine Z 9 J (zE J J J ?_)
   have hr: ¬(y7 X.A page=0∨(false=true∧y7 X.A page≠3)):=by
    rintro (h|⟨h,h2⟩)
    ·exact h23 h
    cases h
   have e:z7.fix (z7.mk X.A X.fm X.sm X.S ⟨M,Rf⟩ Ws) X.W.inv X.o page false=(5,(z7.bring (z7.mk X.A X.fm X.sm X.S ⟨M,Rf⟩ Ws) X.W.inv X.o page ((ym X.sm page).getD 0)).2):=(uq (x:=(z7.mk X.A X.fm X.sm X.S ⟨M,Rf⟩ Ws)) h19 hr).trans (dI h40 h46)
   rw [e]
   exact⟨_,⟨rfl,rfl⟩,Sub.mk5 (zg (X:=X.of (z7.bring (z7.mk X.A X.fm X.sm X.S ⟨M,Rf⟩ Ws) X.W.inv X.o page ((ym X.sm page).getD 0)).2) ⟨(z7.Ok.bring (x:=(z7.mk X.A X.fm X.sm X.S ⟨M,Rf⟩ Ws)) ⟨hX.1,hX.2,hn⟩ X.W.inv X.o page ((ym X.sm page).getD 0)).f,(z7.Ok.bring (x:=(z7.mk X.A X.fm X.sm X.S ⟨M,Rf⟩ Ws)) ⟨hX.1,hX.2,hn⟩ X.W.inv X.o page ((ym X.sm page).getD 0)).s⟩) Y⟩
  refine Z 18 J (zO [0,1,3,7,15,31,63,3,131,387,899,3,3971,8191,16383,32767,65535,131071,131071,524287,1048575,2097151] [([0,1,2,3,4,5,6,7,8,9,10,11,12],[6,10,12],some 13),([14,15,16,17,18],[14],some 19),([20,21],[],none)] (by kernel_rfl) ?_)
  refine z4 (ZK 13 J (z5 ⟨(zx rfl (zx rfl (zx rfl z6))),?_⟩))
  refine gW rfl (zF (z4 (ZK 5 J (z5 ⟨(zx rfl z6),?_⟩))))
  refine gW rfl (zF (z4 (ZK 2 J (z5 ⟨z6,?_⟩))))
  refine OX 6 J (Z7 (vX _ _ X.W X.o a s i j (z7.mk X.A X.fm X.sm X.S ⟨M,Rf⟩ Ws).A (z7.mk X.A X.fm X.sm X.S ⟨M,Rf⟩ Ws).fm (z7.mk X.A X.fm X.sm X.S ⟨M,Rf⟩ Ws).sm (z7.mk X.A X.fm X.sm X.S ⟨M,Rf⟩ Ws).s.R (z7.Ok.mk (x:=(z7.mk X.A X.fm X.sm X.S ⟨M,Rf⟩ Ws)) hX.1 hX.2 hn).f (z7.Ok.mk (x:=(z7.mk X.A X.fm X.sm X.S ⟨M,Rf⟩ Ws)) hX.1 hX.2 hn).s (z7.mk X.A X.fm X.sm X.S ⟨M,Rf⟩ Ws).s.M (z7.mk X.A X.fm X.sm X.S ⟨M,Rf⟩ Ws).S (by show X.S.tables.length≤900000;omega) page) J Y Y Y Y Y Y Y (Z 6 J (zE J J J ?_)))
  have hr: ¬(y7 X.A page=0∨(false=true∧y7 X.A page≠3)):=by
   rintro (h|⟨h,h2⟩)
   ·exact h23 h
   cases h
  have e:z7.fix (z7.mk X.A X.fm X.sm X.S ⟨M,Rf⟩ Ws) X.W.inv X.o page false=(0,z7.tell (z7.mk X.A X.fm X.sm X.S ⟨M,Rf⟩ Ws) X.W.inv page):=(uq (x:=(z7.mk X.A X.fm X.sm X.S ⟨M,Rf⟩ Ws)) h19 hr).trans ((Vj h40).trans (Vr (fun k=>by cases k.1)))
  rw [e]
  exact⟨_,⟨rfl,rfl⟩,Sub.mk5 (zg (X:=X.of (z7.tell (z7.mk X.A X.fm X.sm X.S ⟨M,Rf⟩ Ws) X.W.inv page)) ⟨(z7.Ok.mk (x:=(z7.mk X.A X.fm X.sm X.S ⟨M,Rf⟩ Ws)) hX.1 hX.2 hn).f,(z7.Ok.mk (x:=(z7.mk X.A X.fm X.sm X.S ⟨M,Rf⟩ Ws)) hX.1 hX.2 hn).s⟩) Y⟩
 refine Z 15 J (zE J J J ?_)
 have e:z7.fix (z7.mk X.A X.fm X.sm X.S ⟨M,Rf⟩ Ws) X.W.inv X.o page write=(1,(z7.mk X.A X.fm X.sm X.S ⟨M,Rf⟩ Ws)):=if_pos h19
 rw [e]
 exact⟨_,⟨rfl,rfl⟩,Sub.mk5 (zg (X:=X.of (z7.mk X.A X.fm X.sm X.S ⟨M,Rf⟩ Ws)) ⟨hX.1,hX.2⟩) Y⟩
theorem te {f n:Nat} (h:gZ [f,n]=true):f≤4611686018427387904∧n≤4611686018427387904:=by
 simp [gZ]at h;exact h
theorem V8 {f n r:Nat} (h:gZ [f,n,r]=true):f≤4611686018427387904∧n≤4611686018427387904∧r≤4611686018427387904:=by
 simp [gZ]at h;exact h
theorem bc {A:Nat→Int} {f n:Int} (h:(yw A f n).1=0):qA f n:=by
 unfold yw at h
 by_cases hw:qA f n
 ·exact hw
 rw [if_pos hw]at h;cases h
theorem VL {A:Nat→Int} {f n r:Int} (h:(y4 A f n r).1=0):qA f n:=by
 unfold y4 at h
 by_cases hw:qA f n
 ·exact hw
 rw [if_pos (.inl hw)]at h;cases h
theorem QH {f n:Int} (h:qA f n):(zM f n).length≤256:=by
 have h3:=h.1;have h2:=h.2.2.2
 unfold zM;simp;omega
abbrev z7.less (inv:Bool) (x:z7) (page:Int):z7:=(x.loose page).tell inv page
def z7.unmap (x:z7) (inv:Bool) (f n:Nat):Int×z7:=if gZ [f,n]=false then(1,x)else if(yw x.A f n).1≠0 then(1,{ x with A:=(yw x.A f n).2 })else(0,(zM f n).foldl (z7.less inv) { x with A:=(yw x.A f n).2 })
def z7.protect (x:z7) (inv:Bool) (f n r:Nat):Int×z7:=if gZ [f,n,r]=false then(1,x)else if(y4 x.A f n r).1≠0 then(1,{ x with A:=(y4 x.A f n r).2 })else(0,(zM f n).foldl (fun y p=>y.tell inv p) { x with A:=(y4 x.A f n r).2 })
structure z7.Fine (x y:z7) (k:Nat):Prop where
 f:jQ y.fm
 s:jQ y.sm
 t:y.S.tables.length≤x.S.tables.length+2*k
 n:y.s.M.n=x.s.M.n
theorem z7.Fine.tell {x y:z7} {k:Nat} (h:z7.Fine x y k) (inv:Bool) (page:Int):z7.Fine x (y.tell inv page) (k+1):=⟨h.f,h.s,by
 have h1:=(jb y.s y.S page (wm y.A y.fm y.sm y.s.R inv page)).1
 have h2:=h.t
 show(PM.setPage _ _ _ _).2.tables.length≤_;omega,by show(PM.setPage _ _ _ _).1.M.n=_;rw [Gu];exact h.n⟩
theorem z7.Fine.loose {x y:z7} {k:Nat} (h:z7.Fine x y k) (page:Int):z7.Fine x (y.loose page) k:=by
 have h1:=h.f;have h2:=h.s
 refine⟨?_,?_,h.t,?_⟩
 ·show jQ (GJ.loose _ _).fm
  unfold GJ.loose;split
  ·exact h1
  exact h1.del page
 ·show jQ (GJ.loose _ _).sm
  unfold GJ.loose;split
  ·exact h2.del page
  exact h2
 show(GJ.loose _ _).s.M.n=_
 unfold GJ.loose;split
 ·exact h.n
 show(PM.give _ _).M.n=_;rw [PM.give_n];exact h.n
theorem c4 (R:List SP) (v:Nat) (X:jX) (M:zA) (Rf:List (Int×Int)) (Ws:jt) (hT:X.S.tables.length≤500000) (f n:Nat) (hfm:f≤18446744073709551615) (hnm:n≤18446744073709551615):zy 182 [vp v 0,vu f,vu n] (ent Zs v X::ent zX X.W.p ⟨X.W.m,Rf⟩::ent zQ X.W.m M::ent y5 X.W.sw Ws::R) fun w L=>w=vi (z7.unmap (X.st ⟨M,Rf⟩ Ws) X.W.inv f n).1∧L=ent Zs v (X.of (z7.unmap (X.st ⟨M,Rf⟩ Ws) X.W.inv f n).2)::ent zX X.W.p ⟨X.W.m,(z7.unmap (X.st ⟨M,Rf⟩ Ws) X.W.inv f n).2.s.R⟩::ent zQ X.W.m (z7.unmap (X.st ⟨M,Rf⟩ Ws) X.W.inv f n).2.s.M::ent y5 X.W.sw (z7.unmap (X.st ⟨M,Rf⟩ Ws) X.W.inv f n).2.w::R:=by
 refine zS (uR v X) fun y hX=> ?_
 obtain⟨a,s,i,b⟩:=y
 dsimp only [fj,List.cons_append,List.nil_append]
 refine SW.intro rfl Tryz.func182 rfl ?_
 refine O0 8 J (zT (cs:= [_,_]) rfl rfl rfl (by decide) rfl fun i14=> ?_)
 refine zR (Sub.one (K:=z8) (a:=i14) (x:= [vu f,vu n]) (K2:=zP rA 1) (a2:= .slice (some (i14,0)) 2 (some 2) 1) (x2:= [f,n]) fun g hg=>Zf (en:=rA) (es:=1) (xs:= [f,n]) (fun _=>rfl) (by decide) g hg) ?_
 refine yG (Jw _ _ [f,n] (by intro x hx;simp at hx;rcases hx with rfl|rfl;exact hfm;exact hnm) (by show 2≤1000;decide)) rfl (fun _=>rfl) ?_
 rintro _ _ ⟨u15,rfl,rfl⟩
 refine Z 3 J (zN (fun h17=> ?_) (fun h17=> ?_))
 ·rw [show br [f,n]= [(f:Int),(n:Int)]from if_pos h17]
  have hb:=te h17
  refine Z 5 J (zO [0,1,3,7,15,31,63,7,135,391,7,1031,3079,8191,16383,32767] [([0,1,2,3,4,5,6,7,8,9,10,11,12],[6,9,12],some 13),([14,15],[14],none)] (by kernel_rfl) ?_)
  refine z4 (ZK 5 J (zj J Y (ye J Y J (ZK 1 J (uW rfl (fun _ h=>yM rfl rfl rfl (by decide) (by show(0:Int)<(2:Nat);decide) h) ?_)))))
  refine Wm 0 J Y J (by rfl) J (ZK 1 J (uW rfl (fun _ h=>yM rfl rfl rfl (by decide) (by show(1:Int)<(2:Nat);decide) h) ?_))
  refine Wm 0 J Y J (by rfl) J (z5 ⟨(y6 J Y J J J (wV rfl (fun _ h=>qo (j:=0) rfl rfl rfl (by rfl) rfl h) rfl rfl (z3 _ rfl) (wV rfl (fun _ h=>qo (j:=0) rfl rfl rfl (by rfl) rfl h) rfl rfl (z3 _ rfl) z6))),?_⟩)
  refine Z1 (Ch _ _ X.A f n (by omega)) J Y (zF (z4 (ZK 1 J (qJ (fun h32=> ?_) (fun h32=> ?_)))))
  ·refine ZK 1 J (z5 ⟨(gv J J J (by rw [decide_eq_true h32];rfl) z6),?_⟩)
   refine OX 6 J (zE J J J ?_)
   have e:z7.unmap (X.st ⟨M,Rf⟩ Ws) X.W.inv f n=(1,(z7.mk (yw X.A f n).2 X.fm X.sm X.S ⟨M,Rf⟩ Ws)):=(if_neg (by rw [h17];nofun)).trans (if_pos h32)
   rw [e]
   exact⟨_,⟨rfl,rfl⟩,Sub.mk5 (zg (X:=⟨X.W,X.o,(yw X.A f n).2,(z7.mk (yw X.A f n).2 X.fm X.sm X.S ⟨M,Rf⟩ Ws).fm,(z7.mk (yw X.A f n).2 X.fm X.sm X.S ⟨M,Rf⟩ Ws).sm,(z7.mk (yw X.A f n).2 X.fm X.sm X.S ⟨M,Rf⟩ Ws).S⟩) ⟨hX.1,hX.2⟩) Y⟩
  have hw:=bc (Decidable.not_not.1 h32)
  have hpl:=QH hw
  obtain⟨hw1,hw2,hw3,hw4⟩:=hw
  refine ZK 1 J (z5 ⟨(gv J J J (by rw [decide_eq_false h32];rfl) z6),?_⟩)
  refine OX 4 J (zO [0,1,3,0,8,24,63,127,0] [([0,1,2,3,4,5,8],[2,5],some 6),([7],[7],none)] (by kernel_rfl) ?_)
  refine z4 (ZK 1 J (uW rfl (fun _ h=>yM rfl rfl rfl (by decide) (by show(0:Int)<(2:Nat);decide) h) ?_))
  refine Wm 0 J Y J (by rfl) J (ZK 1 J (uW rfl (fun _ h=>yM rfl rfl rfl (by decide) (by show(1:Int)<(2:Nat);decide) h) ?_))
  refine Wm 0 J Y J (by rfl) J (ZK 1 J (z5 ⟨(wV rfl (fun _ h=>qo (j:=0) rfl rfl rfl (by rfl) rfl h) rfl rfl (z3 _ rfl) (wV rfl (fun _ h=>qo (j:=0) rfl rfl rfl (by rfl) rfl h) rfl rfl (z3 _ rfl) z6)),?_⟩))
  refine o_call (G9 _ f n (by omega) (by omega)) rfl (fun _=>rfl) ?_
  rintro u40 _ rfl
  refine zF (z4 (uW rfl (fun _ h=>y0 rfl rfl rfl rfl rfl h) ?_))
  refine z5 ⟨(wV rfl (fun _ h=>y0 rfl rfl rfl rfl rfl h) rfl rfl (z3 _ rfl) z6),?_⟩
  refine OX 1 J (zl (fun j T L=> ∃(c:Nat),(c≤(zM f n).length)∧(z7.Fine (z7.mk (yw X.A f n).2 X.fm X.sm X.S ⟨M,Rf⟩ Ws) (((zM f n).take c).foldl (z7.less X.W.inv) (z7.mk (yw X.A f n).2 X.fm X.sm X.S ⟨M,Rf⟩ Ws)) c)∧j=(zM f n).length-c∧T.len=4∧Tm.get 0 T=some (vp v 0)∧Tm.get 40 T=some (u40)∧Tm.get 41 T=some (vi ((zM f n).length:Nat))∧Tm.get 42 T=some (vi (c:Nat))∧Sub L (ent (zP yK 1) u40 (zM f n)::ent z8 v (J1 X.W X.o a s i b)::ent qY a (((zM f n).take c).foldl (z7.less X.W.inv) (z7.mk (yw X.A f n).2 X.fm X.sm X.S ⟨M,Rf⟩ Ws)).A::ent gP i (((zM f n).take c).foldl (z7.less X.W.inv) (z7.mk (yw X.A f n).2 X.fm X.sm X.S ⟨M,Rf⟩ Ws)).fm::ent gP b (((zM f n).take c).foldl (z7.less X.W.inv) (z7.mk (yw X.A f n).2 X.fm X.sm X.S ⟨M,Rf⟩ Ws)).sm::ent zX X.W.p ⟨X.W.m,(((zM f n).take c).foldl (z7.less X.W.inv) (z7.mk (yw X.A f n).2 X.fm X.sm X.S ⟨M,Rf⟩ Ws)).s.R⟩::ent qs s ⟨X.W.m,X.W.p,(((zM f n).take c).foldl (z7.less X.W.inv) (z7.mk (yw X.A f n).2 X.fm X.sm X.S ⟨M,Rf⟩ Ws)).S⟩::ent zQ X.W.m (((zM f n).take c).foldl (z7.less X.W.inv) (z7.mk (yw X.A f n).2 X.fm X.sm X.S ⟨M,Rf⟩ Ws)).s.M::ent y5 X.W.sw (((zM f n).take c).foldl (z7.less X.W.inv) (z7.mk (yw X.A f n).2 X.fm X.sm X.S ⟨M,Rf⟩ Ws)).w::R)) ((zM f n).length) ⟨0,by omega,⟨hX.1,hX.2,Nat.le_refl _,rfl⟩,by omega,rfl,rfl,rfl,rfl,rfl,(by rw [List.take_zero,List.foldl_nil];exact Y)⟩ ?_)
  rintro j T L0 ⟨c,hc,hF,rfl,hl,g0,g40,g41,g42,hsb⟩
  obtain⟨tg,rfl⟩:=W7 hl g0 g40 g41 g42
  clear hl g0 g40 g41 g42
  refine zu hsb ?_
  clear hsb L0
  refine O0 3 J (z0 (fun h43=> ?_) (fun h43=> ?_))
  ·refine Z 8 J ?_
   obtain⟨z,hz⟩: ∃z,(zM f n)[c]? =some z:=⟨(zM f n)[c]'(by omega),List.getElem?_eq_getElem (by omega)⟩
   refine yo rfl (fun _ h=>yM rfl rfl rfl (by omega) (by omega) h) ?_
   refine lE 0 J Y J hz J (Z 6 J (Z6 (Uf _ _ X.W X.o a s i b (((zM f n).take c).foldl (z7.less X.W.inv) (z7.mk (yw X.A f n).2 X.fm X.sm X.S ⟨M,Rf⟩ Ws)).fm (((zM f n).take c).foldl (z7.less X.W.inv) (z7.mk (yw X.A f n).2 X.fm X.sm X.S ⟨M,Rf⟩ Ws)).sm (((zM f n).take c).foldl (z7.less X.W.inv) (z7.mk (yw X.A f n).2 X.fm X.sm X.S ⟨M,Rf⟩ Ws)).s.R hF.f hF.s (((zM f n).take c).foldl (z7.less X.W.inv) (z7.mk (yw X.A f n).2 X.fm X.sm X.S ⟨M,Rf⟩ Ws)).s.M (((zM f n).take c).foldl (z7.less X.W.inv) (z7.mk (yw X.A f n).2 X.fm X.sm X.S ⟨M,Rf⟩ Ws)).w z) J Y Y Y Y Y Y (Z 4 J (Z7 (vX _ _ X.W X.o a s i b (((zM f n).take c).foldl (z7.less X.W.inv) (z7.mk (yw X.A f n).2 X.fm X.sm X.S ⟨M,Rf⟩ Ws)).A ((((zM f n).take c).foldl (z7.less X.W.inv) (z7.mk (yw X.A f n).2 X.fm X.sm X.S ⟨M,Rf⟩ Ws)).loose z).fm ((((zM f n).take c).foldl (z7.less X.W.inv) (z7.mk (yw X.A f n).2 X.fm X.sm X.S ⟨M,Rf⟩ Ws)).loose z).sm ((((zM f n).take c).foldl (z7.less X.W.inv) (z7.mk (yw X.A f n).2 X.fm X.sm X.S ⟨M,Rf⟩ Ws)).loose z).s.R (hF.loose z).f (hF.loose z).s ((((zM f n).take c).foldl (z7.less X.W.inv) (z7.mk (yw X.A f n).2 X.fm X.sm X.S ⟨M,Rf⟩ Ws)).loose z).s.M (((zM f n).take c).foldl (z7.less X.W.inv) (z7.mk (yw X.A f n).2 X.fm X.sm X.S ⟨M,Rf⟩ Ws)).S (by have:=hF.t;show(((zM f n).take c).foldl (z7.less X.W.inv) (z7.mk (yw X.A f n).2 X.fm X.sm X.S ⟨M,Rf⟩ Ws)).S.tables.length≤_;simp only at this;omega) z) J Y Y Y Y Y Y Y (Z 2 J (ad J (Z 2 J ?_)))))))
   have hK:=qK (z7.less X.W.inv) (z7.mk (yw X.A f n).2 X.fm X.sm X.S ⟨M,Rf⟩ Ws) (zM f n) c _ hz
   exact Or.inl ⟨rfl,_,by omega,c+1,by omega,by rw [hK];exact(hF.loose z).tell X.W.inv z,rfl,rfl,rfl,rfl,rfl,rfl,(by rw [hK];exact Y)⟩
  refine Z 4 J (Or.inr ⟨nofun,?_⟩)
  refine OX 5 J (zE J J J ?_)
  have hcn:c=(zM f n).length:=by omega
  subst hcn
  rw [List.take_length]at hF ⊢
  have e:z7.unmap (X.st ⟨M,Rf⟩ Ws) X.W.inv f n=(0,(zM f n).foldl (z7.less X.W.inv) (z7.mk (yw X.A f n).2 X.fm X.sm X.S ⟨M,Rf⟩ Ws)):=(if_neg (by rw [h17];nofun)).trans (if_neg h32)
  rw [e]
  refine⟨_,⟨rfl,rfl⟩,?_⟩
  exact Sub.mk5 (zg (X:=X.of ((zM f n).foldl (z7.less X.W.inv) (z7.mk (yw X.A f n).2 X.fm X.sm X.S ⟨M,Rf⟩ Ws))) ⟨hF.f,hF.s⟩) Y
 refine Z 5 J (zO [0,1,3,7,15,31,63,7,135,391,7,1031,3079,8191,16383,32767] [([0,1,2,3,4,5,6,7,8,9,10,11,12],[6,9,12],some 13),([14,15],[14],none)] (by kernel_rfl) ?_)
 refine z4 (ZK 13 J (z5 ⟨(zx rfl (zx rfl (zx rfl z6))),?_⟩))
 refine gW rfl (zF (z4 (ZK 2 J (z5 ⟨(zx rfl z6),?_⟩))))
 refine OX 6 J (zE J J J ?_)
 have e:z7.unmap (X.st ⟨M,Rf⟩ Ws) X.W.inv f n=(1,(z7.mk X.A X.fm X.sm X.S ⟨M,Rf⟩ Ws)):=if_pos h17
 rw [e]
 exact⟨_,⟨rfl,rfl⟩,Sub.mk5 (zg (X:=⟨X.W,X.o,X.A,(z7.mk X.A X.fm X.sm X.S ⟨M,Rf⟩ Ws).fm,(z7.mk X.A X.fm X.sm X.S ⟨M,Rf⟩ Ws).sm,(z7.mk X.A X.fm X.sm X.S ⟨M,Rf⟩ Ws).S⟩) ⟨hX.1,hX.2⟩) Y⟩
theorem dm (R:List SP) (v:Nat) (X:jX) (M:zA) (Rf:List (Int×Int)) (Ws:jt) (hT:X.S.tables.length≤500000) (f n r:Nat) (hfm:f≤18446744073709551615) (hnm:n≤18446744073709551615) (hrm:r≤18446744073709551615):zy 183 [vp v 0,vu f,vu n,vu r] (ent Zs v X::ent zX X.W.p ⟨X.W.m,Rf⟩::ent zQ X.W.m M::ent y5 X.W.sw Ws::R) fun w L=>w=vi (z7.protect (X.st ⟨M,Rf⟩ Ws) X.W.inv f n r).1∧L=ent Zs v (X.of (z7.protect (X.st ⟨M,Rf⟩ Ws) X.W.inv f n r).2)::ent zX X.W.p ⟨X.W.m,(z7.protect (X.st ⟨M,Rf⟩ Ws) X.W.inv f n r).2.s.R⟩::ent zQ X.W.m (z7.protect (X.st ⟨M,Rf⟩ Ws) X.W.inv f n r).2.s.M::ent y5 X.W.sw (z7.protect (X.st ⟨M,Rf⟩ Ws) X.W.inv f n r).2.w::R:=by
 refine zS (uR v X) fun y hX=> ?_
 obtain⟨a,s,i,b⟩:=y
 dsimp only [fj,List.cons_append,List.nil_append]
 refine SW.intro rfl Tryz.func183 rfl ?_
 refine O0 9 J (zT (cs:= [_,_,_]) rfl rfl rfl (by decide) rfl fun i17=> ?_)
 refine zR (Sub.one (K:=z8) (a:=i17) (x:= [vu f,vu n,vu r]) (K2:=zP rA 1) (a2:= .slice (some (i17,0)) 3 (some 3) 1) (x2:= [f,n,r]) fun g hg=>Zf (en:=rA) (es:=1) (xs:= [f,n,r]) (fun _=>rfl) (by decide) g hg) ?_
 refine yG (Jw _ _ [f,n,r] (by intro x hx;simp at hx;rcases hx with rfl|rfl|rfl;exact hfm;exact hnm;exact hrm) (by show 3≤1000;decide)) rfl (fun _=>rfl) ?_
 rintro _ _ ⟨u18,rfl,rfl⟩
 refine Z 3 J (zN (fun h20=> ?_) (fun h20=> ?_))
 ·rw [show br [f,n,r]= [(f:Int),(n:Int),(r:Int)]from if_pos h20]
  have hb:=V8 h20
  refine Z 5 J (zO [0,1,3,7,15,31,63,7,135,391,7,1031,3079,7,8199,24583,65535,131071,262143] [([0,1,2,3,4,5,6,7,8,9,10,11,12,13,14,15],[6,9,12,15],some 16),([17,18],[17],none)] (by kernel_rfl) ?_)
  refine z4 (ZK 5 J (zj J Y (ye J Y J (ZK 1 J (uW rfl (fun _ h=>yM rfl rfl rfl (by decide) (by show(0:Int)<(3:Nat);decide) h) ?_)))))
  refine Wm 0 J Y J (by rfl) J (ZK 1 J (uW rfl (fun _ h=>yM rfl rfl rfl (by decide) (by show(1:Int)<(3:Nat);decide) h) ?_))
  refine Wm 0 J Y J (by rfl) J (ZK 1 J (uW rfl (fun _ h=>yM rfl rfl rfl (by decide) (by show(2:Int)<(3:Nat);decide) h) ?_))
  refine Wm 0 J Y J (by rfl) J (z5 ⟨(y6 J Y J J J (wV rfl (fun _ h=>qo (j:=0) rfl rfl rfl (by rfl) rfl h) rfl rfl (z3 _ rfl) (wV rfl (fun _ h=>qo (j:=0) rfl rfl rfl (by rfl) rfl h) rfl rfl (z3 _ rfl) (wV rfl (fun _ h=>qo (j:=0) rfl rfl rfl (by rfl) rfl h) rfl rfl (z3 _ rfl) z6)))),?_⟩)
  refine Z1 (rI _ _ X.A f n r (by omega)) J Y (zF (z4 (ZK 1 J (qJ (fun h38=> ?_) (fun h38=> ?_)))))
  ·refine ZK 1 J (z5 ⟨(gv J J J (by rw [decide_eq_true h38];rfl) z6),?_⟩)
   refine OX 6 J (zE J J J ?_)
   have e:z7.protect (X.st ⟨M,Rf⟩ Ws) X.W.inv f n r=(1,(z7.mk (y4 X.A f n r).2 X.fm X.sm X.S ⟨M,Rf⟩ Ws)):=(if_neg (by rw [h20];nofun)).trans (if_pos h38)
   rw [e]
   exact⟨_,⟨rfl,rfl⟩,Sub.mk5 (zg (X:=⟨X.W,X.o,(y4 X.A f n r).2,(z7.mk (y4 X.A f n r).2 X.fm X.sm X.S ⟨M,Rf⟩ Ws).fm,(z7.mk (y4 X.A f n r).2 X.fm X.sm X.S ⟨M,Rf⟩ Ws).sm,(z7.mk (y4 X.A f n r).2 X.fm X.sm X.S ⟨M,Rf⟩ Ws).S⟩) ⟨hX.1,hX.2⟩) Y⟩
  have hw:=VL (Decidable.not_not.1 h38)
  have hpl:=QH hw
  obtain⟨hw1,hw2,hw3,hw4⟩:=hw
  refine ZK 1 J (z5 ⟨(gv J J J (by rw [decide_eq_false h38];rfl) z6),?_⟩)
  refine OX 4 J (zO [0,1,3,0,8,24,63,127,0] [([0,1,2,3,4,5,8],[2,5],some 6),([7],[7],none)] (by kernel_rfl) ?_)
  refine z4 (ZK 1 J (uW rfl (fun _ h=>yM rfl rfl rfl (by decide) (by show(0:Int)<(3:Nat);decide) h) ?_))
  refine Wm 0 J Y J (by rfl) J (ZK 1 J (uW rfl (fun _ h=>yM rfl rfl rfl (by decide) (by show(1:Int)<(3:Nat);decide) h) ?_))
  refine Wm 0 J Y J (by rfl) J (ZK 1 J (z5 ⟨(wV rfl (fun _ h=>qo (j:=0) rfl rfl rfl (by rfl) rfl h) rfl rfl (z3 _ rfl) (wV rfl (fun _ h=>qo (j:=0) rfl rfl rfl (by rfl) rfl h) rfl rfl (z3 _ rfl) z6)),?_⟩))
  refine o_call (G9 _ f n (by omega) (by omega)) rfl (fun _=>rfl) ?_
  rintro u46 _ rfl
  refine zF (z4 (uW rfl (fun _ h=>y0 rfl rfl rfl rfl rfl h) ?_))
  refine z5 ⟨(wV rfl (fun _ h=>y0 rfl rfl rfl rfl rfl h) rfl rfl (z3 _ rfl) z6),?_⟩
  refine OX 1 J (zl (fun j T L=> ∃(c:Nat),(c≤(zM f n).length)∧(z7.Fine (z7.mk (y4 X.A f n r).2 X.fm X.sm X.S ⟨M,Rf⟩ Ws) (((zM f n).take c).foldl (fun y p=>z7.tell y X.W.inv p) (z7.mk (y4 X.A f n r).2 X.fm X.sm X.S ⟨M,Rf⟩ Ws)) c)∧j=(zM f n).length-c∧T.len=4∧Tm.get 0 T=some (vp v 0)∧Tm.get 46 T=some (u46)∧Tm.get 47 T=some (vi ((zM f n).length:Nat))∧Tm.get 48 T=some (vi (c:Nat))∧Sub L (ent (zP yK 1) u46 (zM f n)::ent z8 v (J1 X.W X.o a s i b)::ent qY a (((zM f n).take c).foldl (fun y p=>z7.tell y X.W.inv p) (z7.mk (y4 X.A f n r).2 X.fm X.sm X.S ⟨M,Rf⟩ Ws)).A::ent gP i (((zM f n).take c).foldl (fun y p=>z7.tell y X.W.inv p) (z7.mk (y4 X.A f n r).2 X.fm X.sm X.S ⟨M,Rf⟩ Ws)).fm::ent gP b (((zM f n).take c).foldl (fun y p=>z7.tell y X.W.inv p) (z7.mk (y4 X.A f n r).2 X.fm X.sm X.S ⟨M,Rf⟩ Ws)).sm::ent zX X.W.p ⟨X.W.m,(((zM f n).take c).foldl (fun y p=>z7.tell y X.W.inv p) (z7.mk (y4 X.A f n r).2 X.fm X.sm X.S ⟨M,Rf⟩ Ws)).s.R⟩::ent qs s ⟨X.W.m,X.W.p,(((zM f n).take c).foldl (fun y p=>z7.tell y X.W.inv p) (z7.mk (y4 X.A f n r).2 X.fm X.sm X.S ⟨M,Rf⟩ Ws)).S⟩::ent zQ X.W.m (((zM f n).take c).foldl (fun y p=>z7.tell y X.W.inv p) (z7.mk (y4 X.A f n r).2 X.fm X.sm X.S ⟨M,Rf⟩ Ws)).s.M::ent y5 X.W.sw (((zM f n).take c).foldl (fun y p=>z7.tell y X.W.inv p) (z7.mk (y4 X.A f n r).2 X.fm X.sm X.S ⟨M,Rf⟩ Ws)).w::R)) ((zM f n).length) ⟨0,by omega,⟨hX.1,hX.2,Nat.le_refl _,rfl⟩,by omega,rfl,rfl,rfl,rfl,rfl,(by rw [List.take_zero,List.foldl_nil];exact Y)⟩ ?_)
  rintro j T L0 ⟨c,hc,hF,rfl,hl,g0,g46,g47,g48,hsb⟩
  obtain⟨tg,rfl⟩:=W7 hl g0 g46 g47 g48
  clear hl g0 g46 g47 g48
  refine zu hsb ?_
  clear hsb L0
  refine O0 3 J (z0 (fun h49=> ?_) (fun h49=> ?_))
  ·refine Z 8 J ?_
   obtain⟨z,hz⟩: ∃z,(zM f n)[c]? =some z:=⟨(zM f n)[c]'(by omega),List.getElem?_eq_getElem (by omega)⟩
   refine yo rfl (fun _ h=>yM rfl rfl rfl (by omega) (by omega) h) ?_
   refine lE 0 J Y J hz J (Z 5 J (Z7 (vX _ _ X.W X.o a s i b (((zM f n).take c).foldl (fun y p=>z7.tell y X.W.inv p) (z7.mk (y4 X.A f n r).2 X.fm X.sm X.S ⟨M,Rf⟩ Ws)).A (((zM f n).take c).foldl (fun y p=>z7.tell y X.W.inv p) (z7.mk (y4 X.A f n r).2 X.fm X.sm X.S ⟨M,Rf⟩ Ws)).fm (((zM f n).take c).foldl (fun y p=>z7.tell y X.W.inv p) (z7.mk (y4 X.A f n r).2 X.fm X.sm X.S ⟨M,Rf⟩ Ws)).sm (((zM f n).take c).foldl (fun y p=>z7.tell y X.W.inv p) (z7.mk (y4 X.A f n r).2 X.fm X.sm X.S ⟨M,Rf⟩ Ws)).s.R hF.f hF.s (((zM f n).take c).foldl (fun y p=>z7.tell y X.W.inv p) (z7.mk (y4 X.A f n r).2 X.fm X.sm X.S ⟨M,Rf⟩ Ws)).s.M (((zM f n).take c).foldl (fun y p=>z7.tell y X.W.inv p) (z7.mk (y4 X.A f n r).2 X.fm X.sm X.S ⟨M,Rf⟩ Ws)).S (by have:=hF.t;simp only at this;omega) z) J Y Y Y Y Y Y Y (Z 2 J (ad J (Z 2 J ?_)))))
   have hK:=qK (fun y p=>z7.tell y X.W.inv p) (z7.mk (y4 X.A f n r).2 X.fm X.sm X.S ⟨M,Rf⟩ Ws) (zM f n) c _ hz
   exact Or.inl ⟨rfl,_,by omega,c+1,by omega,by rw [hK];exact hF.tell X.W.inv z,rfl,rfl,rfl,rfl,rfl,rfl,(by rw [hK];exact Y)⟩
  refine Z 4 J (Or.inr ⟨nofun,?_⟩)
  refine OX 5 J (zE J J J ?_)
  have hcn:c=(zM f n).length:=by omega
  subst hcn
  rw [List.take_length]at hF ⊢
  have e:z7.protect (X.st ⟨M,Rf⟩ Ws) X.W.inv f n r=(0,(zM f n).foldl (fun y p=>z7.tell y X.W.inv p) (z7.mk (y4 X.A f n r).2 X.fm X.sm X.S ⟨M,Rf⟩ Ws)):=(if_neg (by rw [h20];nofun)).trans (if_neg h38)
  rw [e]
  refine⟨_,⟨rfl,rfl⟩,?_⟩
  exact Sub.mk5 (zg (X:=X.of ((zM f n).foldl (fun y p=>z7.tell y X.W.inv p) (z7.mk (y4 X.A f n r).2 X.fm X.sm X.S ⟨M,Rf⟩ Ws))) ⟨hF.f,hF.s⟩) Y
 refine Z 5 J (zO [0,1,3,7,15,31,63,7,135,391,7,1031,3079,7,8199,24583,65535,131071,262143] [([0,1,2,3,4,5,6,7,8,9,10,11,12,13,14,15],[6,9,12,15],some 16),([17,18],[17],none)] (by kernel_rfl) ?_)
 refine z4 (ZK 16 J (z5 ⟨(zx rfl (zx rfl (zx rfl (zx rfl z6)))),?_⟩))
 refine gW rfl (zF (z4 (ZK 2 J (z5 ⟨(zx rfl z6),?_⟩))))
 refine OX 6 J (zE J J J ?_)
 have e:z7.protect (X.st ⟨M,Rf⟩ Ws) X.W.inv f n r=(1,(z7.mk X.A X.fm X.sm X.S ⟨M,Rf⟩ Ws)):=if_pos h20
 rw [e]
 exact⟨_,⟨rfl,rfl⟩,Sub.mk5 (zg (X:=⟨X.W,X.o,X.A,(z7.mk X.A X.fm X.sm X.S ⟨M,Rf⟩ Ws).fm,(z7.mk X.A X.fm X.sm X.S ⟨M,Rf⟩ Ws).sm,(z7.mk X.A X.fm X.sm X.S ⟨M,Rf⟩ Ws).S⟩) ⟨hX.1,hX.2⟩) Y⟩
theorem tU {P:Program} {F:z9} {hook:yZ} {L:List SP} {f:FuncId} {vs:List AVal} {Q Q':AVal→List SP→Prop} (h:SW P F hook f vs L Q) (hq: ∀v L',Q v L'→ ∃M,Q' v M∧Sub L' M):SW P F hook f vs L Q':=
 fun H hH=>(h H hH).mono fun v _ ⟨L',a,b⟩=>by
  obtain⟨M,h1,h2⟩:=hq v L' a
  exact⟨M,h1,b.sub h2⟩
theorem mT (R:List SP) (a m p:Nat) (S:zm) (M:zA) (pv:AVal) (ps:List Int) (hn:ps.length≤1000000):zy 220 [vp a 0,pv] (ent qs a ⟨m,p,S⟩::ent zQ m M::ent (zP yK 1) pv ps::R) fun v L=>v=vi (M.need S.kernel ps:Nat)∧L=ent qs a ⟨m,p,S⟩::ent zQ m M::ent (zP yK 1) pv ps::R:=by
 refine zS (jY a ⟨m,p,S⟩) fun tv hS=> ?_
 dsimp only [Wa,List.cons_append,List.nil_append]
 refine SW.sub (M:=ent z8 a (GK m p S tv)::ent zQ m M::ent (zP yK 1) pv ps::ent (zP yK 1) tv S.tables::R) ?_ Y
 refine tU (mN (ent (zP yK 1) tv S.tables::R) a m p S hS tv M pv ps hn) ?_
 rintro v _ ⟨rfl,rfl⟩
 exact⟨_,⟨rfl,rfl⟩,Sub.mk2 (qG hS) Y⟩
abbrev z7.more (inv:Bool) (o:Int) (x:z7) (page:Int):z7:=({ x with fm:=insi x.fm page (x.s.got:Nat),s:=x.s.take 2 o } :z7).tell inv page
def z7.map (x:z7) (inv:Bool) (o:Int) (f n r:Nat):Int×z7:=if gZ [f,n,r]=false then(1,x)else if(yY x.A f n r).1≠0 then(1,x)else
 if((x.s.M.left:Nat):Int)<(((zM f n).length:Nat):Int)+((x.s.M.need x.S.kernel (zM f n):Nat):Int)then(2,x)else(0,(zM f n).foldl (z7.more inv o) { x with A:=(yY x.A f n r).2 })
theorem Gq {A:Nat→Int} {f n r:Int} (h:(yY A f n r).1=0):qA f n:=by
 unfold yY at h
 by_cases hw:qA f n
 ·exact hw
 rw [if_pos (.inl hw)]at h;cases h
theorem z7.Fine.took {x y:z7} {k:Nat} (h:z7.Fine x y k) (hn:x.s.M.n≤64) (o page:Int):z7.Fine x { y with fm:=insi y.fm page (y.s.got:Nat),s:=y.s.take 2 o } k:=⟨h.f.ins page (by have:=PM.got_le y.s;have:=h.n;omega),h.s,h.t,by show(PM.take _ _ _).M.n=_;rw [PM.take_n];exact h.n⟩
theorem ir (R:List SP) (v:Nat) (X:jX) (M:zA) (Rf:List (Int×Int)) (Ws:jt) (hT:X.S.tables.length≤500000) (f n r:Nat) (hfm:f≤18446744073709551615) (hnm:n≤18446744073709551615) (hrm:r≤18446744073709551615):zy 181 [vp v 0,vu f,vu n,vu r] (ent Zs v X::ent zX X.W.p ⟨X.W.m,Rf⟩::ent zQ X.W.m M::ent y5 X.W.sw Ws::R) fun w L=>w=vi (z7.map (X.st ⟨M,Rf⟩ Ws) X.W.inv X.o f n r).1∧L=ent Zs v (X.of (z7.map (X.st ⟨M,Rf⟩ Ws) X.W.inv X.o f n r).2)::ent zX X.W.p ⟨X.W.m,(z7.map (X.st ⟨M,Rf⟩ Ws) X.W.inv X.o f n r).2.s.R⟩::ent zQ X.W.m (z7.map (X.st ⟨M,Rf⟩ Ws) X.W.inv X.o f n r).2.s.M::ent y5 X.W.sw (z7.map (X.st ⟨M,Rf⟩ Ws) X.W.inv X.o f n r).2.w::R:=by
 refine yQ (qD X.W.m M) fun hM=> ?_
 have hn64:M.n≤64:=hM.2.1
 refine zS (uR v X) fun y hX=> ?_
 obtain⟨a,s,i,b⟩:=y
 dsimp only [fj,List.cons_append,List.nil_append]
 refine SW.intro rfl Tryz.func181 rfl ?_
 refine O0 9 J (zT (cs:= [_,_,_]) rfl rfl rfl (by decide) rfl fun i18=> ?_)
 refine zR (Sub.one (K:=z8) (a:=i18) (x:= [vu f,vu n,vu r]) (K2:=zP rA 1) (a2:= .slice (some (i18,0)) 3 (some 3) 1) (x2:= [f,n,r]) fun g hg=>Zf (en:=rA) (es:=1) (xs:= [f,n,r]) (fun _=>rfl) (by decide) g hg) ?_
 refine yG (Jw _ _ [f,n,r] (by intro x hx;simp at hx;rcases hx with rfl|rfl|rfl;exact hfm;exact hnm;exact hrm) (by show 3≤1000;decide)) rfl (fun _=>rfl) ?_
 rintro _ _ ⟨u19,rfl,rfl⟩
 refine Z 3 J (zN (fun h21=> ?_) (fun h21=> ?_))
 ·rw [show br [f,n,r]= [(f:Int),(n:Int),(r:Int)]from if_pos h21]
  have hb:=V8 h21
  refine Z 5 J (zO [0,1,3,7,15,31,63,127,7,263,775,7,2055,6151,7,16391,49159,131071,262143,524287] [([0,1,2,3,4,5,6,8,9,10,11,12,13,14,15,16],[6,10,13,16],some 7),([],[10,13,16],some 17),([18,19],[18],none)] (by kernel_rfl) ?_)
  refine z4 (ZK 5 J (zj J Y (ye J Y J (ZK 1 J (uW rfl (fun _ h=>yM rfl rfl rfl (by decide) (by show(0:Int)<(3:Nat);decide) h) ?_)))))
  refine Wm 0 J Y J (by rfl) J (ZK 1 J (uW rfl (fun _ h=>yM rfl rfl rfl (by decide) (by show(1:Int)<(3:Nat);decide) h) ?_))
  refine Wm 0 J Y J (by rfl) J (ZK 1 J (uW rfl (fun _ h=>yM rfl rfl rfl (by decide) (by show(2:Int)<(3:Nat);decide) h) ?_))
  refine Wm 0 J Y J (by rfl) J (z5 ⟨(y6 J Y J J J (wV rfl (fun _ h=>qo (j:=0) rfl rfl rfl (by rfl) rfl h) rfl rfl (z3 _ rfl) (wV rfl (fun _ h=>qo (j:=0) rfl rfl rfl (by rfl) rfl h) rfl rfl (z3 _ rfl) (wV rfl (fun _ h=>qo (j:=0) rfl rfl rfl (by rfl) rfl h) rfl rfl (z3 _ rfl) z6)))),?_⟩)
  refine yG (bZ _ _ _) rfl (fun _=>rfl) ?_
  rintro _ _ ⟨b29,rfl,rfl⟩
  refine zF (z4 (z5 ⟨(wV rfl (fun _ h=>qo (j:=0) rfl rfl rfl (by rfl) rfl h) rfl rfl (z3 _ rfl) (wV rfl (fun _ h=>qo (j:=0) rfl rfl rfl (by rfl) rfl h) rfl rfl (z3 _ rfl) (wV rfl (fun _ h=>qo (j:=0) rfl rfl rfl (by rfl) rfl h) rfl rfl (z3 _ rfl) z6))),?_⟩))
  refine Z1 (iD _ _ X.A f n r (by omega)) J Y (zF (z4 (ZK 1 J (qJ (fun h40=> ?_) (fun h40=> ?_)))))
  ·refine ZK 1 J (z5 ⟨(gv J J J (by rw [decide_eq_true h40];rfl) z6),?_⟩)
   refine OX 6 J (zE J J J ?_)
   have e:z7.map (X.st ⟨M,Rf⟩ Ws) X.W.inv X.o f n r=(1,(z7.mk X.A X.fm X.sm X.S ⟨M,Rf⟩ Ws)):=(if_neg (by rw [h21];nofun)).trans (if_pos h40)
   rw [e]
   exact⟨_,⟨rfl,rfl⟩,Sub.mk5 (zg (X:=X.of (z7.mk X.A X.fm X.sm X.S ⟨M,Rf⟩ Ws)) ⟨hX.1,hX.2⟩) Y⟩
  have hw:=Gq (Decidable.not_not.1 h40)
  have hpl:=QH hw
  obtain⟨hw1,hw2,hw3,hw4⟩:=hw
  have hnd:=sl M X.S.kernel (zM f n)
  refine ZK 1 J (z5 ⟨(gv J J J (by rw [decide_eq_false h40];rfl) z6),?_⟩)
  refine OX 3 J (zO [0,1,3,0,8,24,63,127] [([0,1,2,3,4,5],[2,5],some 6),([7],[],none)] (by kernel_rfl) ?_)
  refine z4 (ZK 1 J (uW rfl (fun _ h=>yM rfl rfl rfl (by decide) (by show(0:Int)<(3:Nat);decide) h) ?_))
  refine Wm 0 J Y J (by rfl) J (ZK 1 J (uW rfl (fun _ h=>yM rfl rfl rfl (by decide) (by show(1:Int)<(3:Nat);decide) h) ?_))
  refine Wm 0 J Y J (by rfl) J (z5 ⟨(wV rfl (fun _ h=>qo (j:=0) rfl rfl rfl (by rfl) rfl h) rfl rfl (z3 _ rfl) (wV rfl (fun _ h=>qo (j:=0) rfl rfl rfl (by rfl) rfl h) rfl rfl (z3 _ rfl) z6)),?_⟩)
  refine o_call (G9 _ f n (by omega) (by omega)) rfl (fun _=>rfl) ?_
  rintro u48 _ rfl
  refine zF (z4 (ZK 1 J (z5 ⟨z6,?_⟩)))
  refine OX 2 J (zO [0,1,0,4,12,28,0,124,255,0,512,1536,3584,7680,16124,32767] [([0,1,2,3,4,5,6,9,10,11,12,13],[1,5,13],some 7),([8],[1,13,8],some 14),([15],[1,8,15],none)] (by kernel_rfl) ?_)
  refine z4 (ZK 1 J (uW rfl (fun _ h=>y0 rfl rfl rfl rfl rfl h) ?_))
  refine ZK 2 J (zj J Y (ye J Y J (ZK 3 J (zj J Y (zj J Y (ye J Y J (z5 ⟨(wV rfl (fun _ h=>y0 rfl rfl rfl rfl rfl h) rfl rfl (z3 _ rfl) (y6 J Y J J J (y6 J Y J J J z6))),?_⟩)))))))
  refine Z3 (mT _ _ _ _ X.S M _ (zM f n) (by omega)) J Y Y Y (zF (z4 (BK J (z5 ⟨(wV rfl (fun _ h=>y0 rfl rfl rfl rfl rfl h) rfl rfl (z3 _ rfl) (y6 J Y J J J (vF rfl (fun _=>zC rfl rfl rfl (vj (by omega))) rfl rfl (z3 _ rfl) z6))),?_⟩))))
  refine Z2 (UX _ _ _ _ _) J Y Y (zF (z4 (ZK 1 J (qJ (fun h64=> ?_) (fun h64=> ?_)))))
  ·refine z5 ⟨(wV rfl (fun _ h=>y0 rfl rfl rfl rfl rfl h) rfl rfl (z3 _ rfl) (vF rfl (fun _=>zC rfl rfl rfl (vj (by omega))) rfl rfl (z3 _ rfl) (gv J J J (by rw [decide_eq_true h64];rfl) z6))),?_⟩
   refine OX 6 J (zE J J J ?_)
   have e:z7.map (X.st ⟨M,Rf⟩ Ws) X.W.inv X.o f n r=(2,(z7.mk X.A X.fm X.sm X.S ⟨M,Rf⟩ Ws)):=(if_neg (by rw [h21];nofun)).trans ((if_neg h40).trans (if_pos h64))
   rw [e]
   exact⟨_,⟨rfl,rfl⟩,Sub.mk5 (zg (X:=X.of (z7.mk X.A X.fm X.sm X.S ⟨M,Rf⟩ Ws)) ⟨hX.1,hX.2⟩) Y⟩
  refine z5 ⟨(wV rfl (fun _ h=>y0 rfl rfl rfl rfl rfl h) rfl rfl (z3 _ rfl) (vF rfl (fun _=>zC rfl rfl rfl (vj (by omega))) rfl rfl (z3 _ rfl) (gv J J J (by rw [decide_eq_false h64];rfl) z6))),?_⟩
  refine OX 3 J (zO [0,1,3,7,0,16,48,0,128,384,0,1024,3072,8191] [([0,1,2,3,4,5,6,7,8,9,10,11,12],[3,6,9,12],some 13),([],[],none)] (by kernel_rfl) ?_)
  refine z4 (ZK 2 J (zj J Y (ye J Y J (ZK 1 J (uW rfl (fun _ h=>yM rfl rfl rfl (by decide) (by show(0:Int)<(3:Nat);decide) h) ?_)))))
  refine Wm 0 J Y J (by rfl) J (ZK 1 J (uW rfl (fun _ h=>yM rfl rfl rfl (by decide) (by show(1:Int)<(3:Nat);decide) h) ?_))
  refine Wm 0 J Y J (by rfl) J (ZK 1 J (uW rfl (fun _ h=>yM rfl rfl rfl (by decide) (by show(2:Int)<(3:Nat);decide) h) ?_))
  refine Wm 0 J Y J (by rfl) J (z5 ⟨(y6 J Y J J J (wV rfl (fun _ h=>qo (j:=0) rfl rfl rfl (by rfl) rfl h) rfl rfl (z3 _ rfl) (wV rfl (fun _ h=>qo (j:=0) rfl rfl rfl (by rfl) rfl h) rfl rfl (z3 _ rfl) (wV rfl (fun _ h=>qo (j:=0) rfl rfl rfl (by rfl) rfl h) rfl rfl (z3 _ rfl) z6)))),?_⟩)
  refine Z1 (iD _ _ X.A f n r (by omega)) J Y (zF (z4 (z5 ⟨z6,?_⟩)))
  refine OX 4 J (yo rfl (fun _ h=>y0 rfl rfl rfl rfl rfl h) ?_)
  refine Z 3 J (zl (fun j T L=> ∃(c:Nat),(c≤(zM f n).length)∧(z7.Fine (z7.mk (yY X.A f n r).2 X.fm X.sm X.S ⟨M,Rf⟩ Ws) (((zM f n).take c).foldl (z7.more X.W.inv X.o) (z7.mk (yY X.A f n r).2 X.fm X.sm X.S ⟨M,Rf⟩ Ws)) c)∧j=(zM f n).length-c∧T.len=7∧Tm.get 0 T=some (vp v 0)∧Tm.get 79 T=some (u48)∧Tm.get 80 T=some (vi ((zM f n).length:Nat))∧Tm.get 81 T=some (vi (c:Nat))∧Sub L (ent (zP yK 1) u48 (zM f n)::ent z8 v (J1 X.W X.o a s i b)::ent qY a (((zM f n).take c).foldl (z7.more X.W.inv X.o) (z7.mk (yY X.A f n r).2 X.fm X.sm X.S ⟨M,Rf⟩ Ws)).A::ent gP i (((zM f n).take c).foldl (z7.more X.W.inv X.o) (z7.mk (yY X.A f n r).2 X.fm X.sm X.S ⟨M,Rf⟩ Ws)).fm::ent gP b (((zM f n).take c).foldl (z7.more X.W.inv X.o) (z7.mk (yY X.A f n r).2 X.fm X.sm X.S ⟨M,Rf⟩ Ws)).sm::ent zX X.W.p ⟨X.W.m,(((zM f n).take c).foldl (z7.more X.W.inv X.o) (z7.mk (yY X.A f n r).2 X.fm X.sm X.S ⟨M,Rf⟩ Ws)).s.R⟩::ent qs s ⟨X.W.m,X.W.p,(((zM f n).take c).foldl (z7.more X.W.inv X.o) (z7.mk (yY X.A f n r).2 X.fm X.sm X.S ⟨M,Rf⟩ Ws)).S⟩::ent zQ X.W.m (((zM f n).take c).foldl (z7.more X.W.inv X.o) (z7.mk (yY X.A f n r).2 X.fm X.sm X.S ⟨M,Rf⟩ Ws)).s.M::ent y5 X.W.sw (((zM f n).take c).foldl (z7.more X.W.inv X.o) (z7.mk (yY X.A f n r).2 X.fm X.sm X.S ⟨M,Rf⟩ Ws)).w::R)) ((zM f n).length) ⟨0,by omega,⟨hX.1,hX.2,Nat.le_refl _,rfl⟩,by omega,rfl,rfl,rfl,rfl,rfl,(by rw [List.take_zero,List.foldl_nil];exact Y)⟩ ?_)
  rintro j T L0 ⟨c,hc,hF,rfl,hl,g0,g79,g80,g81,hsb⟩
  obtain⟨tg,rfl⟩:=W7 hl g0 g79 g80 g81
  clear hl g0 g79 g80 g81
  refine zu hsb ?_
  clear hsb L0
  refine O0 3 J (z0 (fun h82=> ?_) (fun h82=> ?_))
  ·refine Z 8 J ?_
   obtain⟨z,hz⟩: ∃z,(zM f n)[c]? =some z:=⟨(zM f n)[c]'(by omega),List.getElem?_eq_getElem (by omega)⟩
   refine yo rfl (fun _ h=>yM rfl rfl rfl (by omega) (by omega) h) ?_
   refine lE 0 J Y J hz J (Z 3 J (zO [0,1,3,7,0,0,32,96,224,480,0,1024,3072,7168,16352,32736,65504,65504,131071] [([0,1,2,3,4,5,6,7,8,9,10,11,12,13],[3,9,13],some 14),([15,16,17],[3],some 18),([],[],none)] (by kernel_rfl) ?_))
   refine z4 (ZK 2 J (zj J Y (ye J Y J (ZK 3 J (zj J Y (zj J Y (ye J Y J (ZK 2 J (zj J Y (ye J Y J (z5 ⟨(y6 J Y J J J (y6 J Y J J J (y6 J Y J J J z6))),?_⟩)))))))))))
   refine Z2 (Jq _ _ _ (((zM f n).take c).foldl (z7.more X.W.inv X.o) (z7.mk (yY X.A f n r).2 X.fm X.sm X.S ⟨M,Rf⟩ Ws)).s.R (((zM f n).take c).foldl (z7.more X.W.inv X.o) (z7.mk (yY X.A f n r).2 X.fm X.sm X.S ⟨M,Rf⟩ Ws)).s.M 2 _ (.inr rfl)) J Y Y (zF (z4 (ZK 3 J (z5 ⟨(y6 J Y J J J z6),?_⟩))))
   refine ge rfl rfl rfl rfl rfl ?_
   refine zF (z4 (z5 ⟨z6,?_⟩))
   refine OX 3 J (Z7 (vX _ _ X.W X.o a s i b { (((zM f n).take c).foldl (z7.more X.W.inv X.o) (z7.mk (yY X.A f n r).2 X.fm X.sm X.S ⟨M,Rf⟩ Ws))with fm:=insi (((zM f n).take c).foldl (z7.more X.W.inv X.o) (z7.mk (yY X.A f n r).2 X.fm X.sm X.S ⟨M,Rf⟩ Ws)).fm z ((((zM f n).take c).foldl (z7.more X.W.inv X.o) (z7.mk (yY X.A f n r).2 X.fm X.sm X.S ⟨M,Rf⟩ Ws)).s.got:Nat),s:=(((zM f n).take c).foldl (z7.more X.W.inv X.o) (z7.mk (yY X.A f n r).2 X.fm X.sm X.S ⟨M,Rf⟩ Ws)).s.take 2 X.o }.A { (((zM f n).take c).foldl (z7.more X.W.inv X.o) (z7.mk (yY X.A f n r).2 X.fm X.sm X.S ⟨M,Rf⟩ Ws))with fm:=insi (((zM f n).take c).foldl (z7.more X.W.inv X.o) (z7.mk (yY X.A f n r).2 X.fm X.sm X.S ⟨M,Rf⟩ Ws)).fm z ((((zM f n).take c).foldl (z7.more X.W.inv X.o) (z7.mk (yY X.A f n r).2 X.fm X.sm X.S ⟨M,Rf⟩ Ws)).s.got:Nat),s:=(((zM f n).take c).foldl (z7.more X.W.inv X.o) (z7.mk (yY X.A f n r).2 X.fm X.sm X.S ⟨M,Rf⟩ Ws)).s.take 2 X.o }.fm { (((zM f n).take c).foldl (z7.more X.W.inv X.o) (z7.mk (yY X.A f n r).2 X.fm X.sm X.S ⟨M,Rf⟩ Ws))with fm:=insi (((zM f n).take c).foldl (z7.more X.W.inv X.o) (z7.mk (yY X.A f n r).2 X.fm X.sm X.S ⟨M,Rf⟩ Ws)).fm z ((((zM f n).take c).foldl (z7.more X.W.inv X.o) (z7.mk (yY X.A f n r).2 X.fm X.sm X.S ⟨M,Rf⟩ Ws)).s.got:Nat),s:=(((zM f n).take c).foldl (z7.more X.W.inv X.o) (z7.mk (yY X.A f n r).2 X.fm X.sm X.S ⟨M,Rf⟩ Ws)).s.take 2 X.o }.sm { (((zM f n).take c).foldl (z7.more X.W.inv X.o) (z7.mk (yY X.A f n r).2 X.fm X.sm X.S ⟨M,Rf⟩ Ws))with fm:=insi (((zM f n).take c).foldl (z7.more X.W.inv X.o) (z7.mk (yY X.A f n r).2 X.fm X.sm X.S ⟨M,Rf⟩ Ws)).fm z ((((zM f n).take c).foldl (z7.more X.W.inv X.o) (z7.mk (yY X.A f n r).2 X.fm X.sm X.S ⟨M,Rf⟩ Ws)).s.got:Nat),s:=(((zM f n).take c).foldl (z7.more X.W.inv X.o) (z7.mk (yY X.A f n r).2 X.fm X.sm X.S ⟨M,Rf⟩ Ws)).s.take 2 X.o }.s.R (hF.took hn64 X.o z).f (hF.took hn64 X.o z).s { (((zM f n).take c).foldl (z7.more X.W.inv X.o) (z7.mk (yY X.A f n r).2 X.fm X.sm X.S ⟨M,Rf⟩ Ws))with fm:=insi (((zM f n).take c).foldl (z7.more X.W.inv X.o) (z7.mk (yY X.A f n r).2 X.fm X.sm X.S ⟨M,Rf⟩ Ws)).fm z ((((zM f n).take c).foldl (z7.more X.W.inv X.o) (z7.mk (yY X.A f n r).2 X.fm X.sm X.S ⟨M,Rf⟩ Ws)).s.got:Nat),s:=(((zM f n).take c).foldl (z7.more X.W.inv X.o) (z7.mk (yY X.A f n r).2 X.fm X.sm X.S ⟨M,Rf⟩ Ws)).s.take 2 X.o }.s.M { (((zM f n).take c).foldl (z7.more X.W.inv X.o) (z7.mk (yY X.A f n r).2 X.fm X.sm X.S ⟨M,Rf⟩ Ws))with fm:=insi (((zM f n).take c).foldl (z7.more X.W.inv X.o) (z7.mk (yY X.A f n r).2 X.fm X.sm X.S ⟨M,Rf⟩ Ws)).fm z ((((zM f n).take c).foldl (z7.more X.W.inv X.o) (z7.mk (yY X.A f n r).2 X.fm X.sm X.S ⟨M,Rf⟩ Ws)).s.got:Nat),s:=(((zM f n).take c).foldl (z7.more X.W.inv X.o) (z7.mk (yY X.A f n r).2 X.fm X.sm X.S ⟨M,Rf⟩ Ws)).s.take 2 X.o }.S (by have:=hF.t;show(((zM f n).take c).foldl (z7.more X.W.inv X.o) (z7.mk (yY X.A f n r).2 X.fm X.sm X.S ⟨M,Rf⟩ Ws)).S.tables.length≤_;simp only at this;omega) z) J Y Y Y Y Y Y Y (Z 2 J (ad J (Z 2 J ?_))))
   have hK:=qK (z7.more X.W.inv X.o) (z7.mk (yY X.A f n r).2 X.fm X.sm X.S ⟨M,Rf⟩ Ws) (zM f n) c _ hz
   exact Or.inl ⟨rfl,_,by omega,c+1,by omega,by rw [hK];exact(hF.took hn64 X.o z).tell X.W.inv z,rfl,rfl,rfl,rfl,rfl,rfl,(by rw [hK];exact Y)⟩
  refine Z 4 J (Or.inr ⟨nofun,?_⟩)
  refine OX 5 J (zE J J J ?_)
  have hcn:c=(zM f n).length:=by omega
  subst hcn
  rw [List.take_length]at hF ⊢
  have e:z7.map (X.st ⟨M,Rf⟩ Ws) X.W.inv X.o f n r=(0,((zM f n).foldl (z7.more X.W.inv X.o) (z7.mk (yY X.A f n r).2 X.fm X.sm X.S ⟨M,Rf⟩ Ws))):=(if_neg (by rw [h21];nofun)).trans ((if_neg h40).trans (if_neg h64))
  rw [e]
  refine⟨_,⟨rfl,rfl⟩,?_⟩
  exact Sub.mk5 (zg (X:=X.of ((zM f n).foldl (z7.more X.W.inv X.o) (z7.mk (yY X.A f n r).2 X.fm X.sm X.S ⟨M,Rf⟩ Ws))) ⟨hF.f,hF.s⟩) Y
 refine Z 5 J (zO [0,1,3,7,15,31,63,127,7,263,775,7,2055,6151,7,16391,49159,131071,262143,524287] [([0,1,2,3,4,5,6,8,9,10,11,12,13,14,15,16],[6,10,13,16],some 7),([],[10,13,16],some 17),([18,19],[18],none)] (by kernel_rfl) ?_)
 refine z4 (ZK 16 J (z5 ⟨(zx rfl (zx rfl (zx rfl (zx rfl z6)))),?_⟩))
 refine gW rfl (zF (z4 (z5 ⟨(zx rfl (zx rfl (zx rfl z6))),?_⟩)))
 refine gW rfl (zF (z4 (ZK 2 J (z5 ⟨(zx rfl z6),?_⟩))))
 refine OX 6 J (zE J J J ?_)
 have e:z7.map (X.st ⟨M,Rf⟩ Ws) X.W.inv X.o f n r=(1,(z7.mk X.A X.fm X.sm X.S ⟨M,Rf⟩ Ws)):=if_pos h21
 rw [e]
 exact⟨_,⟨rfl,rfl⟩,Sub.mk5 (zg (X:=X.of (z7.mk X.A X.fm X.sm X.S ⟨M,Rf⟩ Ws)) ⟨hX.1,hX.2⟩) Y⟩
abbrev dg (W:jt) (M:zA) (f:Int):Nat:=((gY W M f).map fun p=>p.1).getD 0
abbrev Yx (W:jt) (M:zA) (f:Int):jt:=((gY W M f).map fun p=>p.2).getD W
theorem aa (W:jt) (M:zA) (f:Int):dg W M f≤64:=by
 unfold dg gY
 split
 ·cases h:Yl W with
  |none=>exact Nat.zero_le _
  |some g=>have:=dl W _ _ _ h;show g≤64;omega
 exact Nat.zero_le _
abbrev z7.outed (x:z7) (inv:Bool) (page f:Int):z7:=({ (({ x with w:=Yx x.w x.s.M f } :z7).loose page)with sm:=insi (({ x with w:=Yx x.w x.s.M f } :z7).loose page).sm page (dg x.w x.s.M f:Nat) } :z7).tell inv page
def z7.out (x:z7) (inv:Bool) (page:Nat):Int×z7:=
 if gZ [page]=false then(3,x)else if(ym x.fm (page:Int)).isSome=false then(3,x)else
 if 1<vr x.s.R ((ym x.fm (page:Int)).getD 0)then(5,x)else
 if(gY x.w x.s.M ((ym x.fm (page:Int)).getD 0)).isSome=false then(4,x)else(0,x.outed inv (page:Int) ((ym x.fm (page:Int)).getD 0))
theorem td {W:jt} {M:zA} {f:Int} (h:(gY W M f).isSome=false):Yx W M f=W:=by
 unfold Yx
 cases e:gY W M f with
 |none=>rfl
 |some p=>rw [e]at h;cases h
theorem An (R:List SP) (v:Nat) (X:jX) (M:zA) (Rf:List (Int×Int)) (Ws:jt) (hT:X.S.tables.length≤500000) (g:Nat) (hgm:g≤18446744073709551615):zy 184 [vp v 0,vu g] (ent Zs v X::ent zX X.W.p ⟨X.W.m,Rf⟩::ent zQ X.W.m M::ent y5 X.W.sw Ws::R) fun w L=>w=vi (z7.out (X.st ⟨M,Rf⟩ Ws) X.W.inv g).1∧L=ent Zs v (X.of (z7.out (X.st ⟨M,Rf⟩ Ws) X.W.inv g).2)::ent zX X.W.p ⟨X.W.m,(z7.out (X.st ⟨M,Rf⟩ Ws) X.W.inv g).2.s.R⟩::ent zQ X.W.m (z7.out (X.st ⟨M,Rf⟩ Ws) X.W.inv g).2.s.M::ent y5 X.W.sw (z7.out (X.st ⟨M,Rf⟩ Ws) X.W.inv g).2.w::R:=by
 refine zS (uR v X) fun y hX=> ?_
 obtain⟨a,s,i,b⟩:=y
 dsimp only [fj,List.cons_append,List.nil_append]
 have hL:z7.Fine (z7.mk X.A X.fm X.sm X.S ⟨M,Rf⟩ (Yx Ws M ((ym X.fm (g:Int)).getD 0))) (z7.loose (z7.mk X.A X.fm X.sm X.S ⟨M,Rf⟩ (Yx Ws M ((ym X.fm (g:Int)).getD 0))) (g:Int)) 0:=z7.Fine.loose ⟨hX.1,hX.2,Nat.le_refl _,rfl⟩ (g:Int)
 have hsl:0≤((dg Ws M ((ym X.fm (g:Int)).getD 0):Nat):Int)∧((dg Ws M ((ym X.fm (g:Int)).getD 0):Nat):Int)≤64:=by have:=aa Ws M ((ym X.fm (g:Int)).getD 0);omega
 refine SW.intro rfl Tryz.func184 rfl ?_
 refine O0 7 J (zT (cs:= [_]) rfl rfl rfl (by decide) rfl fun i12=> ?_)
 refine zR (Sub.one (K:=z8) (a:=i12) (x:= [vu g]) (K2:=zP rA 1) (a2:= .slice (some (i12,0)) 1 (some 1) 1) (x2:= [g]) fun q hq=>Zf (en:=rA) (es:=1) (xs:= [g]) (fun _=>rfl) (by decide) q hq) ?_
 refine yG (Jw _ _ [g] (by intro x hx;simp at hx;rcases hx with rfl;exact hgm) (by show 1≤1000;decide)) rfl (fun _=>rfl) ?_
 rintro _ _ ⟨u13,rfl,rfl⟩
 refine Z 3 J (zN (fun h15=> ?_) (fun h15=> ?_))
 ·rw [show br [g]= [(g:Int)]from if_pos h15]
  refine Z 4 J (zO [0,1,3,7,0,16,48,127,255,511,511,1023,4095] [([0,1,2,3,4,5,6,7,8,9,10,11,12],[3,6,7],none)] (by kernel_rfl) ?_)
  refine z4 (ZK 2 J (zj J Y (ye J Y J (ZK 1 J (uW rfl (fun _ h=>yM rfl rfl rfl (by decide) (by show(0:Int)<(1:Nat);decide) h) ?_)))))
  refine Wm 0 J Y J (by rfl) J (uW rfl (fun _ h=>jh rfl rfl rfl h) ?_)
  refine ZK 3 J (uT (fun h26=> ?_) (fun h26=> ?_))
  ·refine ZK 2 J (z5 ⟨(y6 J Y J J J (wV rfl (fun _ h=>qo (j:=0) rfl rfl rfl (by rfl) rfl h) rfl rfl (z3 _ rfl) (wV rfl (fun _ h=>jh rfl rfl rfl h) rfl rfl (z3 _ rfl) z6))),?_⟩)
   refine OX 17 J (fa J Y (fa J Y (ld J Y J (Z 1 J (Z1 (JU _ _ _ _ _) J Y (Z 1 J (z0 (fun h40=> ?_) (fun h40=> ?_))))))))
   ·refine Z 7 J (zE J J J ?_)
    have e:z7.out (X.st ⟨M,Rf⟩ Ws) X.W.inv g=(5,(z7.mk X.A X.fm X.sm X.S ⟨M,Rf⟩ Ws)):=(if_neg (by rw [h15];nofun)).trans ((if_neg (by rw [h26];nofun)).trans (if_pos h40))
    rw [e]
    exact⟨_,⟨rfl,rfl⟩,Sub.mk5 (zg (X:=X.of (z7.mk X.A X.fm X.sm X.S ⟨M,Rf⟩ Ws)) ⟨hX.1,hX.2⟩) Y⟩
   refine Z 4 J (zO [0,1,3,7,15,0,32,96,224,480,0,2047,4095,8191,8191,16383,65535] [([0,1,2,3,4,5,6,7,8,9,10],[4,9],some 11),([12,13,14,15,16],[],none)] (by kernel_rfl) ?_)
   refine z4 (ZK 2 J (zj J Y (zj J Y (ye J Y J (ZK 2 J (zj J Y (zj J Y (ye J Y J (ZK 1 J (z5 ⟨(y6 J Y J J J (y6 J Y J J J z6)),?_⟩))))))))))
   refine Z2 (av _ _ _ Ws M ((ym X.fm (g:Int)).getD 0)) J Y Y (zF (z4 (ZK 3 J (uT (fun h55=> ?_) (fun h55=> ?_)))))
   ·refine ZK 2 J (z5 ⟨z6,?_⟩)
    refine OX 12 J (yo rfl (fun _ h=>yM rfl rfl rfl (by decide) (by show(0:Int)<(1:Nat);decide) h) ?_)
    refine lE 0 J Y J (by rfl) J (Z6 (Uf _ _ X.W X.o a s i b X.fm X.sm Rf hX.1 hX.2 M (Yx Ws M ((ym X.fm (g:Int)).getD 0)) (g:Int)) J Y Y Y Y Y Y (Z 2 J (zO [0,1,3,7,0,16,48,0,255] [([0,1,2,3,4,5,6,7],[3,6],some 8),([],[],none)] (by kernel_rfl) ?_)))
    refine z4 (ZK 2 J (zj J Y (ye J Y J (ZK 1 J (uW rfl (fun _ h=>yM rfl rfl rfl (by decide) (by show(0:Int)<(1:Nat);decide) h) ?_)))))
    refine Wm 0 J Y J (by rfl) J (ZK 1 J (z5 ⟨(y6 J Y J J J (wV rfl (fun _ h=>qo (j:=0) rfl rfl rfl (by rfl) rfl h) rfl rfl (z3 _ rfl) z6)),?_⟩))
    refine ge rfl rfl rfl rfl rfl ?_
    refine zF (z4 (z5 ⟨z6,?_⟩))
    refine OX 4 J (yo rfl (fun _ h=>yM rfl rfl rfl (by decide) (by show(0:Int)<(1:Nat);decide) h) ?_)
    refine lE 0 J Y J (by rfl) J (Z7 (vX _ _ X.W X.o a s i b X.A (z7.loose (z7.mk X.A X.fm X.sm X.S ⟨M,Rf⟩ (Yx Ws M ((ym X.fm (g:Int)).getD 0))) (g:Int)).fm (insi (z7.loose (z7.mk X.A X.fm X.sm X.S ⟨M,Rf⟩ (Yx Ws M ((ym X.fm (g:Int)).getD 0))) (g:Int)).sm (g:Int) ((dg Ws M ((ym X.fm (g:Int)).getD 0):Nat):Int)) (z7.loose (z7.mk X.A X.fm X.sm X.S ⟨M,Rf⟩ (Yx Ws M ((ym X.fm (g:Int)).getD 0))) (g:Int)).s.R hL.f (hL.s.ins (g:Int) hsl) (z7.loose (z7.mk X.A X.fm X.sm X.S ⟨M,Rf⟩ (Yx Ws M ((ym X.fm (g:Int)).getD 0))) (g:Int)).s.M X.S (by omega) (g:Int)) J Y Y Y Y Y Y Y (Z 6 J (zE J J J ?_)))
    have e:z7.out (X.st ⟨M,Rf⟩ Ws) X.W.inv g=(0,z7.outed (z7.mk X.A X.fm X.sm X.S ⟨M,Rf⟩ Ws) X.W.inv (g:Int) ((ym X.fm (g:Int)).getD 0)):=(if_neg (by rw [h15];nofun)).trans ((if_neg (by rw [h26];nofun)).trans ((if_neg h40).trans (if_neg (by rw [h55];nofun))))
    rw [e]
    exact⟨_,⟨rfl,rfl⟩,Sub.mk5 (zg (X:=X.of (z7.outed (z7.mk X.A X.fm X.sm X.S ⟨M,Rf⟩ Ws) X.W.inv (g:Int) ((ym X.fm (g:Int)).getD 0))) ⟨hL.f,(hL.s.ins (g:Int) hsl)⟩) Y⟩
   refine ZK 2 J (z5 ⟨z6,?_⟩)
   refine OX 12 J (zE J J J ?_)
   have e:z7.out (X.st ⟨M,Rf⟩ Ws) X.W.inv g=(4,(z7.mk X.A X.fm X.sm X.S ⟨M,Rf⟩ Ws)):=(if_neg (by rw [h15];nofun)).trans ((if_neg (by rw [h26];nofun)).trans ((if_neg h40).trans (if_pos h55)))
   have e2:((gY Ws M ((ym X.fm (g:Int)).getD 0)).map fun p=>p.2).getD Ws=Ws:=td h55
   rw [e2]
   rw [e]
   exact⟨_,⟨rfl,rfl⟩,Sub.mk5 (zg (X:=X.of (z7.mk X.A X.fm X.sm X.S ⟨M,Rf⟩ Ws)) ⟨hX.1,hX.2⟩) Y⟩
  refine ZK 2 J (z5 ⟨(y6 J Y J J J (wV rfl (fun _ h=>qo (j:=0) rfl rfl rfl (by rfl) rfl h) rfl rfl (z3 _ rfl) (wV rfl (fun _ h=>jh rfl rfl rfl h) rfl rfl (z3 _ rfl) z6))),?_⟩)
  refine OX 16 J (zE J J J ?_)
  have e:z7.out (X.st ⟨M,Rf⟩ Ws) X.W.inv g=(3,(z7.mk X.A X.fm X.sm X.S ⟨M,Rf⟩ Ws)):=(if_neg (by rw [h15];nofun)).trans (if_pos h26)
  rw [e]
  exact⟨_,⟨rfl,rfl⟩,Sub.mk5 (zg (X:=X.of (z7.mk X.A X.fm X.sm X.S ⟨M,Rf⟩ Ws)) ⟨hX.1,hX.2⟩) Y⟩
 rw [show br [g]= [(0:Int)]from if_neg (by rw [h15];nofun)]
 refine Z 4 J (zO [0,1,3,7,0,16,48,127,255,511,511,1023,4095] [([0,1,2,3,4,5,6,7,8,9,10,11,12],[3,6,7],none)] (by kernel_rfl) ?_)
 refine z4 (ZK 2 J (zj J Y (ye J Y J (ZK 1 J (uW rfl (fun _ h=>yM rfl rfl rfl (by decide) (by show(0:Int)<(1:Nat);decide) h) ?_)))))
 refine Wm 0 J Y J (by rfl) J (uW rfl (fun _ h=>jh rfl rfl rfl h) ?_)
 refine ZK 3 J (uT (fun h26=> ?_) (fun h26=> ?_))
 ·refine ZK 2 J (z5 ⟨(y6 J Y J J J (wV rfl (fun _ h=>qo (j:=0) rfl rfl rfl (by rfl) rfl h) rfl rfl (z3 _ rfl) (wV rfl (fun _ h=>jh rfl rfl rfl h) rfl rfl (z3 _ rfl) z6))),?_⟩)
  refine OX 16 J (zE J J J ?_)
  have e:z7.out (X.st ⟨M,Rf⟩ Ws) X.W.inv g=(3,(z7.mk X.A X.fm X.sm X.S ⟨M,Rf⟩ Ws)):=if_pos h15
  rw [e]
  exact⟨_,⟨rfl,rfl⟩,Sub.mk5 (zg (X:=X.of (z7.mk X.A X.fm X.sm X.S ⟨M,Rf⟩ Ws)) ⟨hX.1,hX.2⟩) Y⟩
 refine ZK 2 J (z5 ⟨(y6 J Y J J J (wV rfl (fun _ h=>qo (j:=0) rfl rfl rfl (by rfl) rfl h) rfl rfl (z3 _ rfl) (wV rfl (fun _ h=>jh rfl rfl rfl h) rfl rfl (z3 _ rfl) z6))),?_⟩)
 refine OX 16 J (zE J J J ?_)
 have e:z7.out (X.st ⟨M,Rf⟩ Ws) X.W.inv g=(3,(z7.mk X.A X.fm X.sm X.S ⟨M,Rf⟩ Ws)):=if_pos h15
 rw [e]
 exact⟨_,⟨rfl,rfl⟩,Sub.mk5 (zg (X:=X.of (z7.mk X.A X.fm X.sm X.S ⟨M,Rf⟩ Ws)) ⟨hX.1,hX.2⟩) Y⟩
def z7.drop (x:z7):z7:=let y:=(zD x.A 256).foldl z7.loose x; { y with A:=qR,S:= { y.S with tables:= [] },s:=y.S.tables.foldl PM.give y.s }
theorem aH (x:z7) (ps:List Int):(ps.foldl z7.loose x).S=x.S∧(ps.foldl z7.loose x).A=x.A:=by
 induction ps generalizing x with
 |nil=>exact⟨rfl,rfl⟩
 |cons p ps ih=>exact ih (x.loose p)
theorem tB (R:List SP) (v:Nat) (X:jX) (M:zA) (Rf:List (Int×Int)) (Ws:jt) (hT:X.S.tables.length≤500000):zy 130 [vp v 0] (ent Zs v X::ent zX X.W.p ⟨X.W.m,Rf⟩::ent zQ X.W.m M::ent y5 X.W.sw Ws::R) fun w L=>w= .tuple []∧L=ent Zs v (X.of (z7.drop (X.st ⟨M,Rf⟩ Ws)))::ent zX X.W.p ⟨X.W.m,(z7.drop (X.st ⟨M,Rf⟩ Ws)).s.R⟩::ent zQ X.W.m (z7.drop (X.st ⟨M,Rf⟩ Ws)).s.M::ent y5 X.W.sw (z7.drop (X.st ⟨M,Rf⟩ Ws)).w::R:=by
 refine zS (uR v X) fun y hX=> ?_
 obtain⟨a,s,i,b⟩:=y
 dsimp only [fj,List.cons_append,List.nil_append]
 refine SW.intro rfl Tryz.func130 rfl ?_
 refine O0 5 J (fa J Y (ld J Y J (yG (xl _ _ X.A) rfl (fun _=>rfl) ?_)))
 rintro w8 _ ⟨_,rfl,hw8,rfl⟩
 have hpl:=gO X.A 256
 refine yo rfl (fun _ h=>y0 rfl rfl rfl rfl rfl h) ?_
 refine Z 3 J (zl (fun j T L=> ∃(c:Nat),(c≤(zD X.A 256).length)∧(z7.Fine (z7.mk X.A X.fm X.sm X.S ⟨M,Rf⟩ Ws) (((zD X.A 256).take c).foldl z7.loose (z7.mk X.A X.fm X.sm X.S ⟨M,Rf⟩ Ws)) 0)∧j=(zD X.A 256).length-c∧T.len=2∧Tm.get 0 T=some (vp v 0)∧Tm.get 8 T=some (w8)∧Tm.get 9 T=some (vi ((zD X.A 256).length:Nat))∧Tm.get 10 T=some (vi (c:Nat))∧Sub L (ent (zP yK 1) w8 (zD X.A 256)::ent z8 v (J1 X.W X.o a s i b)::ent qY a X.A::ent gP i (((zD X.A 256).take c).foldl z7.loose (z7.mk X.A X.fm X.sm X.S ⟨M,Rf⟩ Ws)).fm::ent gP b (((zD X.A 256).take c).foldl z7.loose (z7.mk X.A X.fm X.sm X.S ⟨M,Rf⟩ Ws)).sm::ent zX X.W.p ⟨X.W.m,(((zD X.A 256).take c).foldl z7.loose (z7.mk X.A X.fm X.sm X.S ⟨M,Rf⟩ Ws)).s.R⟩::ent qs s ⟨X.W.m,X.W.p,X.S⟩::ent zQ X.W.m (((zD X.A 256).take c).foldl z7.loose (z7.mk X.A X.fm X.sm X.S ⟨M,Rf⟩ Ws)).s.M::ent y5 X.W.sw (((zD X.A 256).take c).foldl z7.loose (z7.mk X.A X.fm X.sm X.S ⟨M,Rf⟩ Ws)).w::R)) ((zD X.A 256).length) ⟨0,by omega,⟨hX.1,hX.2,Nat.le_refl _,rfl⟩,by omega,rfl,rfl,rfl,rfl,rfl,(by rw [List.take_zero,List.foldl_nil];exact Y)⟩ ?_)
 rintro j T L0 ⟨c,hc,hF,rfl,hl,g0,g8,g9,g10,hsb⟩
 obtain⟨tg,rfl⟩:=W7 hl g0 g8 g9 g10
 clear hl g0 g8 g9 g10
 refine zu hsb ?_
 clear hsb L0
 refine O0 3 J (z0 (fun h11=> ?_) (fun h11=> ?_))
 ·refine Z 8 J ?_
  obtain⟨z,hz⟩: ∃z,(zD X.A 256)[c]? =some z:=⟨(zD X.A 256)[c]'(by omega),List.getElem?_eq_getElem (by omega)⟩
  refine yo rfl (fun _ h=>yM rfl rfl rfl (by omega) (by omega) h) ?_
  refine lE 0 J Y J hz J (Z 5 J (Z6 (Uf _ _ X.W X.o a s i b (((zD X.A 256).take c).foldl z7.loose (z7.mk X.A X.fm X.sm X.S ⟨M,Rf⟩ Ws)).fm (((zD X.A 256).take c).foldl z7.loose (z7.mk X.A X.fm X.sm X.S ⟨M,Rf⟩ Ws)).sm (((zD X.A 256).take c).foldl z7.loose (z7.mk X.A X.fm X.sm X.S ⟨M,Rf⟩ Ws)).s.R hF.f hF.s (((zD X.A 256).take c).foldl z7.loose (z7.mk X.A X.fm X.sm X.S ⟨M,Rf⟩ Ws)).s.M (((zD X.A 256).take c).foldl z7.loose (z7.mk X.A X.fm X.sm X.S ⟨M,Rf⟩ Ws)).w z) J Y Y Y Y Y Y (Z 2 J (ad J (Z 2 J ?_)))))
  have hK:=qK z7.loose (z7.mk X.A X.fm X.sm X.S ⟨M,Rf⟩ Ws) (zD X.A 256) c _ hz
  exact Or.inl ⟨rfl,_,by omega,c+1,by omega,by rw [hK];exact hF.loose z,rfl,rfl,rfl,rfl,rfl,rfl,(by rw [hK];exact Y)⟩
 refine Z 4 J (Or.inr ⟨nofun,?_⟩)
 refine OX 2 J ?_
 have hcn:c=(zD X.A 256).length:=by omega
 subst hcn
 rw [List.take_length]at hF ⊢
 refine Z 1 J (o_call (fb _) rfl (fun _=>rfl) ?_)
 rintro _ _ ⟨a19,rfl,rfl⟩
 refine Z 1 J (fa J Y (sO J Y J J J (Z 4 J (fa J Y (ld J Y J (Z3 (sI _ _ _ _ X.S ((zD X.A 256).foldl z7.loose (z7.mk X.A X.fm X.sm X.S ⟨M,Rf⟩ Ws)).s.M ((zD X.A 256).foldl z7.loose (z7.mk X.A X.fm X.sm X.S ⟨M,Rf⟩ Ws)).s.R (by omega)) J Y Y Y (Z 1 J (qz J J ?_))))))))
 have hS:=aH (z7.mk X.A X.fm X.sm X.S ⟨M,Rf⟩ Ws) (zD X.A 256)
 refine⟨_,⟨rfl,rfl⟩,?_⟩
 have e:(z7.drop (X.st ⟨M,Rf⟩ Ws))= { ((zD X.A 256).foldl z7.loose (z7.mk X.A X.fm X.sm X.S ⟨M,Rf⟩ Ws))with A:=qR,S:= { X.S with tables:= [] },s:=X.S.tables.foldl PM.give ((zD X.A 256).foldl z7.loose (z7.mk X.A X.fm X.sm X.S ⟨M,Rf⟩ Ws)).s } :=by { unfold z7.drop;simp only [hS.1] }
 rw [e]
 exact Sub.mk5 (zg (X:=⟨X.W,X.o,qR,_,_,{ X.S with tables:= [] }⟩) ⟨hF.f,hF.s⟩) Y
structure u4 where
 fr:Int
 cpus:Int
 kpti:Bool
 inv:Bool
 num:Int
 u:Nat
 X:yB
abbrev fF (C:u4):List AVal:= [vi C.fr,vi C.cpus,.bool C.kpti,.bool C.inv,vi C.num,vp C.u 0]
abbrev UZ (c:Nat) (C:u4) (_:Unit):List SP:= [ent z8 c (fF C),ent vW C.u C.X]
def vv (c:Nat) (C:u4):SP:=fun h=> ∃y:Unit,True∧yd (UZ c C y) h
theorem wz (c:Nat) (C:u4): ∀h,vv c C h→ ∃y:Unit,True∧yd (UZ c C y) h:=fun _ h=>h
theorem yj {c:Nat} {C:u4} : ∀h,yd [ent z8 c (fF C),ent vW C.u C.X] h→vv c C h:=fun _ x=>⟨(),trivial,x⟩
def u4.kern (C:u4) (pair:Int):Int:=if C.kpti then 2*pair+1 else 2*pair
theorem zW.pair_bd {S:zW} (h:S.Ok) (p:Int):0≤S.pair p∧S.pair p≤3:=by
 unfold zW.pair;split
 ·exact h.2.2.1 _
 omega
theorem zW.ask_bd {S:zW} (h:S.Ok) (p:Int):0≤(S.ask p).1∧(S.ask p).1≤3:=by
 unfold zW.ask
 split
 ·split
  ·exact h.2.2.1 _
  split
  ·rename_i v hv
   unfold zW.least at hv
   split at hv
   ·cases hv;show(0:Int)≤1∧(1:Int)≤3;omega
   split at hv
   ·cases hv;show(0:Int)≤2∧(2:Int)≤3;omega
   split at hv
   ·cases hv;show(0:Int)≤3∧(3:Int)≤3;omega
   cases hv
  show(0:Int)≤1∧(1:Int)≤3;omega
 show(0:Int)≤0∧(0:Int)≤3;omega
theorem lj (R:List SP) (fr cpus:Int) (kpti inv:Bool) (z:Int):zy 71 [.agg (jW fr cpus kpti inv),vi z] (R) fun w L=> ∃c u t,w=vp c 0∧L=ent vv c ⟨fr,cpus,kpti,inv,z,u,⟨z,0,0,t,[]⟩⟩::R:=by
 refine SW.intro rfl Tryz.func71 rfl ?_
 refine O0 2 J (yW rfl rfl rfl rfl fun i2=> ?_)
 refine Z 3 J (zO [0,0,0,4,15,31,63] [([0,1,2],[0],some 3),([4,5,6],[0],none)] (by kernel_rfl) ?_)
 refine z4 (Vl J Y Y J J (ZK 2 J (z5 ⟨(YC J Y Y J J J (z3 _ rfl) z6),?_⟩)))
 refine o_call (AN _ _) rfl (fun _=>rfl) ?_
 rintro _ _ ⟨n8,t8,rfl,rfl⟩
 refine zF (z4 (p7 [_,_,_,_,_,_] J Y Y J (ky rfl rfl rfl rfl fun i10=> ?_)))
 refine ZK 1 J (z5 ⟨(YC J Y Y J J J (z3 _ rfl) z6),?_⟩)
 exact OX 1 J (zE J J J ⟨_,⟨i10,n8,t8,rfl,rfl⟩,Sub.mk2 (yj (C:=⟨fr,cpus,kpti,inv,z,n8,⟨z,0,0,t8,[]⟩⟩)) Y⟩)
theorem Qw (R:List SP) (c:Nat) (C:u4):zy 27 [vp c 0] (ent vv c C::R) fun w L=>w=vp C.u 0∧L=ent vv c C::R:=by
 refine zS (wz c C) fun y _=> ?_
 dsimp only [UZ,List.cons_append,List.nil_append]
 refine SW.intro rfl Tryz.func27 rfl ?_
 exact O0 8 J (fa J Y (ld J Y J (Z 3 J (zE J J J ⟨_,⟨rfl,rfl⟩,Sub.mk2 (yj (C:=C)) Y⟩))))
theorem W4 (R:List SP) (p:Int) (hp:0≤p∧p≤3):zy 161 [vi p] (R) fun w L=>w=vi (2*p)∧L=R:=by
 refine SW.intro rfl Tryz.func161 rfl ?_
 exact O0 7 J (ml J (Z 3 J (zE J J J fq)))
theorem aY (R:List SP) (c:Nat) (C:u4) (p:Int) (hp:0≤p∧p≤3):zy 194 [vp c 0,vi p] (ent z8 c (fF C)::R) fun w L=>w=vi (C.kern p)∧L=ent z8 c (fF C)::R:=by
 refine SW.intro rfl Tryz.func194 rfl ?_
 refine O0 9 J (fa J Y (fa J Y (ld J Y J (zN (fun h9=> ?_) (fun h9=> ?_)))))
 ·refine Z 5 J (ml J (ad J (Z 3 J (zE J J J ?_))))
  have e:C.kern p=2*p+1:=if_pos h9
  rw [e]
  exact fq
 refine Z 6 J (Z0 (W4 _ _ (by omega)) J (Z 3 J (zE J J J ?_)))
 have e:C.kern p=2*p:=if_neg (by rw [h9];nofun)
 rw [e]
 exact fq
theorem ai (R:List SP) (c:Nat) (C:u4):zy 112 [vp c 0] (ent vv c C::R) fun w L=>w= .tuple []∧L=ent vv c { C with X:= { C.X with root:=0,pcid:=0 } } ::R:=by
 refine zS (wz c C) fun y _=> ?_
 dsimp only [UZ,List.cons_append,List.nil_append]
 refine SW.intro rfl Tryz.func112 rfl ?_
 exact O0 3 J (fa J Y (ld J Y J (Z1 (Vh _ _ C.X 0 0) J Y (Z 1 J (qz J J ⟨_,⟨rfl,rfl⟩,Sub.mk2 (yj (C:= { C with X:= { C.X with root:=0,pcid:=0 } })) Y⟩)))))
theorem bm (R:List SP) (c:Nat) (C:u4) (n v:Nat) (P:zW) (X:jX) (p:Int):zy 141 [vp c 0,vp n 0,vp v 0,vi p] (ent vv c C::ent qm n P::ent Zs v X::R) fun w L=>w= .tuple []∧L=ent vv c { C with X:= { C.X with root:=(X.S.kernel:Nat),pcid:=C.kern (P.pair p) } } ::ent qm n P::ent Zs v X::R:=by
 refine zS (wz c C) fun y _=> ?_
 dsimp only [UZ,List.cons_append,List.nil_append]
 refine yQ (mI n P) fun hP=> ?_
 have hb:=zW.pair_bd hP p
 refine SW.intro rfl Tryz.func141 rfl ?_
 refine O0 3 J (Z1 (UR _ _ X) J Y (Z 6 J (zO [0,1,3,7,0,0,0,0,192,480,1023] [([0,1,2,3,4,5,6,7],[3],some 8),([],[3],some 9),([],[3],some 10),([],[],none)] (by kernel_rfl) ?_)))
 refine z4 (ZK 2 J (zj J Y (ye J Y J (ZK 4 J (z5 ⟨(y6 J Y J J J z6),?_⟩)))))
 refine Z1 (tE _ _ _ _) J Y (zF (z4 (z5 ⟨(y6 J Y J J J z6),?_⟩)))
 refine Z1 (aY _ _ C _ (by omega)) J Y (zF (z4 (z5 ⟨(y6 J Y J J J z6),?_⟩)))
 refine Z1 (Vh _ _ C.X (X.S.kernel:Nat) (C.kern (P.pair p))) J Y (zF (z4 (z5 ⟨z6,?_⟩)))
 exact qz J J ⟨_,⟨rfl,rfl⟩,Sub.mk2 (yj (C:= { C with X:= { C.X with root:=(X.S.kernel:Nat),pcid:=C.kern (P.pair p) } })) Y⟩
def dropP (xs:List vB) (z:Int):List vB:=xs.filter fun y=>decide (y.pcid≠z)||y.glob
theorem yB.Ok.dropP {X:yB} (h:X.Ok) (z:Int):({ X with xs:=dropP X.xs z } :yB).Ok:=fun x hx=>h x (List.mem_filter.1 hx).1
def u4.leave (C:u4) (P:zW) (user:Nat) (p:Int):u4:= { C with X:= { C.X with root:=(user:Nat),pcid:=2*(P.ask p).1,xs:=if((P.ask p).2.2.take C.num (P.ask p).1).1 then dropP (dropP C.X.xs (2*(P.ask p).1)) (2*(P.ask p).1+1)else C.X.xs } }
theorem xR (R:List SP) (c:Nat) (C:u4) (n v:Nat) (P:zW) (X:jX) (p:Int) (hg:P.gen≤4611686018427387903):zy 113 [vp c 0,vp n 0,vp v 0,vi p] (ent vv c C::ent qm n P::ent Zs v X::R) fun w L=>w= .bool (P.ask p).2.1∧L=ent vv c (C.leave P X.S.user p)::ent qm n ((P.ask p).2.2.take C.num (P.ask p).1).2::ent Zs v X::R:=by
 refine zS (wz c C) fun y _=> ?_
 dsimp only [UZ,List.cons_append,List.nil_append]
 refine yQ (mI n P) fun hP=> ?_
 have hb:=zW.ask_bd hP p
 refine yQ (YV C.u C.X) fun hXo=> ?_
 refine SW.intro rfl Tryz.func113 rfl ?_
 refine O0 8 J (Z1 (iv _ _ P p hg) J Y (Z 12 J (fa J Y (ld J Y J (Z 1 J (Z1 (eT _ _ (P.ask p).2.2 C.num (P.ask p).1) J Y (zN (fun h25=> ?_) (fun h25=> ?_))))))))
 ·refine Z 6 J (fa J Y (ld J Y J (Z1 (U4 _ _ C.X) J Y (Z 1 J (Z0 (W4 _ (P.ask p).1 (by omega)) J (qw (wx C.u C.X) fun _ hXX=> ?_))))))
  dsimp only [VO,List.cons_append,List.nil_append]
  refine Z1 (cZ _ _ C.X.xs (2*(P.ask p).1)) J Y (zR (Sub.mk2 (p:=ent vW C.u (yB.mk C.X.cpu C.X.root C.X.pcid C.X.t (dropP C.X.xs (2*(P.ask p).1)))) (yi (a:=C.u) (X:=(yB.mk C.X.cpu C.X.root C.X.pcid C.X.t (dropP C.X.xs (2*(P.ask p).1)))) (hXo.dropP (2*(P.ask p).1))) (Sub.refl _)) ?_)
  refine Z 4 J (fa J Y (ld J Y J (Z1 (U4 _ _ (yB.mk C.X.cpu C.X.root C.X.pcid C.X.t (dropP C.X.xs (2*(P.ask p).1)))) J Y (Z 1 J (Z0 (W4 _ (P.ask p).1 (by omega)) J (ad J (qw (wx C.u (yB.mk C.X.cpu C.X.root C.X.pcid C.X.t (dropP C.X.xs (2*(P.ask p).1)))) fun _ hXX=> ?_)))))))
  dsimp only [VO,List.cons_append,List.nil_append]
  refine Z1 (cZ _ _ (dropP C.X.xs (2*(P.ask p).1)) (2*(P.ask p).1+1)) J Y (zR (Sub.mk2 (p:=ent vW C.u (yB.mk C.X.cpu C.X.root C.X.pcid C.X.t (dropP (dropP C.X.xs (2*(P.ask p).1)) (2*(P.ask p).1+1)))) (yi (a:=C.u) (X:=(yB.mk C.X.cpu C.X.root C.X.pcid C.X.t (dropP (dropP C.X.xs (2*(P.ask p).1)) (2*(P.ask p).1+1)))) ((hXo.dropP (2*(P.ask p).1)).dropP (2*(P.ask p).1+1))) (Sub.refl _)) ?_)
  refine Z 4 J (Z1 (UR _ _ X) J Y (Z 7 J (zO [0,1,3,7,0,0,32,127] [([0,1,2,3,4,5],[3],some 6),([],[3],some 7),([],[],none)] (by kernel_rfl) ?_)))
  refine z4 (ZK 2 J (zj J Y (ye J Y J (ZK 2 J (z5 ⟨(y6 J Y J J J z6),?_⟩)))))
  refine Z0 (W4 _ (P.ask p).1 (by omega)) J (zF (z4 (z5 ⟨(y6 J Y J J J z6),?_⟩)))
  refine Z1 (Vh _ _ (yB.mk C.X.cpu C.X.root C.X.pcid C.X.t (dropP (dropP C.X.xs (2*(P.ask p).1)) (2*(P.ask p).1+1))) (X.S.user:Nat) (2*(P.ask p).1)) J Y (zF (z4 (z5 ⟨z6,?_⟩)))
  refine OX 6 J (zE J J J ?_)
  have e:C.leave P X.S.user p= { C with X:= { (yB.mk C.X.cpu C.X.root C.X.pcid C.X.t (dropP (dropP C.X.xs (2*(P.ask p).1)) (2*(P.ask p).1+1)))with root:=(X.S.user:Nat),pcid:=2*(P.ask p).1 } } :=by { unfold u4.leave;rw [h25];rfl }
  rw [e]
  exact⟨_,⟨rfl,rfl⟩,Sub.mk2 (yj (C:= { C with X:= { (yB.mk C.X.cpu C.X.root C.X.pcid C.X.t (dropP (dropP C.X.xs (2*(P.ask p).1)) (2*(P.ask p).1+1)))with root:=(X.S.user:Nat),pcid:=2*(P.ask p).1 } })) Y⟩
 refine Z 6 J (Z1 (UR _ _ X) J Y (Z 7 J (zO [0,1,3,7,0,0,32,127] [([0,1,2,3,4,5],[3],some 6),([],[3],some 7),([],[],none)] (by kernel_rfl) ?_)))
 refine z4 (ZK 2 J (zj J Y (ye J Y J (ZK 2 J (z5 ⟨(y6 J Y J J J z6),?_⟩)))))
 refine Z0 (W4 _ (P.ask p).1 (by omega)) J (zF (z4 (z5 ⟨(y6 J Y J J J z6),?_⟩)))
 refine Z1 (Vh _ _ C.X (X.S.user:Nat) (2*(P.ask p).1)) J Y (zF (z4 (z5 ⟨z6,?_⟩)))
 refine OX 6 J (zE J J J ?_)
 have e:C.leave P X.S.user p= { C with X:= { C.X with root:=(X.S.user:Nat),pcid:=2*(P.ask p).1 } } :=by { unfold u4.leave;rw [h25];rfl }
 rw [e]
 exact⟨_,⟨rfl,rfl⟩,Sub.mk2 (yj (C:= { C with X:= { C.X with root:=(X.S.user:Nat),pcid:=2*(P.ask p).1 } })) Y⟩
theorem WB {z:Int} (h:0≤z):AVal.int .u64 (.lit z)=vu z.toNat:=by unfold vu;rw [Int.toNat_of_nonneg h]
def u4.warm (C:u4) (M:zA) (H:zw) (frame word:Int):Bool×u4×zw:=
 if(0≤frame∧frame<M.n)∧0≤word∧word<8 then
  (let r:=C.X.trans M H false false (8*(256+frame)+word).toNat
   if r.1.2≠0 then(false,{ C with X:=r.2.1 },r.2.2)else(true,{ C with X:=r.2.1 },(r.2.2.touch C.num r.1.1).2))else(false,C,H)
theorem aX (R:List SP) (c:Nat) (C:u4) (W:Wd) (h:Nat) (M:zA) (H:zw) (frame word:Int):zy 95 [vp c 0,.agg (Uc W),vp h 0,vi frame,vi word] (ent vv c C::ent zQ W.m M::ent qI h H::R) fun w L=>w= .bool (C.warm M H frame word).1∧L=ent vv c (C.warm M H frame word).2.1::ent zQ W.m M::ent qI h (C.warm M H frame word).2.2::R:=by
 refine zS (wz c C) fun y _=> ?_
 dsimp only [UZ,List.cons_append,List.nil_append]
 refine yQ (qD W.m M) fun hM=> ?_
 have hn:=hM.2.1
 refine SW.intro rfl Tryz.func95 rfl ?_
 refine O0 2 J (yW rfl rfl rfl rfl fun i6=> ?_)
 refine Z 7 J (z0 (fun h14=> ?_) (fun h14=> ?_))
 ·refine Z 22 J (zE J J J ?_)
  have e:(C.warm M H frame word)=(false,C,H):=if_neg (by omega)
  rw [e]
  exact⟨_,⟨rfl,rfl⟩,Sub.mk2 (yj (C:=C)) Y⟩
 refine Z 2 J (fa J Y (ld J Y J (Z1 (vk _ _ _) J Y (Z 1 J (z0 (fun h20=> ?_) (fun h20=> ?_))))))
 ·refine Z 16 J (zE J J J ?_)
  have e:(C.warm M H frame word)=(false,C,H):=if_neg (by omega)
  rw [e]
  exact⟨_,⟨rfl,rfl⟩,Sub.mk2 (yj (C:=C)) Y⟩
 refine Z 4 J (z0 (fun h24=> ?_) (fun h24=> ?_))
 ·refine Z 12 J (zE J J J ?_)
  have e:(C.warm M H frame word)=(false,C,H):=if_neg (by omega)
  rw [e]
  exact⟨_,⟨rfl,rfl⟩,Sub.mk2 (yj (C:=C)) Y⟩
 refine Z 4 J (z0 (fun h28=> ?_) (fun h28=> ?_))
 ·refine Z 8 J (zE J J J ?_)
  have e:(C.warm M H frame word)=(false,C,H):=if_neg (by omega)
  rw [e]
  exact⟨_,⟨rfl,rfl⟩,Sub.mk2 (yj (C:=C)) Y⟩
 refine Z 5 J (zO [0,1,3,7,0,16,0,0,128,384,0,1920,3968,8191,16383,32767,32767,65535,262143] [([0,1,2,3,4,5,6,7,8,9,10,11,12],[3,5,8,9,11,12],some 13),([14,15,16,17,18],[],none)] (by kernel_rfl) ?_)
 refine z4 (ZK 2 J (zj J Y (ye J Y J (zj J Y (ye J Y J (ZK 2 J (BK J (vN rfl (fun _=>zC rfl rfl rfl (uG (by omega))) ?_))))))))
 refine ZK 1 J (BK J (vN rfl (fun _=>qT rfl rfl (yu (by omega))) ?_))
 refine js (WB (by omega)) ?_
 refine z5 ⟨(y6 J Y J J J (y6 J Y J J J (vF rfl (fun _=>zC rfl rfl rfl (vj (by omega))) rfl rfl (z3 _ rfl) (vF rfl (fun _=>zC rfl rfl rfl (uG (by omega))) rfl rfl (z3 _ rfl) (vF rfl (fun _=>zC rfl rfl rfl (vj (by omega))) rfl rfl (z3 _ rfl) (vF rfl (fun _=>qT rfl rfl (yu (by omega))) rfl rfl (by rw [WB (by omega)];exact z3 _ rfl) z6)))))),?_⟩
 refine Z3 (xF _ _ _ _ C.X M H false false (8*(256+frame)+word).toNat) J Y Y Y (zF (z4 (ZK 5 J (z5 ⟨z6,?_⟩))))
 refine OX 5 J (z0 (fun h48=> ?_) (fun h48=> ?_))
 ·refine Z 7 J (zE J J J ?_)
  have e:(C.warm M H frame word)=(false,{ C with X:=(C.X.trans M H false false (8*(256+frame)+word).toNat).2.1 },(C.X.trans M H false false (8*(256+frame)+word).toNat).2.2):=(if_pos (by omega)).trans (if_pos h48)
  rw [e]
  exact⟨_,⟨rfl,rfl⟩,Sub.mk2 (yj (C:= { C with X:=(C.X.trans M H false false (8*(256+frame)+word).toNat).2.1 })) Y⟩
 refine Z 8 J (fa J Y (ld J Y J (Z 1 J (Z1 (uD _ _ (C.X.trans M H false false (8*(256+frame)+word).toNat).2.2 C.num (C.X.trans M H false false (8*(256+frame)+word).toNat).1.1) J Y (Z 6 J (zE J J J ?_))))))
 have e:(C.warm M H frame word)=(true,{ C with X:=(C.X.trans M H false false (8*(256+frame)+word).toNat).2.1 },((C.X.trans M H false false (8*(256+frame)+word).toNat).2.2.touch C.num (C.X.trans M H false false (8*(256+frame)+word).toNat).1.1).2):=(if_pos (by omega)).trans (if_neg h48)
 rw [e]
 exact⟨_,⟨rfl,rfl⟩,Sub.mk2 (yj (C:= { C with X:=(C.X.trans M H false false (8*(256+frame)+word).toNat).2.1 })) Y⟩
theorem lM (M:zA) (hn:M.n≤64) (page:Nat): ∀k t pl,t<M.n→(M.blindFrom page k t pl).1≤64∧(M.blindFrom page k t pl).2.2.2.length≤pl.length+k:=by
 intro k
 induction k with
 |zero=>intro t pl h;exact⟨by show t≤64;omega,by show pl.length≤_;omega⟩
 |succ k ih=>
  intro t pl h
  rw [U1 M page k t pl _ _ rfl rfl]
  have hl: ∀z:Int,(pl++ [z]).length=pl.length+1:=fun z=>by rw [List.length_append];rfl
  split
  ·split
   ·refine⟨?_,?_⟩
    ·show rawN _≤64;omega
    show(pl++ [_]).length≤_;rw [hl];omega
   exact⟨Nat.zero_le _,by show(pl++ [_]).length≤_;rw [hl];omega⟩
  split
  ·exact⟨Nat.zero_le _,by show(pl++ [_]).length≤_;rw [hl];omega⟩
  split
  ·rename_i h3
   have:=ih (fN (M.wordAt t (idxN page (2-k)))) (pl++ [((8*t+idxN page (2-k):Nat):Int)]) h3
   rw [hl]at this
   exact⟨this.1,by omega⟩
  exact⟨Nat.zero_le _,by show(pl++ [_]).length≤_;rw [hl];omega⟩
theorem dA (M:zA) (hn:M.n≤64) (root page:Int):(M.blind root page).1≤64∧(M.blind root page).2.2.2.length≤3:=by
 unfold zA.blind
 split
 ·exact⟨Nat.zero_le _,Nat.zero_le _⟩
 split
 ·have:=lM M hn page.toNat 3 root.toNat [] (by omega)
  simpa using this
 exact⟨Nat.zero_le _,Nat.zero_le _⟩
def yB.seen (X:yB) (M:zA) (C:zw) (cpu page:Int):(Int×Bool×Bool)×zw:=
 if(X.find page).isSome then((((X.find page).getD dy).frame,true,true),C)else((((M.blind X.root page).1:Nat),(M.blind X.root page).2.1,(M.blind X.root page).2.2.1),C.all_ cpu (M.blind X.root page).2.2.2)
theorem yB.seen_bd {X:yB} (h:X.Ok) {M:zA} (hM:M.Ok) (C:zw) (cpu page:Int):0≤(X.seen M C cpu page).1.1∧(X.seen M C cpu page).1.1≤64:=by
 unfold yB.seen
 split
 ·rename_i e
  cases hf:X.find page with
  |none=>rw [hf]at e;cases e
  |some x=>exact h x (List.mem_of_find?_eq_some hf)
 have:=(dA M hM.2.1 X.root page).1
 show 0≤(((M.blind X.root page).1:Nat):Int)∧(((M.blind X.root page).1:Nat):Int)≤64;omega
def yB.spec (X:yB) (M:zA) (C:zw) (cpu:Int) (at_:Nat):(Nat×Bool)×zw:=
 if 4096≤at_ then((0,false),C)else
 let r:=X.seen M C cpu ((at_/8:Nat):Int)
 let line:=8*r.1.1+((at_%8:Nat):Int)
 if r.1.2.2=false∨(r.1.2.1=false∧r.2.near cpu line=false)then((0,false),r.2)else((M.rd line,(M.read line).isSome),(r.2.touch cpu line).2)
theorem A7 (R:List SP) (m c u:Nat) (M:zA) (C:zw) (X:yB) (cpu:Int) (page:Int):zy 148 [vp m 0,vp c 0,vp u 0,vi cpu,vi page] (ent zQ m M::ent qI c C::ent vW u X::R) fun w L=>w= .tuple [vi (X.seen M C cpu page).1.1,.bool (X.seen M C cpu page).1.2.1,.bool (X.seen M C cpu page).1.2.2]∧L=ent zQ m M::ent qI c (X.seen M C cpu page).2::ent vW u X::R:=by
 refine yQ (qD m M) fun hM=> ?_
 refine yQ (YV u X) fun hX=> ?_
 refine SW.intro rfl Tryz.func148 rfl ?_
 refine O0 10 J (Z1 (U4 _ _ X) J Y (Z 1 J (Z1 (mJ _ _ X) J Y (Z 1 J (qw (wx u X) fun _ hXX=> ?_)))))
 dsimp only [VO,List.cons_append,List.nil_append]
 refine Z1 (my _ _ X.xs X.pcid page) J Y (zR (Sub.mk2 (p:=ent vW u X) (yi (a:=u) (X:=X) hX) (Sub.refl _)) ?_)
 refine Z 3 J (zN (fun h26=> ?_) (fun h26=> ?_))
 ·refine zd rfl rfl rfl fun i13=> ?_
  refine sN J Y Y J J J (Z 9 J (fa J Y (ld J Y J (Z 5 J (⟨.inr rfl,_,fun _ h=>(zi (za rfl) (zi (za rfl) (zi (za rfl) q7))),?_⟩)))))
  have e:(X.seen M C cpu page)=((((X.find page).getD dy).frame,true,true),C):=if_pos h26
  rw [e]
  exact fq
 refine zd rfl rfl rfl fun i13=> ?_
 refine sN J Y Y J J J (Z 12 J (Z1 (mD _ _ X) J Y (Z 1 J (yG (lX _ _ M X.root page) rfl (fun _=>rfl) ?_))))
 rintro _ _ ⟨pv35,rfl,rfl⟩
 refine yD (v:=pv35) fun apv cpv epv hpv _=> ?_
 subst hpv
 have hpl:=(dA M hM.2.1 X.root page).2
 refine Z 14 J (yo rfl (fun _ h=>y0 rfl rfl rfl rfl rfl h) ?_)
 refine Z 3 J (zl (fun j T L=> ∃(q:Nat),(q≤(M.blind X.root page).2.2.2.length)∧j=(M.blind X.root page).2.2.2.length-q∧T.len=4∧Tm.get 1 T=some (vp c 0)∧Tm.get 3 T=some (vi cpu)∧Tm.get 10 T=some (vi ((M.blind X.root page).1:Nat))∧Tm.get 11 T=some (.bool (M.blind X.root page).2.1)∧Tm.get 12 T=some (.bool (M.blind X.root page).2.2.1)∧Tm.get 40 T=some ((.slice apv (M.blind X.root page).2.2.2.length cpv epv))∧Tm.get 41 T=some (vi ((M.blind X.root page).2.2.2.length:Nat))∧Tm.get 42 T=some (vi (q:Nat))∧Sub L (ent qI c (C.all_ cpu ((M.blind X.root page).2.2.2.take q))::ent (zP yK 1) (.slice apv (M.blind X.root page).2.2.2.length cpv epv) (M.blind X.root page).2.2.2::ent vW u X::ent zQ m M::R)) ((M.blind X.root page).2.2.2.length) ⟨0,by omega,by omega,rfl,rfl,rfl,rfl,rfl,rfl,rfl,rfl,rfl,(by rw [List.take_zero];exact(show Sub _ (ent qI c C::ent (zP yK 1) (.slice apv (M.blind X.root page).2.2.2.length cpv epv) (M.blind X.root page).2.2.2::ent vW u X::ent zQ m M::R)from Y))⟩ ?_)
 rintro j T L0 ⟨q,hq,rfl,hl,g1,g3,g10,g11,g12,g40,g41,g42,hsb⟩
 obtain⟨tg,rfl⟩:=Di hl g1 g3 g10 g11 g12 g40 g41 g42
 clear hl g1 g3 g10 g11 g12 g40 g41 g42
 refine zu hsb ?_
 clear hsb L0
 refine O0 3 J (z0 (fun h43=> ?_) (fun h43=> ?_))
 ·refine Z 8 J ?_
  obtain⟨z,hz⟩: ∃z,(M.blind X.root page).2.2.2[q]? =some z:=⟨(M.blind X.root page).2.2.2[q]'(by omega),List.getElem?_eq_getElem (by omega)⟩
  refine yo rfl (fun _ h=>yM rfl rfl rfl (by omega) (by omega) h) ?_
  refine lE 0 J Y J hz J (Z 6 J (Z1 (uD _ _ (C.all_ cpu ((M.blind X.root page).2.2.2.take q)) _ _) J Y (Z 2 J (ad J (Z 2 J ?_)))))
  exact Or.inl ⟨rfl,_,by omega,q+1,by omega,rfl,rfl,rfl,rfl,rfl,rfl,rfl,rfl,rfl,rfl,(by rw [zw.all_more hz];exact Y)⟩
 refine Z 4 J (Or.inr ⟨nofun,?_⟩)
 refine OX 10 J (⟨.inr rfl,_,fun _ h=>(zi (za rfl) (zi (za rfl) (zi (za rfl) q7))),?_⟩)
 have hql:q=(M.blind X.root page).2.2.2.length:=by omega
 subst hql
 rw [List.take_length]
 have e:(X.seen M C cpu page)=(((((M.blind X.root page).1:Nat):Int),(M.blind X.root page).2.1,(M.blind X.root page).2.2.1),C.all_ cpu (M.blind X.root page).2.2.2):=if_neg (by rw [h26];nofun)
 rw [e]
 exact fq
theorem Vo (R:List SP) (m c u:Nat) (M:zA) (C:zw) (X:yB) (cpu:Int) (at_:Nat):zy 96 [vp m 0,vp c 0,vp u 0,vi cpu,vu at_] (ent zQ m M::ent qI c C::ent vW u X::R) fun w L=>w= .tuple [vu (X.spec M C cpu at_).1.1,.bool (X.spec M C cpu at_).1.2]∧L=ent zQ m M::ent qI c (X.spec M C cpu at_).2::ent vW u X::R:=by
 refine yQ (qD m M) fun hM=> ?_
 refine yQ (YV u X) fun hX=> ?_
 have hb:=yB.seen_bd hX hM C cpu ((at_/8:Nat):Int)
 refine SW.intro rfl Tryz.func96 rfl ?_
 refine O0 10 J (z0 (fun h17=> ?_) (fun h17=> ?_))
 ·refine Z 8 J (qO J J J J ?_)
  have e:(X.spec M C cpu at_)=((0,false),C):=if_pos (by omega)
  rw [e]
  exact fq
 refine Z 10 J (zf rfl (fun _=>zC rfl rfl rfl (pW (y:=8) (by omega) (by decide))) ?_)
 refine zf rfl (fun _=>qT rfl rfl (wi (by omega))) ?_
 refine yn (w:=vi ((at_/8:Nat):Int)) (by rw [Int.natCast_ediv];rfl) ?_
 refine Z3 (A7 _ _ _ _ M C X cpu ((at_/8:Nat):Int)) J Y Y Y (Z 3 J (zN (fun h28=> ?_) (fun h28=> ?_)))
 ·refine Z 1 J (zN (fun h29=> ?_) (fun h29=> ?_))
  ·refine Z 7 J (ml J (Z 1 J (zf rfl (fun _=>zC rfl rfl rfl (Uj (y:=8) (by omega) (by decide))) ?_)))
   refine zf rfl (fun _=>qT rfl rfl (wi (by omega))) ?_
   refine yn (w:=vi ((at_%8:Nat):Int)) (by rw [Int.natCast_emod];rfl) ?_
   refine ad J (Z 26 J (Z1 (uD _ _ (X.seen M C cpu ((at_/8:Nat):Int)).2 cpu (8*(X.seen M C cpu ((at_/8:Nat):Int)).1.1+((at_%8:Nat):Int))) J Y (Z 5 J (Z1 (Wt _ _ M _ (by omega)) J Y (Z 6 J (qO J J J J ?_))))))
   have hr: ¬((X.seen M C cpu ((at_/8:Nat):Int)).1.2.2=false∨((X.seen M C cpu ((at_/8:Nat):Int)).1.2.1=false∧(X.seen M C cpu ((at_/8:Nat):Int)).2.near cpu (8*(X.seen M C cpu ((at_/8:Nat):Int)).1.1+((at_%8:Nat):Int))=false)):=by
    rintro (h|⟨h,h2⟩)
    ·rw [h29]at h;cases h
    rw [h28]at h;cases h
   have e:(X.spec M C cpu at_)=((M.rd (8*(X.seen M C cpu ((at_/8:Nat):Int)).1.1+((at_%8:Nat):Int)),(M.read (8*(X.seen M C cpu ((at_/8:Nat):Int)).1.1+((at_%8:Nat):Int))).isSome),((X.seen M C cpu ((at_/8:Nat):Int)).2.touch cpu (8*(X.seen M C cpu ((at_/8:Nat):Int)).1.1+((at_%8:Nat):Int))).2):=(if_neg (by omega)).trans (if_neg hr)
   rw [e]
   exact fq
  refine Z 7 J (ml J (Z 1 J (zf rfl (fun _=>zC rfl rfl rfl (Uj (y:=8) (by omega) (by decide))) ?_)))
  refine zf rfl (fun _=>qT rfl rfl (wi (by omega))) ?_
  refine yn (w:=vi ((at_%8:Nat):Int)) (by rw [Int.natCast_emod];rfl) ?_
  refine ad J (Z 26 J (qO J J J J ?_))
  have e:(X.spec M C cpu at_)=((0,false),(X.seen M C cpu ((at_/8:Nat):Int)).2):=(if_neg (by omega)).trans (if_pos (.inl h29))
  rw [e]
  exact fq
 refine Z 1 J (zN (fun h29=> ?_) (fun h29=> ?_))
 ·refine Z 7 J (ml J (Z 1 J (zf rfl (fun _=>zC rfl rfl rfl (Uj (y:=8) (by omega) (by decide))) ?_)))
  refine zf rfl (fun _=>qT rfl rfl (wi (by omega))) ?_
  refine yn (w:=vi ((at_%8:Nat):Int)) (by rw [Int.natCast_emod];rfl) ?_
  refine ad J (Z 14 J (Z1 (eH _ _ (X.seen M C cpu ((at_/8:Nat):Int)).2 cpu (8*(X.seen M C cpu ((at_/8:Nat):Int)).1.1+((at_%8:Nat):Int))) J Y (zN (fun h45=> ?_) (fun h45=> ?_))))
  ·refine Z 11 J (Z1 (uD _ _ (X.seen M C cpu ((at_/8:Nat):Int)).2 cpu (8*(X.seen M C cpu ((at_/8:Nat):Int)).1.1+((at_%8:Nat):Int))) J Y (Z 5 J (Z1 (Wt _ _ M _ (by omega)) J Y (Z 6 J (qO J J J J ?_)))))
   have hr: ¬((X.seen M C cpu ((at_/8:Nat):Int)).1.2.2=false∨((X.seen M C cpu ((at_/8:Nat):Int)).1.2.1=false∧(X.seen M C cpu ((at_/8:Nat):Int)).2.near cpu (8*(X.seen M C cpu ((at_/8:Nat):Int)).1.1+((at_%8:Nat):Int))=false)):=by
    rintro (h|⟨h,h2⟩)
    ·rw [h29]at h;cases h
    rw [h45]at h2;cases h2
   have e:(X.spec M C cpu at_)=((M.rd (8*(X.seen M C cpu ((at_/8:Nat):Int)).1.1+((at_%8:Nat):Int)),(M.read (8*(X.seen M C cpu ((at_/8:Nat):Int)).1.1+((at_%8:Nat):Int))).isSome),((X.seen M C cpu ((at_/8:Nat):Int)).2.touch cpu (8*(X.seen M C cpu ((at_/8:Nat):Int)).1.1+((at_%8:Nat):Int))).2):=(if_neg (by omega)).trans (if_neg hr)
   rw [e]
   exact fq
  refine Z 11 J (qO J J J J ?_)
  have e:(X.spec M C cpu at_)=((0,false),(X.seen M C cpu ((at_/8:Nat):Int)).2):=(if_neg (by omega)).trans (if_pos (.inr ⟨h28,h45⟩))
  rw [e]
  exact fq
 refine Z 7 J (ml J (Z 1 J (zf rfl (fun _=>zC rfl rfl rfl (Uj (y:=8) (by omega) (by decide))) ?_)))
 refine zf rfl (fun _=>qT rfl rfl (wi (by omega))) ?_
 refine yn (w:=vi ((at_%8:Nat):Int)) (by rw [Int.natCast_emod];rfl) ?_
 refine ad J (Z 26 J (qO J J J J ?_))
 have e:(X.spec M C cpu at_)=((0,false),(X.seen M C cpu ((at_/8:Nat):Int)).2):=(if_neg (by omega)).trans (if_pos (.inl h29))
 rw [e]
 exact fq
def digOf (digit:Int):Nat:=if digit<0∨64≤digit then 0 else digit.toNat
theorem cC (a:Nat):Nat.land a 1≤1:=by
 have:Nat.land a 1=a%2:=Nat.and_one_is_mod a
 rw [this];omega
theorem iu (x d:Nat) (h:x≤18446744073709551615):x/2^d≤18446744073709551615:=Nat.le_trans (Nat.div_le_self _ _) h
theorem eO {X:yB} {M:zA} (hM:M.Ok) (C:zw) (cpu:Int) (at_:Nat):(X.spec M C cpu at_).1.1≤18446744073709551615:=by
 unfold yB.spec
 split
 ·exact Nat.zero_le _
 simp only
 split
 ·exact Nat.zero_le _
 exact zA.rd_le hM _
def yB.chain (X:yB) (M:zA) (C:zw) (cpu:Int) (at_ base:Nat) (digit:Int):Int×zw:=
 if(X.spec M C cpu at_).1.2=false then(0,(X.spec M C cpu at_).2)else
 let r:=X.spec M (X.spec M C cpu at_).2 cpu (uadd base (8*Nat.land ((X.spec M C cpu at_).1.1/2^digOf digit) 1))
 if r.1.2=false then(1,r.2)else(2,r.2)
theorem rV (R:List SP) (m c u:Nat) (M:zA) (C:zw) (X:yB) (cpu:Int) (at_ base:Nat) (digit:Int):zy 58 [vp m 0,vp c 0,vp u 0,vi cpu,vu at_,vu base,vi digit] (ent zQ m M::ent qI c C::ent vW u X::R) fun w L=>w=vi (X.chain M C cpu at_ base digit).1∧L=ent zQ m M::ent qI c (X.chain M C cpu at_ base digit).2::ent vW u X::R:=by
 refine yQ (qD m M) fun hM=> ?_
 have hx:=eO (X:=X) hM C cpu at_
 have hs:=iu (X.spec M C cpu at_).1.1 (digOf digit) hx
 have hl1:=cC ((X.spec M C cpu at_).1.1/2^digOf digit)
 have hd64:digOf digit≤63:=by unfold digOf;split<;>omega
 refine SW.intro rfl Tryz.func58 rfl ?_
 refine O0 11 J (Z3 (Vo _ _ _ _ M C X cpu at_) J Y Y Y (Z 3 J (zN (fun h25=> ?_) (fun h25=> ?_))))
 ·refine Z 16 J (z0 (fun h29=> ?_) (fun h29=> ?_))
  ·refine Z 19 J (yn (w:=vi (digOf digit:Nat)) (by unfold digOf;rw [if_pos (by omega)];rfl) ?_)
   refine zf rfl (fun _=>zC rfl rfl rfl (b9 (a:=(X.spec M C cpu at_).1.1) (b:=digOf digit) (by omega) (by show _≤64;omega))) ?_
   refine zf rfl (fun _=>zC rfl rfl rfl (vb (op:= .and) (a:=((X.spec M C cpu at_).1.1/2^digOf digit)) (b:=1) (r:=Nat.land ((X.spec M C cpu at_).1.1/2^digOf digit) 1) rfl hs (by decide))) ?_
   refine zf rfl (fun _=>zC rfl rfl rfl (b_num (.inr (.inr ⟨rfl,rfl⟩)) rfl (yu (by omega)))) ?_
   refine yn (w:=vu (8*Nat.land ((X.spec M C cpu at_).1.1/2^digOf digit) 1)) (by unfold vu;rw [Int.natCast_mul];rfl) ?_
   refine zf rfl (fun _=>zC rfl rfl rfl YH) ?_
   refine Z3 (Vo _ _ _ _ M (X.spec M C cpu at_).2 X cpu (uadd base (8*Nat.land ((X.spec M C cpu at_).1.1/2^digOf digit) 1))) J Y Y Y (Z 3 J (zN (fun h48=> ?_) (fun h48=> ?_)))
   ·refine Z 14 J (zE J J J ?_)
    have e:(X.chain M C cpu at_ base digit)=(2,(X.spec M (X.spec M C cpu at_).2 cpu (uadd base (8*Nat.land ((X.spec M C cpu at_).1.1/2^digOf digit) 1))).2):=(if_neg (by rw [h25];nofun)).trans (if_neg (by rw [h48];nofun))
    rw [e]
    exact fq
   refine Z 13 J (zE J J J ?_)
   have e:(X.chain M C cpu at_ base digit)=(1,(X.spec M (X.spec M C cpu at_).2 cpu (uadd base (8*Nat.land ((X.spec M C cpu at_).1.1/2^digOf digit) 1))).2):=(if_neg (by rw [h25];nofun)).trans (if_pos h48)
   rw [e]
   exact fq
  refine Z 3 J (z0 (fun h32=> ?_) (fun h32=> ?_))
  ·refine Z 16 J (yn (w:=vi (digOf digit:Nat)) (by unfold digOf;rw [if_pos (by omega)];rfl) ?_)
   refine zf rfl (fun _=>zC rfl rfl rfl (b9 (a:=(X.spec M C cpu at_).1.1) (b:=digOf digit) (by omega) (by show _≤64;omega))) ?_
   refine zf rfl (fun _=>zC rfl rfl rfl (vb (op:= .and) (a:=((X.spec M C cpu at_).1.1/2^digOf digit)) (b:=1) (r:=Nat.land ((X.spec M C cpu at_).1.1/2^digOf digit) 1) rfl hs (by decide))) ?_
   refine zf rfl (fun _=>zC rfl rfl rfl (b_num (.inr (.inr ⟨rfl,rfl⟩)) rfl (yu (by omega)))) ?_
   refine yn (w:=vu (8*Nat.land ((X.spec M C cpu at_).1.1/2^digOf digit) 1)) (by unfold vu;rw [Int.natCast_mul];rfl) ?_
   refine zf rfl (fun _=>zC rfl rfl rfl YH) ?_
   refine Z3 (Vo _ _ _ _ M (X.spec M C cpu at_).2 X cpu (uadd base (8*Nat.land ((X.spec M C cpu at_).1.1/2^digOf digit) 1))) J Y Y Y (Z 3 J (zN (fun h48=> ?_) (fun h48=> ?_)))
   ·refine Z 14 J (zE J J J ?_)
    have e:(X.chain M C cpu at_ base digit)=(2,(X.spec M (X.spec M C cpu at_).2 cpu (uadd base (8*Nat.land ((X.spec M C cpu at_).1.1/2^digOf digit) 1))).2):=(if_neg (by rw [h25];nofun)).trans (if_neg (by rw [h48];nofun))
    rw [e]
    exact fq
   refine Z 13 J (zE J J J ?_)
   have e:(X.chain M C cpu at_ base digit)=(1,(X.spec M (X.spec M C cpu at_).2 cpu (uadd base (8*Nat.land ((X.spec M C cpu at_).1.1/2^digOf digit) 1))).2):=(if_neg (by rw [h25];nofun)).trans (if_pos h48)
   rw [e]
   exact fq
  refine Z 14 J (yn (w:=vi (digOf digit:Nat)) (by unfold digOf;rw [if_neg (by omega),Int.toNat_of_nonneg (by omega)]) ?_)
  refine zf rfl (fun _=>zC rfl rfl rfl (b9 (a:=(X.spec M C cpu at_).1.1) (b:=digOf digit) (by omega) (by show _≤64;omega))) ?_
  refine zf rfl (fun _=>zC rfl rfl rfl (vb (op:= .and) (a:=((X.spec M C cpu at_).1.1/2^digOf digit)) (b:=1) (r:=Nat.land ((X.spec M C cpu at_).1.1/2^digOf digit) 1) rfl hs (by decide))) ?_
  refine zf rfl (fun _=>zC rfl rfl rfl (b_num (.inr (.inr ⟨rfl,rfl⟩)) rfl (yu (by omega)))) ?_
  refine yn (w:=vu (8*Nat.land ((X.spec M C cpu at_).1.1/2^digOf digit) 1)) (by unfold vu;rw [Int.natCast_mul];rfl) ?_
  refine zf rfl (fun _=>zC rfl rfl rfl YH) ?_
  refine Z3 (Vo _ _ _ _ M (X.spec M C cpu at_).2 X cpu (uadd base (8*Nat.land ((X.spec M C cpu at_).1.1/2^digOf digit) 1))) J Y Y Y (Z 3 J (zN (fun h48=> ?_) (fun h48=> ?_)))
  ·refine Z 14 J (zE J J J ?_)
   have e:(X.chain M C cpu at_ base digit)=(2,(X.spec M (X.spec M C cpu at_).2 cpu (uadd base (8*Nat.land ((X.spec M C cpu at_).1.1/2^digOf digit) 1))).2):=(if_neg (by rw [h25];nofun)).trans (if_neg (by rw [h48];nofun))
   rw [e]
   exact fq
  refine Z 13 J (zE J J J ?_)
  have e:(X.chain M C cpu at_ base digit)=(1,(X.spec M (X.spec M C cpu at_).2 cpu (uadd base (8*Nat.land ((X.spec M C cpu at_).1.1/2^digOf digit) 1))).2):=(if_neg (by rw [h25];nofun)).trans (if_pos h48)
  rw [e]
  exact fq
 refine Z 15 J (zE J J J ?_)
 have e:(X.chain M C cpu at_ base digit)=(0,(X.spec M C cpu at_).2):=if_pos h25
 rw [e]
 exact fq
def CE (k:Nat):List Nat:= [[115,101,116],[97,100,100],[108,111,97,100],[115,116,111,114,101],[99,108,101,97,114],[106,117,109,112],[99,97,108,108]].getD k []
def DG (k:Nat):Bool:= [true,true,true,true,false,true,false].getD k false
def DA (k:Nat):Bool:= [false,true,true,true,true,false,false].getD k false
def Da (k:Nat):Bool:= [true,false,true,true,true,true,true].getD k false
def rZ (k:Nat):Int:= [0,0,0,0,0,0,1].getD k 0
def cO (k:Nat):Int:= [65535,0,65535,65535,65535,23,9].getD k 0
def bR (j:Nat):AVal:=match j%6 with
 |0=> .str (CE (j/6))
 |1=> .bool (DG (j/6))
 |2=> .bool (DA (j/6))
 |3=> .bool (Da (j/6))
 |4=>vi (rZ (j/6))
 |_=>vi (cO (j/6))
def xd (k:Nat):List AVal:= [.str (CE k),.bool (DG k),.bool (DA k),.bool (Da k),vi (rZ k),vi (cO k)]
theorem xB {k:Nat} (h:k<7):zY bR (k*6+0) 6=xd k:=by
 rcases(by omega:k=0∨k=1∨k=2∨k=3∨k=4∨k=5∨k=6)with rfl|rfl|rfl|rfl|rfl|rfl|rfl<;>rfl
theorem lq {k:Nat} (h:k<7):Yw (.agg (xd k)) (.agg (xd k))=true:=by
 rcases(by omega:k=0∨k=1∨k=2∨k=3∨k=4∨k=5∨k=6)with rfl|rfl|rfl|rfl|rfl|rfl|rfl<;>rfl
theorem nK {i:Nat} (cs:List AVal) (h:cs=(List.range 42).map bR): ∀f,z8 i cs f→zI i (42,bR) f:=by
 have hl:cs.length=42:=by rw [h];simp
 intro f hf
 have:=wG (f:=bR) (fun j hj=>by rw [hl]at hj;rw [h,List.getElem?_map,List.getElem?_range hj];rfl) f hf
 rw [hl]at this;exact this
def Qt (u:Bool) (x:Int):Bool:=if u then decide (0≤x∧x<8)else decide (x=0)
def yp (op a b n:Int):Bool:=decide (1≤op∧op≤7) && (Qt (DG (op-1).toNat) a && (Qt (DA (op-1).toNat) b && decide (rZ (op-1).toNat≤n∧n≤cO (op-1).toNat)))
theorem lk (R:List SP):zy 153 [] (R) fun v L=> ∃i,v= .slice (some (i,0)) 7 (some 7) 6∧L=ent zI i (42,bR)::R:=by
 refine SW.intro rfl Tryz.func153 rfl ?_
 refine O0 6 J (bu [_,_,_,_,_,_] J Y Y J (bu [_,_,_,_,_,_] J Y Y J (bu [_,_,_,_,_,_] J Y Y J (bu [_,_,_,_,_,_] J Y Y J (bu [_,_,_,_,_,_] J Y Y J (bu [_,_,_,_,_,_] J Y Y J (bu [_,_,_,_,_,_] J Y Y J (zT rfl rfl rfl (by decide) rfl fun i8=> ?_))))))))
 exact Z 3 J (zE J J J ⟨_,⟨i8,rfl,rfl⟩,Sub.one fun f hf=>nK _ (by rfl) f hf⟩)
theorem lh (R:List SP) (u:Bool) (x:Int):zy 154 [.bool u,vi x] (R) fun v L=>v= .bool (Qt u x)∧L=R:=by
 refine SW.intro rfl Tryz.func154 rfl ?_
 refine O0 8 J (zN (fun h5=> ?_) (fun h5=> ?_))
 ·refine Z 6 J (z0 (fun h7=> ?_) (fun h7=> ?_))
  ·refine Z 7 J (zE J J J (⟨_,⟨congrArg AVal.bool ?_,rfl⟩,Y⟩))
   have hu:=h5
   subst hu
   unfold Qt
   simp only [if_true]
   simp;omega
  refine Z 7 J (zE J J J (⟨_,⟨congrArg AVal.bool ?_,rfl⟩,Y⟩))
  have hu:=h5
  subst hu
  unfold Qt
  simp only [if_true]
  simp;omega
 refine Z 10 J (zE J J J (⟨_,⟨congrArg AVal.bool ?_,rfl⟩,Y⟩))
 have hu:=h5
 subst hu
 unfold Qt
 rfl
theorem Qj (R:List SP) (op a b n:Int):zy 104 [.agg [vi op,vi a,vi b,vi n]] (R) fun v L=>v=vi (if yp op a b n then 0 else 1)∧L=R:=by
 refine SW.intro rfl Tryz.func104 rfl ?_
 refine O0 2 J (yW rfl rfl rfl rfl fun i1=> ?_)
 refine Z 5 J (fa J Y (ld J Y J (Z 1 J (z0 (fun h6=> ?_) (fun h6=> ?_)))))
 ·refine Z 12 J (zE J J J ?_)
  have e:yp op a b n=false:=by
   unfold yp;rw [decide_eq_false (show¬(1≤op∧op≤7)by omega)];rfl
  rw [e]
  exact fq
 refine Z 1 J (fa J Y (ld J Y J (Z 1 J (z0 (fun h10=> ?_) (fun h10=> ?_)))))
 ·refine Z 8 J (zE J J J ?_)
  have e:yp op a b n=false:=by
   unfold yp;rw [decide_eq_false (show¬(1≤op∧op≤7)by omega)];rfl
  rw [e]
  exact fq
 refine Z 5 J (zO [0,0,2,6,15,31,0,127] [([1,2,3,6],[2,3],some 0),([4,5],[2,3,5],some 7),([],[],none)] (by kernel_rfl) ?_)
 refine z4 (zj J Y (ye J Y J (vN rfl (fun _=>zC rfl rfl rfl (mn (by omega))) ?_)))
 refine Vv rfl rfl rfl fun i3=> ?_
 refine z5 ⟨(y6 J Y J J J (vF rfl (fun _=>zC rfl rfl rfl (mn (by omega))) rfl rfl (z3 _ rfl) z6)),?_⟩
 refine o_call (lk _) rfl (fun _=>rfl) ?_
 rintro _ _ ⟨n12,rfl,rfl⟩
 refine zF (z4 (vN rfl (fun _=>vQ rfl rfl rfl (by omega) (by omega)) ?_))
 refine uW rfl (fun _ h=>wF (vs:=xd (op-1).toNat) rfl rfl (by omega) (by exact xB (by omega)) h) ?_
 refine z5 ⟨(y6 J Y J J J (vF rfl (fun _=>zC rfl rfl rfl (mn (by omega))) rfl rfl (z3 _ rfl) (wV rfl (fun _ h=>wF (vs:=xd (op-1).toNat) rfl rfl (by omega) (by exact xB (by omega)) h) rfl rfl (lq (by omega)) z6))),?_⟩
 refine sN J Y Y J J J (zF (z4 (z5 ⟨z6,?_⟩)))
 refine OX 3 J (fa J Y (ld J Y J (fa J Y (ld J Y J (Z0 (lh _ _ _) J (zN (fun h22=> ?_) (fun h22=> ?_)))))))
 ·refine Z 2 J (fa J Y (ld J Y J (fa J Y (ld J Y J (Z0 (lh _ _ _) J (zN (fun h29=> ?_) (fun h29=> ?_)))))))
  ·refine Z 3 J (fa J Y (ld J Y J (fa J Y (ld J Y J (Z 1 J (z0 (fun h37=> ?_) (fun h37=> ?_)))))))
   ·refine Z 15 J (zE J J J ?_)
    have e:yp op a b n=false:=by
     unfold yp;rw [decide_eq_true (show 1≤op∧op≤7 by omega),h22,h29,decide_eq_false (by omega)];rfl
    rw [e]
    exact fq
   refine Z 2 J (fa J Y (ld J Y J (fa J Y (ld J Y J (Z 1 J (z0 (fun h44=> ?_) (fun h44=> ?_)))))))
   ·refine Z 8 J (zE J J J ?_)
    have e:yp op a b n=false:=by
     unfold yp;rw [decide_eq_true (show 1≤op∧op≤7 by omega),h22,h29,decide_eq_false (by omega)];rfl
    rw [e]
    exact fq
   refine Z 9 J (zE J J J ?_)
   have e:yp op a b n=true:=by
    unfold yp;rw [decide_eq_true (show 1≤op∧op≤7 by omega),h22,h29,decide_eq_true (by omega)];rfl
   rw [e]
   exact fq
  refine Z 23 J (zE J J J ?_)
  have e:yp op a b n=false:=by
   unfold yp;rw [decide_eq_true (show 1≤op∧op≤7 by omega),h22,h29];rfl
  rw [e]
  exact fq
 refine Z 30 J (zE J J J ?_)
 have e:yp op a b n=false:=by
  unfold yp;rw [decide_eq_true (show 1≤op∧op≤7 by omega),h22];rfl
 rw [e]
 exact fq
abbrev jC (w:Nat→Nat) (v:AVal) (pc:Int):List AVal:= [vu (w 0),vu (w 1),vu (w 2),vu (w 3),vu (w 4),vu (w 5),vu (w 6),vu (w 7),v,vi pc]
def sC (w:Nat→Nat) (v:AVal) (pc:Int):Nat→AVal
 |8=>v
 |9=>vi pc
 |j=>vu (w j)
theorem jI (w:Nat→Nat) (v:AVal) (pc:Int) {j:Nat} (h:j<8):sC w v pc j=vu (w j):=by
 rcases(by omega:j=0∨j=1∨j=2∨j=3∨j=4∨j=5∨j=6∨j=7)with rfl|rfl|rfl|rfl|rfl|rfl|rfl|rfl<;>rfl
theorem bG (w:Nat→Nat) (v:AVal) (pc:Int): ∀j,j<(jC w v pc).length→(jC w v pc)[j]? =some (sC w v pc j):=by
 intro j h
 have h:j<10:=h
 rcases(by omega:j<8∨j=8∨j=9)with h|rfl|rfl
 ·rw [jI _ _ _ h]
  rcases(by omega:j=0∨j=1∨j=2∨j=3∨j=4∨j=5∨j=6∨j=7)with rfl|rfl|rfl|rfl|rfl|rfl|rfl|rfl<;>rfl
 ·rfl
 rfl
def ZI (w:Nat→Nat) (k:Nat) (x:Nat):Nat→Nat:=fun j=>if j=k then x else w j
theorem Qq (w:Nat→Nat) (v:AVal) (pc:Int) {k i:Nat} (hk:k<8) (hi:i=k) (x:Nat):vK (sC w v pc) i (vu x)=sC (ZI w k x) v pc:=by
 subst hi
 funext j
 unfold vK
 by_cases e:j=i
 ·rw [if_pos e,e,jI _ _ _ hk];unfold ZI;rw [if_pos rfl]
 rw [if_neg e]
 by_cases h:j<8
 ·rw [jI _ _ _ h,jI _ _ _ h];unfold ZI;rw [if_neg e]
 unfold sC
 split
 ·rfl
 ·rfl
 unfold ZI;rw [if_neg e]
def D8:yl:=⟨0,0,0,0⟩
def yl.ok (x:yl):Bool:=yp x.op x.a x.b x.n
def qh (code:List yl) (pc:Int):Option yl:=if 0≤pc∧pc<code.length then(match code[pc.toNat]? with
 |some x=>if x.ok then some x else none
 |none=>none)else none
def qb (code:List yl) (pc:Int):Int:=if(code.length:Int)≤pc then 0 else pc
def qn (w:Nat→Nat) (code:List yl) (pc:Int):Option ((Nat→Nat)×Int):=match qh code pc with
 |none=>none
 |some x=>if x.op=1 then some (ZI w x.a.toNat x.n.toNat,qb code (pc+1))else if x.op=2 then some (ZI w x.a.toNat (uadd (w x.a.toNat) (w x.b.toNat)),qb code (pc+1))
  else if x.op=6 then(if w x.a.toNat≠0 then some (w,qb code x.n)else some (w,qb code (pc+1)))else none
def vA (w:Nat→Nat) (x:yl):Nat:=if x.ok then uadd (w x.b.toNat) x.n.toNat else 0
def qF (w:Nat→Nat) (x:yl) (v:Nat):Nat→Nat:=if x.ok=false then w else if x.op=3 then ZI w x.a.toNat v else if x.op=7 then ZI w 0 v else w
def Yt (w:Nat→Nat) (code:Int):Nat→Nat:=ZI w 7 (100+code).toNat
theorem xc {code:List yl} {pc:Int} {x:yl} (h:qh code pc=some x):0≤pc∧pc<code.length∧code[pc.toNat]? =some x∧x.ok=true:=by
 unfold qh at h
 split at h
 ·split at h
  ·split at h
   ·cases h;exact⟨by omega,by omega,‹_›,‹_›⟩
   cases h
  cases h
 cases h
theorem yl.ok_of {x:yl} (h:x.ok=true):1≤x.op∧x.op≤7∧0≤x.a∧x.a<8∧0≤x.b∧x.b<8∧0≤x.n∧x.n≤65535:=by
 unfold yl.ok yp at h
 simp only [Bool.and_eq_true,decide_eq_true_eq]at h
 obtain⟨h1,h2,h3,h4⟩:=h
 have r: ∀(u:Bool) (z:Int),Qt u z=true→0≤z∧z<8:=by
  intro u z h
  unfold Qt at h
  cases u with
  |true=>simp at h;omega
  |false=>simp at h;omega
 have:=r _ _ h2
 have:=r _ _ h3
 refine⟨h1.1,h1.2,by omega,by omega,by omega,by omega,?_⟩
 obtain⟨k,hk⟩: ∃k,(x.op-1).toNat=k:=⟨_,rfl⟩
 rw [hk]at h4
 rcases(by omega:k=0∨k=1∨k=2∨k=3∨k=4∨k=5∨k=6)with rfl|rfl|rfl|rfl|rfl|rfl|rfl<;>simp [rZ,cO]at h4<;>omega
theorem mg {z:Int} (h:0≤z):AVal.int .u64 (.lit z)=vu z.toNat:=by unfold vu;rw [Int.toNat_of_nonneg h]
theorem ca (code:List yl) (pc:Int):(∃x,qh code pc=some x)∨qh code pc=none:=by cases qh code pc<;>simp
theorem kY (R:List SP) (w:Nat→Nat) (v:AVal) (code:List yl) (hcl:code.length≤1000) (pc:Int):zy 87 [.agg (jC w v pc)] (ent (zP qN 4) v code::R) fun u L=>u= .tuple [.agg (qN ((qh code pc).getD D8)),.bool (qh code pc).isSome]∧L=ent (zP qN 4) v code::R:=by
 refine SW.intro rfl Tryz.func87 rfl ?_
 refine O0 2 J (yW rfl rfl rfl rfl fun i1=> ?_)
 refine zd rfl rfl rfl fun i2=> ?_
 refine Z 5 J (fa J Y (ld J Y J (Z 1 J (z0 (fun h6=> ?_) (fun h6=> ?_)))))
 ·refine Z 22 J (bu [_,_,_,_] J Y Y J (sN J Y Y J J J (Z 3 J (⟨.inr rfl,_,fun _ h=>(zi (y8 rfl (yS rfl (Nat.le_of_ble_eq_true rfl) h)) (zi (za rfl) q7)),?_⟩))))
  have e:qh code pc=none:=by { unfold qh;rw [if_neg (by omega)] }
  rw [e]
  exact fq
 refine Z 1 J (fa J Y (ld J Y J (fa J Y (ld J Y J (yo rfl (fun _ h=>y0 rfl rfl rfl rfl rfl h) ?_)))))
 refine Z 1 J (z0 (fun h13=> ?_) (fun h13=> ?_))
 ·refine Z 15 J (bu [_,_,_,_] J Y Y J (sN J Y Y J J J (Z 3 J (⟨.inr rfl,_,fun _ h=>(zi (y8 rfl (yS rfl (Nat.le_of_ble_eq_true rfl) h)) (zi (za rfl) q7)),?_⟩))))
  have e:qh code pc=none:=by { unfold qh;rw [if_neg (by omega)] }
  rw [e]
  exact fq
 refine Z 2 J (fa J Y (ld J Y J (fa J Y (ld J Y J ?_))))
 obtain⟨x,hx⟩: ∃x,code[pc.toNat]? =some x:=⟨code[pc.toNat]'(by omega),List.getElem?_eq_getElem (by omega)⟩
 refine yo rfl (fun _ h=>yM rfl rfl rfl (by omega) (by omega) h) ?_
 refine yo rfl (fun _ h=>Wo rfl rfl rfl hx h) ?_
 refine Z0 (Qj _ _ _ _ _) J ?_
 rcases Bool.eq_false_or_eq_true x.ok with hI|hI
 ·rw [if_pos (show yp x.op x.a x.b x.n=true from hI)]
  refine zf rfl (fun _=>zC rfl rfl rfl (vI rfl)) (qM (by omega) ?_)
  refine Z 6 J (fa J Y (ld J Y J (fa J Y (ld J Y J (yo rfl (fun _ h=>yM rfl rfl rfl (by omega) (by omega) h) ?_)))))
  refine yo rfl (fun _ h=>Wo rfl rfl rfl hx h) ?_
  refine sN J Y Y J J J (Z 3 J (⟨.inr rfl,_,fun _ h=>(zi (y8 rfl (yS rfl (Nat.le_of_ble_eq_true rfl) h)) (zi (za rfl) q7)),?_⟩))
  have e:qh code pc=some x:=by { unfold qh;rw [if_pos (by omega),hx];exact if_pos hI }
  rw [e]
  exact fq
 rw [if_neg (show¬yp x.op x.a x.b x.n=true from fun e=>by rw [show yp x.op x.a x.b x.n=x.ok from rfl,hI]at e;cases e)]
 refine zf rfl (fun _=>zC rfl rfl rfl (vI rfl)) (GM (by omega) ?_)
 refine Z 5 J (bu [_,_,_,_] J Y Y J (sN J Y Y J J J (Z 3 J (⟨.inr rfl,_,fun _ h=>(zi (y8 rfl (yS rfl (Nat.le_of_ble_eq_true rfl) h)) (zi (za rfl) q7)),?_⟩))))
 have e:qh code pc=none:=by { unfold qh;rw [if_pos (by omega),hx];exact if_neg (by rw [hI];nofun) }
 rw [e]
 exact fq
theorem mW (R:List SP) (w:Nat→Nat) (v:AVal) (code:List yl) (hcl:code.length≤1000) (p0 pc:Int):zy 140 [.agg (jC w v p0),vi pc] (ent (zP qN 4) v code::R) fun u L=> ∃v2,u= .agg (jC w v2 (qb code pc))∧L=ent (zP qN 4) v2 code::ent (zP qN 4) v code::R:=by
 refine SW.intro rfl Tryz.func140 rfl ?_
 refine O0 2 J (yW rfl rfl rfl rfl fun i2=> ?_)
 refine zd rfl rfl rfl fun i4=> ?_
 refine Z 3 J (fa J Y (ld J Y J (yG (Wq _ _ _ (by omega)) rfl (fun _=>rfl) ?_)))
 rintro u7 _ rfl
 refine yD (v:=u7) fun au7 cu7 eu7 hvu7 _=> ?_
 subst hvu7
 refine fa J Y (sO J Y J J J (Z 4 J (fa J Y (sO J Y J J J (Z 4 J (fa J Y (ld J Y J (fa J Y (ld J Y J (yo rfl (fun _ h=>y0 rfl rfl rfl rfl rfl h) ?_))))))))))
 refine Z 1 J (z0 (fun h16=> ?_) (fun h16=> ?_))
 ·refine Z 3 J (fa J Y (sO J Y J J J (Z 3 J (lN J Y Y J J (sN J Y Y J J J (Z 2 J (⟨.inr rfl,_,fun _ h=>(zi (y8 rfl (yS rfl (Nat.le_of_ble_eq_true rfl) h)) q7),?_⟩)))))))
  have e:qb code pc=0:=if_pos h16
  rw [e]
  exact⟨_,⟨_,rfl,rfl⟩,Y⟩
 refine Z 5 J (lN J Y Y J J (sN J Y Y J J J (Z 2 J (⟨.inr rfl,_,fun _ h=>(zi (y8 rfl (yS rfl (Nat.le_of_ble_eq_true rfl) h)) q7),?_⟩))))
 have e:qb code pc=pc:=if_neg h16
 rw [e]
 exact⟨_,⟨_,rfl,rfl⟩,Y⟩
theorem bC (R:List SP) (w:Nat→Nat) (v:AVal) (code:List yl) (hcl:code.length≤1000) (pc:Int):zy 90 [.agg (jC w v pc)] (ent (zP qN 4) v code::R) fun u L=>match qn w code pc with
 |some (w2,p2)=> ∃v2,u= .tuple [.agg (jC w2 v2 p2),.bool true]∧L=ent (zP qN 4) v2 code::ent (zP qN 4) v code::R
 |none=>u= .tuple [.agg (jC (fun _=>0) (.slice none 0 (some 0) 0) 0),.bool false]∧L=ent (zP qN 4) v code::R:=by
 refine SW.intro rfl Tryz.func90 rfl ?_
 refine O0 2 J (yW rfl rfl rfl rfl fun i1=> ?_)
 refine zd rfl rfl rfl fun i2=> ?_
 refine Z 4 J (lN J Y Y J J (Z1 (kY _ _ _ _ (by omega) _) J Y ?_))
 rcases ca code pc with⟨x,hN⟩|hN
 ·rw [hN]
  dsimp only [Option.getD,Option.isSome]
  have hx:=xc hN
  have ho:=yl.ok_of hx.2.2.2
  refine Z 3 J (zd rfl rfl rfl fun i4=> ?_)
  refine sN J Y Y J J J (Z 12 J (lN J Y Y J J (fa J Y (ld J Y J (ad J (yG (mW _ _ _ code (by omega) _ _) rfl (fun _=>rfl) ?_))))))
  rintro _ _ ⟨v19,rfl,rfl⟩
  refine yD (v:=v19) fun av19 cv19 ev19 hvv19 _=> ?_
  subst hvv19
  refine zd rfl rfl rfl fun i6=> ?_
  refine sN J Y Y J J J (Yn (i:=i6) (n:=10) (sC w (.slice av19 code.length cv19 ev19) (qb code (pc+1))) rfl (bG w (.slice av19 code.length cv19 ev19) (qb code (pc+1))) ?_)
  refine Z 4 J (fa J Y (ld J Y J (Z 5 J (z0 (fun h24=> ?_) (fun h24=> ?_)))))
  ·refine Z 4 J (fa J Y (ld J Y J (fa J Y (ld J Y J (zf rfl (fun _=>qT rfl rfl (yu (by omega))) ?_)))))
   refine yn (mg (by omega)) ?_
   refine fa J Y (zf rfl (fun _=>zh rfl rfl rfl (by omega) (by omega)) ?_)
   refine sF J Y J J (Z 3 J (yo rfl (fun _ h=>wF (vs:=jC (ZI w x.a.toNat x.n.toNat) (.slice av19 code.length cv19 ev19) (qb code (pc+1))) rfl rfl (by omega) (by rw [Qq _ _ _ (k:=x.a.toNat) (by omega) (by omega)];rfl) h) ?_))
   refine sN J Y Y J J J (Z 3 J (⟨.inr rfl,_,fun _ h=>(zi (y8 rfl (yS rfl (Nat.le_of_ble_eq_true rfl) h)) (zi (za rfl) q7)),?_⟩))
   have e:qn w code pc=some (ZI w x.a.toNat x.n.toNat,(qb code (pc+1))):=by { unfold qn;rw [hN];exact if_pos h24 }
   rw [e]
   exact⟨_,⟨_,rfl,rfl⟩,Y⟩
  refine Z 6 J (z0 (fun h33=> ?_) (fun h33=> ?_))
  ·refine Z 3 J (zO [0,1,0,4,0,28,60,0,128,0,896,1920,4092,0,16383,32767] [([0,1,2,3,4,5,6,7,8,9,10,11,12,13,14],[1,3,6,8,11,12],some 15),([],[],none)] (by kernel_rfl) ?_)
   refine z4 (zj J Y (ye J Y J (zj J Y (ye J Y J (zj J Y (vN rfl (fun _=>zh rfl rfl rfl (by omega) (by omega)) ?_))))))
   refine jS J Y (jI _ _ _ (by omega)) (zj J Y (ye J Y J (zj J Y (vN rfl (fun _=>zh rfl rfl rfl (by omega) (by omega)) ?_))))
   refine jS J Y (jI _ _ _ (by omega)) (vN rfl (fun _=>zC rfl rfl rfl YH) ?_)
   refine zj J Y (vN rfl (fun _=>zh rfl rfl rfl (by omega) (by omega)) ?_)
   refine z5 ⟨(y6 J Y J J J (y6 J Y J J J (uY J Y (jI _ _ _ (by omega)) J (z3 _ rfl) (y6 J Y J J J (uY J Y (jI _ _ _ (by omega)) J (z3 _ rfl) (vF rfl (fun _=>zC rfl rfl rfl YH) rfl rfl (z3 _ rfl) z6)))))),?_⟩
   refine sF J Y J J (zF (z4 (z5 ⟨z6,?_⟩)))
   refine OX 2 J (yo rfl (fun _ h=>wF (vs:=jC (ZI w x.a.toNat (uadd (w x.a.toNat) (w x.b.toNat))) (.slice av19 code.length cv19 ev19) (qb code (pc+1))) rfl rfl (by omega) (by rw [Qq _ _ _ (k:=x.a.toNat) (by omega) (by omega)];rfl) h) ?_)
   refine sN J Y Y J J J (Z 3 J (⟨.inr rfl,_,fun _ h=>(zi (y8 rfl (yS rfl (Nat.le_of_ble_eq_true rfl) h)) (zi (za rfl) q7)),?_⟩))
   have e:qn w code pc=some (ZI w x.a.toNat (uadd (w x.a.toNat) (w x.b.toNat)),(qb code (pc+1))):=by { unfold qn;rw [hN];exact(if_neg h24).trans (if_pos h33) }
   rw [e]
   exact⟨_,⟨_,rfl,rfl⟩,Y⟩
  refine Z 6 J (z0 (fun h50=> ?_) (fun h50=> ?_))
  ·refine Z 5 J (fa J Y (ld J Y J (Yn (i:=i1) (n:=10) (sC w v pc) rfl (bG w v pc) ?_)))
   refine fa J Y (zf rfl (fun _=>zh rfl rfl rfl (by omega) (by omega)) ?_)
   refine lf J Y (jI _ _ _ (by omega)) (Z 1 J (z0 (fun h56=> ?_) (fun h56=> ?_)))
   ·refine Z 3 J (yo rfl (fun _ h=>wF (vs:=jC w v pc) rfl rfl (by omega) rfl h) ?_)
    refine fa J Y (ld J Y J (yG (mW _ _ _ code (by omega) _ _) rfl (fun _=>rfl) ?_))
    rintro _ _ ⟨v60,rfl,rfl⟩
    refine yD (v:=v60) fun av60 cv60 ev60 hvv60 _=> ?_
    subst hvv60
    refine QD rfl rfl rfl rfl (by rfl) rfl (by omega) ?_
    refine Z 3 J (yo rfl (fun _ h=>wF (vs:=jC w (.slice av60 code.length cv60 ev60) (qb code x.n)) rfl rfl (by omega) rfl h) ?_)
    refine sN J Y Y J J J (Z 3 J (⟨.inr rfl,_,fun _ h=>(zi (y8 rfl (yS rfl (Nat.le_of_ble_eq_true rfl) h)) (zi (za rfl) q7)),?_⟩))
    have e:qn w code pc=some (w,qb code x.n):=by { unfold qn;rw [hN];exact(if_neg h24).trans ((if_neg h33).trans ((if_pos h50).trans (if_pos (fun e=>h56 (congrArg Int.ofNat e))))) }
    rw [e]
    exact⟨_,⟨_,rfl,rfl⟩,Y⟩
   refine Z 5 J (yo rfl (fun _ h=>wF (vs:=jC w (.slice av19 code.length cv19 ev19) (qb code (pc+1))) rfl rfl (by omega) rfl h) ?_)
   refine sN J Y Y J J J (Z 3 J (⟨.inr rfl,_,fun _ h=>(zi (y8 rfl (yS rfl (Nat.le_of_ble_eq_true rfl) h)) (zi (za rfl) q7)),?_⟩))
   have e:qn w code pc=some (w,(qb code (pc+1))):=by { unfold qn;rw [hN];exact(if_neg h24).trans ((if_neg h33).trans ((if_pos h50).trans (if_neg (fun e=>h56 (fun e2=>e (Int.ofNat.inj e2)))))) }
   rw [e]
   exact⟨_,⟨_,rfl,rfl⟩,Y⟩
  refine Z 5 J (bu [_,_,_,_,_,_,_,_,_,_] J Y Y J (sN J Y Y J J J (Z 3 J (⟨.inr rfl,_,fun _ h=>(zi (y8 rfl (yS rfl (Nat.le_of_ble_eq_true rfl) h)) (zi (za rfl) q7)),?_⟩))))
  have e:qn w code pc=none:=by { unfold qn;rw [hN];exact(if_neg h24).trans ((if_neg h33).trans (if_neg h50)) }
  rw [e]
  exact fq
 rw [hN]
 dsimp only [Option.getD,Option.isSome]
 refine Z 3 J (zd rfl rfl rfl fun i4=> ?_)
 refine sN J Y Y J J J (Z 11 J (bu [_,_,_,_,_,_,_,_,_,_] J Y Y J (sN J Y Y J J J (Z 3 J (⟨.inr rfl,_,fun _ h=>(zi (y8 rfl (yS rfl (Nat.le_of_ble_eq_true rfl) h)) (zi (za rfl) q7)),?_⟩)))))
 have e:qn w code pc=none:=by { unfold qn;rw [hN] }
 rw [e]
 exact fq
theorem sX (R:List SP) (w:Nat→Nat) (v:AVal) (pc:Int) (x:yl):zy 135 [.agg (jC w v pc),.agg (qN x)] (R) fun u L=>u=vu (vA w x)∧L=R:=by
 refine SW.intro rfl Tryz.func135 rfl ?_
 refine O0 2 J (yW rfl rfl rfl rfl fun i2=> ?_)
 refine yW rfl rfl rfl rfl fun i3=> ?_
 refine Z 5 J (lN J Y Y J J (Z0 (Qj _ _ _ _ _) J ?_))
 rcases Bool.eq_false_or_eq_true x.ok with hI|hI
 ·rw [if_pos (show yp x.op x.a x.b x.n=true from hI)]
  refine zf rfl (fun _=>zC rfl rfl rfl (vI rfl)) (qM (by omega) ?_)
  refine Z 4 J (zO [0,1,0,7,15,0,32,96,255,511] [([0,1,2,3,4,5,6,7,8,9],[1,4,6,7,8],none)] (by kernel_rfl) ?_)
  refine z4 ?_
  have ho:=yl.ok_of hI
  refine aK (i:=i2) (n:=10) (sC w v pc) rfl (bG w v pc) ?_
  refine zj J Y (ye J Y J (zj J Y (vN rfl (fun _=>zh rfl rfl rfl (by omega) (by omega)) ?_)))
  refine jS J Y (jI _ _ _ (by omega)) (zj J Y (ye J Y J (vN rfl (fun _=>qT rfl rfl (yu (by omega))) ?_)))
  refine js (mg (by omega)) ?_
  refine vN rfl (fun _=>zC rfl rfl rfl YH) ?_
  refine ZK 1 J (z5 ⟨(y6 J Y J J J (uY J Y (jI _ _ _ (by omega)) J (z3 _ rfl) (y6 J Y J J J (vF rfl (fun _=>qT rfl rfl (yu (by omega))) rfl rfl (by rw [mg (by omega)];exact z3 _ rfl) (vF rfl (fun _=>zC rfl rfl rfl YH) rfl rfl (z3 _ rfl) z6))))),?_⟩)
  refine OX 1 J (zE J J J ?_)
  have e:vA w x=uadd (w x.b.toNat) x.n.toNat:=if_pos hI
  rw [e]
  exact fq
 rw [if_neg (show¬yp x.op x.a x.b x.n=true from fun e=>by rw [show yp x.op x.a x.b x.n=x.ok from rfl,hI]at e;cases e)]
 refine zf rfl (fun _=>zC rfl rfl rfl (vI rfl)) (GM (by omega) ?_)
 refine Z 7 J (zE J J J ?_)
 have e:vA w x=0:=if_neg (by rw [hI];nofun)
 rw [e]
 exact fq
theorem Qa (R:List SP) (w:Nat→Nat) (v:AVal) (code:List yl) (hcl:code.length≤1000) (pc:Int) (hpc: -1000000≤pc∧pc≤1000000) (x:yl) (q:Nat):zy 134 [.agg (jC w v pc),.agg (qN x),vu q] (ent (zP qN 4) v code::R) fun u L=> ∃v2,u= .agg (jC (qF w x q) v2 (qb code (pc+1)))∧L=ent (zP qN 4) v2 code::ent (zP qN 4) v code::R:=by
 refine SW.intro rfl Tryz.func134 rfl ?_
 refine O0 2 J (yW rfl rfl rfl rfl fun i3=> ?_)
 refine yW rfl rfl rfl rfl fun i4=> ?_
 refine zd rfl rfl rfl fun i6=> ?_
 refine Z 3 J (lN J Y Y J J (fa J Y (ld J Y J (ad J (yG (mW _ _ _ code (by omega) _ _) rfl (fun _=>rfl) ?_)))))
 rintro _ _ ⟨v12,rfl,rfl⟩
 refine yD (v:=v12) fun av12 cv12 ev12 hvv12 _=> ?_
 subst hvv12
 refine zd rfl rfl rfl fun i7=> ?_
 refine sN J Y Y J J J (Yn (i:=i7) (n:=10) (sC w (.slice av12 code.length cv12 ev12) (qb code (pc+1))) rfl (bG w (.slice av12 code.length cv12 ev12) (qb code (pc+1))) ?_)
 refine Z 5 J (lN J Y Y J J (Z0 (Qj _ _ _ _ _) J ?_))
 rcases Bool.eq_false_or_eq_true x.ok with hI|hI
 ·rw [if_pos (show yp x.op x.a x.b x.n=true from hI)]
  refine zf rfl (fun _=>zC rfl rfl rfl (vI rfl)) (qM (by omega) ?_)
  refine Z 5 J ?_
  have ho:=yl.ok_of hI
  refine fa J Y (ld J Y J (Z 1 J (z0 (fun h20=> ?_) (fun h20=> ?_))))
  ·refine Z 4 J (fa J Y (ld J Y J (Z 1 J (fa J Y (zf rfl (fun _=>zh rfl rfl rfl (by omega) (by omega)) ?_)))))
   refine sF J Y J J (Z 3 J (yo rfl (fun _ h=>wF (vs:=jC (ZI w x.a.toNat q) (.slice av12 code.length cv12 ev12) (qb code (pc+1))) rfl rfl (by omega) (by rw [Qq _ _ _ (k:=x.a.toNat) (by omega) (by omega)];rfl) h) ?_))
   refine sN J Y Y J J J (Z 2 J (⟨.inr rfl,_,fun _ h=>(zi (y8 rfl (yS rfl (Nat.le_of_ble_eq_true rfl) h)) q7),?_⟩))
   have e:qF w x q=ZI w x.a.toNat q:=by { unfold qF;exact(if_neg (by rw [hI];nofun)).trans (if_pos h20) }
   rw [e]
   exact⟨_,⟨_,rfl,rfl⟩,Y⟩
  refine Z 5 J (fa J Y (ld J Y J (Z 1 J (z0 (fun h29=> ?_) (fun h29=> ?_)))))
  ·refine Z 5 J (fa J Y (zf rfl (fun _=>zh rfl rfl rfl (by omega) (by omega)) ?_))
   refine sF J Y J J (Z 3 J (yo rfl (fun _ h=>wF (vs:=jC (ZI w 0 q) (.slice av12 code.length cv12 ev12) (qb code (pc+1))) rfl rfl (by omega) (by rw [Qq _ _ _ (k:=0) (by omega) (by omega)];rfl) h) ?_))
   refine sN J Y Y J J J (Z 2 J (⟨.inr rfl,_,fun _ h=>(zi (y8 rfl (yS rfl (Nat.le_of_ble_eq_true rfl) h)) q7),?_⟩))
   have e:qF w x q=ZI w 0 q:=by { unfold qF;exact(if_neg (by rw [hI];nofun)).trans ((if_neg h20).trans (if_pos h29)) }
   rw [e]
   exact⟨_,⟨_,rfl,rfl⟩,Y⟩
  refine Z 6 J (yo rfl (fun _ h=>wF (vs:=jC w (.slice av12 code.length cv12 ev12) (qb code (pc+1))) rfl rfl (by omega) rfl h) ?_)
  refine sN J Y Y J J J (Z 2 J (⟨.inr rfl,_,fun _ h=>(zi (y8 rfl (yS rfl (Nat.le_of_ble_eq_true rfl) h)) q7),?_⟩))
  have e:qF w x q=w:=by { unfold qF;exact(if_neg (by rw [hI];nofun)).trans ((if_neg h20).trans (if_neg h29)) }
  rw [e]
  exact⟨_,⟨_,rfl,rfl⟩,Y⟩
 rw [if_neg (show¬yp x.op x.a x.b x.n=true from fun e=>by rw [show yp x.op x.a x.b x.n=x.ok from rfl,hI]at e;cases e)]
 refine zf rfl (fun _=>zC rfl rfl rfl (vI rfl)) (GM (by omega) ?_)
 refine Z 6 J (yo rfl (fun _ h=>wF (vs:=jC w (.slice av12 code.length cv12 ev12) (qb code (pc+1))) rfl rfl (by omega) rfl h) ?_)
 refine sN J Y Y J J J (Z 2 J (⟨.inr rfl,_,fun _ h=>(zi (y8 rfl (yS rfl (Nat.le_of_ble_eq_true rfl) h)) q7),?_⟩))
 have e:qF w x q=w:=by { unfold qF;exact if_pos hI }
 rw [e]
 exact⟨_,⟨_,rfl,rfl⟩,Y⟩
theorem Uw (R:List SP) (w:Nat→Nat) (v:AVal) (code:List yl) (hcl:code.length≤1000) (pc:Int) (hpc: -1000000≤pc∧pc≤1000000) (z:Int) (hz:0≤z∧z≤1000):zy 190 [.agg (jC w v pc),vi z] (ent (zP qN 4) v code::R) fun u L=> ∃v2,u= .agg (jC (Yt w z) v2 (qb code (pc+1)))∧L=ent (zP qN 4) v2 code::ent (zP qN 4) v code::R:=by
 refine SW.intro rfl Tryz.func190 rfl ?_
 refine O0 2 J (yW rfl rfl rfl rfl fun i2=> ?_)
 refine zd rfl rfl rfl fun i4=> ?_
 refine Z 3 J (lN J Y Y J J (fa J Y (ld J Y J (ad J (yG (mW _ _ _ code (by omega) _ _) rfl (fun _=>rfl) ?_)))))
 rintro _ _ ⟨v10,rfl,rfl⟩
 refine yD (v:=v10) fun av10 cv10 ev10 hvv10 _=> ?_
 subst hvv10
 refine zd rfl rfl rfl fun i5=> ?_
 refine sN J Y Y J J J (Yn (i:=i5) (n:=10) (sC w (.slice av10 code.length cv10 ev10) (qb code (pc+1))) rfl (bG w (.slice av10 code.length cv10 ev10) (qb code (pc+1))) ?_)
 refine Z 4 J (ad J (zf rfl (fun _=>qT rfl rfl (yu (by omega))) ?_))
 refine yn (mg (by omega)) ?_
 refine fa J Y (zf rfl (fun _=>zh rfl rfl rfl (by omega) (by omega)) ?_)
 refine sF J Y J J (Z 3 J (yo rfl (fun _ h=>wF (vs:=jC (Yt w z) (.slice av10 code.length cv10 ev10) (qb code (pc+1))) rfl rfl (by omega) (by rw [Qq _ _ _ (k:=7) (by omega) (by omega)];rfl) h) ?_))
 refine sN J Y Y J J J (Z 2 J (⟨.inr rfl,_,fun _ h=>(zi (y8 rfl (yS rfl (Nat.le_of_ble_eq_true rfl) h)) q7),?_⟩))
 exact⟨_,⟨_,rfl,rfl⟩,Y⟩
structure qi where
 cf:List (Int×Int)
 cS:zm
 pS:zm
 s:PM
abbrev qi.share (fm:List (Int×Int)) (y:qi) (page:Int):qi:= { y with cf:=insi y.cf page ((ym fm page).getD 0),s:=y.s.share ((ym fm page).getD 0) }
abbrev qi.both (A:Nat→Int) (fm sm:List (Int×Int)) (w:jt) (inv:Bool) (y:qi) (page:Int):qi:=
 { y with cS:=(z7.tell ⟨A,y.cf,[],y.cS,y.s,w⟩ inv page).S,pS:=(z7.tell ⟨A,fm,sm,y.pS,(z7.tell ⟨A,y.cf,[],y.cS,y.s,w⟩ inv page).s,w⟩ inv page).S,s:=(z7.tell ⟨A,fm,sm,y.pS,(z7.tell ⟨A,y.cf,[],y.cS,y.s,w⟩ inv page).s,w⟩ inv page).s }
def z7.fork (x:z7) (W:Wd) (o:Int):Int×Option (List (Int×Int)×zm)×z7:=
 if 0<x.sm.length then(5,none,x)else match PM.space x.s W.kpti W.mp W.gate o with
 |none=>(2,none,x)
 |some (s1,S1)=>
  if s1.M.left<s1.M.need S1.kernel (zD x.A 256)then(2,none,{ x with s:=(z7.drop ⟨qR,[],[],S1,s1,x.w⟩).s,w:=(z7.drop ⟨qR,[],[],S1,s1,x.w⟩).w })else
  let y:=(zD x.A 256).foldl (qi.both x.A x.fm x.sm x.w W.inv) ((zD x.A 256).foldl (qi.share x.fm) ⟨[],S1,x.S,s1⟩)
  (0,some (y.cf,y.cS),{ x with S:=y.pS,s:=y.s })
theorem Jx (s:PM) (z:Int):(s.share z).R=if vr s.R z=0 then s.R else insi s.R z (vr s.R z+1):=by unfold PM.share;split<;>rfl
theorem eB (s:PM) (z:Int):(s.share z).M=s.M:=by unfold PM.share;split<;>rfl
theorem QV {s:PM} {k:Int} (h: ∀z,vr s.R z≤k) (h1:1≤k) (c w:Int): ∀z,vr (s.take c w).R z≤k:=by
 intro z
 unfold PM.take
 split
 ·show vr (insi _ _ _) z≤k
  rw [Y1];split
  ·exact h1
  exact h z
 exact h z
theorem WJ {s s1:PM} {S1:zm} {kp:Bool} {mp g:Nat} {o k:Int} (hs:s.space kp mp g o=some (s1,S1)) (h: ∀z,vr s.R z≤k) (h1:1≤k): ∀z,vr s1.R z≤k:=by
 unfold PM.space at hs
 cases kp with
 |true=>
  simp only [if_true]at hs
  split at hs
  ·cases hs
  cases hs;exact QV (QV h h1 _ _) h1 _ _
 |false=>
  simp only [Bool.false_eq_true,if_false]at hs
  split at hs
  ·cases hs
  cases hs;exact QV h h1 _ _
theorem Wj {s s1:PM} {S1:zm} {kp:Bool} {mp g:Nat} {o:Int} (hs:s.space kp mp g o=some (s1,S1)):S1.tables.length≤2:=by
 unfold PM.space at hs
 cases kp with
 |true=>
  simp only [if_true]at hs
  split at hs
  ·cases hs
  cases hs;exact Nat.le_refl _
 |false=>
  simp only [Bool.false_eq_true,if_false]at hs
  split at hs
  ·cases hs
  cases hs;show 1≤2;omega
structure qi.Fine (fm:List (Int×Int)) (S:zm) (y:qi) (k j:Nat):Prop where
 f:jQ y.cf
 c:y.cS.tables.length≤2+2*j
 p:y.pS.tables.length≤S.tables.length+2*j
 n: ∀z,vr y.s.R z≤1000000+k
theorem qi.Fine.share {fm:List (Int×Int)} (hf:jQ fm) {S:zm} {y:qi} {k j:Nat} (h:qi.Fine fm S y k j) (page:Int):qi.Fine fm S (y.share fm page) (k+1) j:=⟨h.f.ins page (hf.at page),h.c,h.p,fun z=>by
 have h1:=h.n z
 have h2:=h.n ((ym fm page).getD 0)
 show vr (y.s.share _).R z≤_
 rw [Jx];split
 ·omega
 rw [Y1];split<;>omega⟩
theorem qi.Fine.both {fm sm:List (Int×Int)} {S:zm} {y:qi} {j:Nat} (h:jQ y.cf∧y.cS.tables.length≤2+2*j∧y.pS.tables.length≤S.tables.length+2*j) (A:Nat→Int) (w:jt) (inv:Bool) (page:Int):jQ (y.both A fm sm w inv page).cf∧(y.both A fm sm w inv page).cS.tables.length≤2+2*(j+1)∧(y.both A fm sm w inv page).pS.tables.length≤S.tables.length+2*(j+1):=by
 refine⟨h.1,?_,?_⟩
 ·have h2:=h.2.1
  show(PM.setPage _ y.cS page _).2.tables.length≤_
  refine Nat.le_trans (jb _ y.cS page _).1 ?_;omega
 have h2:=h.2.2
 show(PM.setPage _ y.pS page _).2.tables.length≤_
 refine Nat.le_trans (jb _ y.pS page _).1 ?_;omega
theorem eW (R:List SP) (v:Nat) (X:jX) (M:zA) (Rf:List (Int×Int)) (Ws:jt) (hT:X.S.tables.length≤400000) (hc0: ∀z,vr Rf z≤1000000) (hmp:X.W.mp<1099511627776) (hgt:X.W.gate<1099511627776) (o2:Int):zy 227 [vp v 0,vi o2] (ent Zs v X::ent zX X.W.p ⟨X.W.m,Rf⟩::ent zQ X.W.m M::ent y5 X.W.sw Ws::R) fun w L=>match(z7.fork (X.st ⟨M,Rf⟩ Ws) X.W o2)with
 |(e,some (cf,cS),x)=> ∃v2,w= .tuple [vp v2 0,vi e]∧L=ent Zs v2 ⟨X.W,o2,X.A,cf,[],cS⟩::ent Zs v (X.of x)::ent zX X.W.p ⟨X.W.m,x.s.R⟩::ent zQ X.W.m x.s.M::ent y5 X.W.sw x.w::R
 |(e,none,x)=>w= .tuple [.ptr none,vi e]∧L=ent Zs v (X.of x)::ent zX X.W.p ⟨X.W.m,x.s.R⟩::ent zQ X.W.m x.s.M::ent y5 X.W.sw x.w::R:=by
 refine zS (uR v X) fun y hX=> ?_
 obtain⟨a,s,i,b⟩:=y
 dsimp only [fj,List.cons_append,List.nil_append]
 refine SW.intro rfl Tryz.func227 rfl ?_
 refine O0 10 J (fa J Y (ld J Y J (yo rfl (fun _ h=>ej rfl rfl rfl rfl rfl h) ?_)))
 refine Z 1 J (z0 (fun h18=> ?_) (fun h18=> ?_))
 ·refine Z 8 J (qO J J J J ?_)
  have e:(z7.fork (X.st ⟨M,Rf⟩ Ws) X.W o2)=(5,none,(z7.mk X.A X.fm X.sm X.S ⟨M,Rf⟩ Ws)):=if_pos (show 0<X.sm.length by omega)
  rw [e]
  exact⟨_,⟨rfl,rfl⟩,Sub.mk5 (zg (X:=X.of (z7.mk X.A X.fm X.sm X.S ⟨M,Rf⟩ Ws)) ⟨hX.1,hX.2⟩) Y⟩
 refine Z 7 J (fa J Y (ld J Y J (yG (xl _ _ X.A) rfl (fun _=>rfl) ?_)))
 rintro w23 _ ⟨_,rfl,hw23,rfl⟩
 have hpl:=gO X.A 256
 refine Z 6 J (fa J Y (lN J Y Y J J (Z 1 J (Yc (rC _ X.W hmp hgt M Rf o2) rfl (fun _=>rfl) ?_))))
 intro u30 L30 hp30
 rcases mO (PM.space ⟨M,Rf⟩ X.W.kpti X.W.mp X.W.gate o2)with⟨⟨s1,S1⟩,hsp⟩|hsp
 ·simp only [hsp]at hp30
  obtain⟨n30,rfl,rfl⟩:=hp30
  have hsl:=Wj hsp
  refine qw (uR n30 (jX.mk X.W o2 qR [] [] S1)) fun y2 hX2=> ?_
  obtain⟨a2,s2,i2,b2⟩:=y2
  dsimp only [fj,List.cons_append,List.nil_append]
  refine Z 16 J (zO [0,1,3,7,0,31,0,64,192,448,960,2047,4095] [([0,1,2,3,4,6,7,8,9,10],[3,10],some 5),([],[10],some 11),([12],[12],none)] (by kernel_rfl) ?_)
  refine z4 (ZK 2 J (zj J Y (ye J Y J (ZK 3 J (zj J Y (zj J Y (ye J Y J (z5 ⟨(y6 J Y J J J (y6 J Y J J J z6)),?_⟩))))))))
  refine Z3 (mT _ _ _ _ S1 s1.M _ (zD X.A 256) (by omega)) J Y Y Y (zF (z4 (z5 ⟨(y6 J Y J J J z6),?_⟩)))
  refine Z2 (UX _ _ _ s1.R s1.M) J Y Y (zF (z4 (ZK 1 J (qJ (fun h47=> ?_) (fun h47=> ?_)))))
  ·refine z5 ⟨(gv J J J (by rw [decide_eq_true h47];rfl) z6),?_⟩
   refine OX 4 J (zR (Sub.mk5 (p:=ent Zs n30 (jX.mk X.W o2 qR [] [] S1)) (zg (v:=n30) (a:=a2) (s:=s2) (i:=i2) (j:=b2) (X:=(jX.mk X.W o2 qR [] [] S1)) hX2) (Sub.refl _)) ?_)
   refine Z4 (tB _ _ (jX.mk X.W o2 qR [] [] S1) s1.M s1.R Ws (by show S1.tables.length≤500000;omega)) J Y Y Y Y (Z 7 J (qO J J J J ?_))
   have e:(z7.fork (X.st ⟨M,Rf⟩ Ws) X.W o2)=(2,none,(z7.mk X.A X.fm X.sm X.S (z7.drop (z7.mk qR [] [] S1 s1 Ws)).s (z7.drop (z7.mk qR [] [] S1 s1 Ws)).w)):=by { unfold z7.fork;rw [if_neg (show¬0<X.sm.length by omega)];simp only [hsp];exact if_pos (by omega) }
   rw [e]
   exact⟨_,⟨rfl,rfl⟩,Sub.mk5 (zg (X:=X.of (z7.mk X.A X.fm X.sm X.S (z7.drop (z7.mk qR [] [] S1 s1 Ws)).s (z7.drop (z7.mk qR [] [] S1 s1 Ws)).w)) ⟨hX.1,hX.2⟩) Y⟩
  refine z5 ⟨(gv J J J (by rw [decide_eq_false h47];rfl) z6),?_⟩
  refine OX 7 J (fa J Y (ld J Y J (yG (bZ _ _ X.A) rfl (fun _=>rfl) ?_)))
  rintro _ _ ⟨b55,rfl,rfl⟩
  refine Z 1 J (fa J Y (sO J Y J J J (Z 5 J (yo rfl (fun _ h=>y0 rfl rfl rfl rfl rfl h) ?_))))
  refine Z 3 J (zl (fun j T L=> ∃(c:Nat),(c≤(zD X.A 256).length)∧(qi.Fine X.fm X.S (((zD X.A 256).take c).foldl (qi.share X.fm) ⟨[],S1,X.S,s1⟩) c 0)∧j=(zD X.A 256).length-c∧T.len=7∧Tm.get 0 T=some (vp v 0)∧Tm.get 6 T=some (w23)∧Tm.get 7 T=some (vp n30 0)∧Tm.get 58 T=some (w23)∧Tm.get 59 T=some (vi ((zD X.A 256).length:Nat))∧Tm.get 60 T=some (vi (c:Nat))∧Sub L (ent (zP yK 1) w23 (zD X.A 256)::ent z8 n30 (J1 X.W o2 b55 s2 i2 b2)::ent qY b55 X.A::ent gP i2 (((zD X.A 256).take c).foldl (qi.share X.fm) ⟨[],S1,X.S,s1⟩).cf::ent gP b2 []::ent qs s2 ⟨X.W.m,X.W.p,(((zD X.A 256).take c).foldl (qi.share X.fm) ⟨[],S1,X.S,s1⟩).cS⟩::ent z8 v (J1 X.W X.o a s i b)::ent qY a X.A::ent gP i X.fm::ent gP b X.sm::ent qs s ⟨X.W.m,X.W.p,(((zD X.A 256).take c).foldl (qi.share X.fm) ⟨[],S1,X.S,s1⟩).pS⟩::ent zX X.W.p ⟨X.W.m,(((zD X.A 256).take c).foldl (qi.share X.fm) ⟨[],S1,X.S,s1⟩).s.R⟩::ent zQ X.W.m (((zD X.A 256).take c).foldl (qi.share X.fm) ⟨[],S1,X.S,s1⟩).s.M::ent y5 X.W.sw Ws::R)) ((zD X.A 256).length) ⟨0,by omega,⟨jQ.nil,hsl,Nat.le_refl _,fun z=>by have:=WJ hsp hc0 (by decide) z;show vr s1.R z≤_;omega⟩,by omega,rfl,rfl,rfl,rfl,rfl,rfl,rfl,(by rw [List.take_zero,List.foldl_nil];exact Y)⟩ ?_)
  rintro j T L0 ⟨c,hc,hF,rfl,hl,g0,g6,g7,g58,g59,g60,hsb⟩
  obtain⟨tg,rfl⟩:=oC hl g0 g6 g7 g58 g59 g60
  clear hl g0 g6 g7 g58 g59 g60
  refine zu hsb ?_
  clear hsb L0
  refine O0 3 J (z0 (fun h61=> ?_) (fun h61=> ?_))
  ·refine Z 8 J ?_
   obtain⟨z,hz⟩: ∃z,(zD X.A 256)[c]? =some z:=⟨(zD X.A 256)[c]'(by omega),List.getElem?_eq_getElem (by omega)⟩
   refine yo rfl (fun _ h=>yM rfl rfl rfl (by omega) (by omega) h) ?_
   refine lE 0 J Y J hz J (Z 3 J (zO [0,1,3,7,0,0,32,96,224,0,992,2047] [([0,1,2,3,4,5,6,7,8,9,10],[3,8,10],some 11),([],[],none)] (by kernel_rfl) ?_))
   refine z4 (ZK 2 J (zj J Y (ye J Y J (ZK 3 J (zj J Y (ye J Y J (ZK 1 J (uW rfl (fun _ h=>ua rfl rfl rfl h) ?_))))))))
   refine z5 ⟨(y6 J Y J J J (y6 J Y J J J (wV rfl (fun _ h=>ua rfl rfl rfl h) rfl rfl (z3 _ rfl) z6))),?_⟩
   refine ge rfl rfl rfl rfl rfl ?_
   refine zF (z4 (z5 ⟨z6,?_⟩))
   refine zO [0,1,3,7,15,0,32,96,224,0,992,2047] [([0,1,2,3,4,5,6,7,8,9,10],[4,8,10],some 11),([],[],none)] (by kernel_rfl) ?_
   refine z4 (ZK 2 J (zj J Y (zj J Y (ye J Y J (ZK 2 J (zj J Y (ye J Y J (ZK 1 J (uW rfl (fun _ h=>ua rfl rfl rfl h) ?_)))))))))
   refine z5 ⟨(y6 J Y J J J (y6 J Y J J J (wV rfl (fun _ h=>ua rfl rfl rfl h) rfl rfl (z3 _ rfl) z6))),?_⟩
   refine Z1 (sf _ _ _ (((zD X.A 256).take c).foldl (qi.share X.fm) ⟨[],S1,X.S,s1⟩).s.R ((ym X.fm z).getD 0) (by have:=hF.n ((ym X.fm z).getD 0);omega)) J Y (zF (z4 (z5 ⟨z6,?_⟩)))
   refine OX 1 J (ad J (Z 2 J ?_))
   have hK:=qK (qi.share X.fm) ⟨[],S1,X.S,s1⟩ (zD X.A 256) c _ hz
   have eR:(qi.share X.fm (((zD X.A 256).take c).foldl (qi.share X.fm) ⟨[],S1,X.S,s1⟩) z).s.R=_:=Jx (((zD X.A 256).take c).foldl (qi.share X.fm) ⟨[],S1,X.S,s1⟩).s ((ym X.fm z).getD 0)
   have eM:(qi.share X.fm (((zD X.A 256).take c).foldl (qi.share X.fm) ⟨[],S1,X.S,s1⟩) z).s.M=_:=eB (((zD X.A 256).take c).foldl (qi.share X.fm) ⟨[],S1,X.S,s1⟩).s ((ym X.fm z).getD 0)
   exact Or.inl ⟨rfl,_,by omega,c+1,by omega,by rw [hK];exact qi.Fine.share hX.1 hF z,rfl,rfl,rfl,rfl,rfl,rfl,rfl,rfl,(by rw [hK,eR,eM];exact Y)⟩
  refine Z 4 J (Or.inr ⟨nofun,?_⟩)
  refine OX 4 J (yo rfl (fun _ h=>y0 rfl rfl rfl rfl rfl h) ?_)
  refine Z 3 J ?_
  have hcn:c=(zD X.A 256).length:=by omega
  subst hcn
  rw [List.take_length]at hF ⊢
  refine zl (fun j T L=> ∃(q:Nat),(q≤(zD X.A 256).length)∧(jQ (((zD X.A 256).take q).foldl (qi.both X.A X.fm X.sm Ws X.W.inv) ((zD X.A 256).foldl (qi.share X.fm) ⟨[],S1,X.S,s1⟩)).cf∧(((zD X.A 256).take q).foldl (qi.both X.A X.fm X.sm Ws X.W.inv) ((zD X.A 256).foldl (qi.share X.fm) ⟨[],S1,X.S,s1⟩)).cS.tables.length≤2+2*q∧(((zD X.A 256).take q).foldl (qi.both X.A X.fm X.sm Ws X.W.inv) ((zD X.A 256).foldl (qi.share X.fm) ⟨[],S1,X.S,s1⟩)).pS.tables.length≤X.S.tables.length+2*q)∧j=(zD X.A 256).length-q∧T.len=7∧Tm.get 0 T=some (vp v 0)∧Tm.get 7 T=some (vp n30 0)∧Tm.get 88 T=some (w23)∧Tm.get 89 T=some (vi ((zD X.A 256).length:Nat))∧Tm.get 90 T=some (vi (q:Nat))∧Sub L (ent (zP yK 1) w23 (zD X.A 256)::ent z8 n30 (J1 X.W o2 b55 s2 i2 b2)::ent qY b55 X.A::ent gP i2 (((zD X.A 256).take q).foldl (qi.both X.A X.fm X.sm Ws X.W.inv) ((zD X.A 256).foldl (qi.share X.fm) ⟨[],S1,X.S,s1⟩)).cf::ent gP b2 []::ent qs s2 ⟨X.W.m,X.W.p,(((zD X.A 256).take q).foldl (qi.both X.A X.fm X.sm Ws X.W.inv) ((zD X.A 256).foldl (qi.share X.fm) ⟨[],S1,X.S,s1⟩)).cS⟩::ent z8 v (J1 X.W X.o a s i b)::ent qY a X.A::ent gP i X.fm::ent gP b X.sm::ent qs s ⟨X.W.m,X.W.p,(((zD X.A 256).take q).foldl (qi.both X.A X.fm X.sm Ws X.W.inv) ((zD X.A 256).foldl (qi.share X.fm) ⟨[],S1,X.S,s1⟩)).pS⟩::ent zX X.W.p ⟨X.W.m,(((zD X.A 256).take q).foldl (qi.both X.A X.fm X.sm Ws X.W.inv) ((zD X.A 256).foldl (qi.share X.fm) ⟨[],S1,X.S,s1⟩)).s.R⟩::ent zQ X.W.m (((zD X.A 256).take q).foldl (qi.both X.A X.fm X.sm Ws X.W.inv) ((zD X.A 256).foldl (qi.share X.fm) ⟨[],S1,X.S,s1⟩)).s.M::ent y5 X.W.sw Ws::R)) ((zD X.A 256).length) ⟨0,by omega,⟨hF.f,hF.c,hF.p⟩,by omega,rfl,rfl,rfl,rfl,rfl,rfl,(by rw [List.take_zero,List.foldl_nil];exact Y)⟩ ?_
  rintro j T L0 ⟨q,hq,hG,rfl,hl,g0,g7,g88,g89,g90,hsb⟩
  obtain⟨tg,rfl⟩:=ef hl g0 g7 g88 g89 g90
  clear hl g0 g7 g88 g89 g90
  refine zu hsb ?_
  clear hsb L0
  refine O0 3 J (z0 (fun h91=> ?_) (fun h91=> ?_))
  ·refine Z 8 J ?_
   obtain⟨z,hz⟩: ∃z,(zD X.A 256)[q]? =some z:=⟨(zD X.A 256)[q]'(by omega),List.getElem?_eq_getElem (by omega)⟩
   refine yo rfl (fun _ h=>yM rfl rfl rfl (by omega) (by omega) h) ?_
   refine lE 0 J Y J hz J (Z 6 J (Z7 (vX _ n30 X.W o2 b55 s2 i2 b2 X.A (((zD X.A 256).take q).foldl (qi.both X.A X.fm X.sm Ws X.W.inv) ((zD X.A 256).foldl (qi.share X.fm) ⟨[],S1,X.S,s1⟩)).cf [] (((zD X.A 256).take q).foldl (qi.both X.A X.fm X.sm Ws X.W.inv) ((zD X.A 256).foldl (qi.share X.fm) ⟨[],S1,X.S,s1⟩)).s.R hG.1 jQ.nil (((zD X.A 256).take q).foldl (qi.both X.A X.fm X.sm Ws X.W.inv) ((zD X.A 256).foldl (qi.share X.fm) ⟨[],S1,X.S,s1⟩)).s.M (((zD X.A 256).take q).foldl (qi.both X.A X.fm X.sm Ws X.W.inv) ((zD X.A 256).foldl (qi.share X.fm) ⟨[],S1,X.S,s1⟩)).cS (by have:=hG.2.1;omega) z) J Y Y Y Y Y Y Y (Z 4 J (Z7 (vX _ v X.W X.o a s i b X.A X.fm X.sm (z7.tell (z7.mk X.A (((zD X.A 256).take q).foldl (qi.both X.A X.fm X.sm Ws X.W.inv) ((zD X.A 256).foldl (qi.share X.fm) ⟨[],S1,X.S,s1⟩)).cf [] (((zD X.A 256).take q).foldl (qi.both X.A X.fm X.sm Ws X.W.inv) ((zD X.A 256).foldl (qi.share X.fm) ⟨[],S1,X.S,s1⟩)).cS (((zD X.A 256).take q).foldl (qi.both X.A X.fm X.sm Ws X.W.inv) ((zD X.A 256).foldl (qi.share X.fm) ⟨[],S1,X.S,s1⟩)).s Ws) X.W.inv z).s.R hX.1 hX.2 (z7.tell (z7.mk X.A (((zD X.A 256).take q).foldl (qi.both X.A X.fm X.sm Ws X.W.inv) ((zD X.A 256).foldl (qi.share X.fm) ⟨[],S1,X.S,s1⟩)).cf [] (((zD X.A 256).take q).foldl (qi.both X.A X.fm X.sm Ws X.W.inv) ((zD X.A 256).foldl (qi.share X.fm) ⟨[],S1,X.S,s1⟩)).cS (((zD X.A 256).take q).foldl (qi.both X.A X.fm X.sm Ws X.W.inv) ((zD X.A 256).foldl (qi.share X.fm) ⟨[],S1,X.S,s1⟩)).s Ws) X.W.inv z).s.M (((zD X.A 256).take q).foldl (qi.both X.A X.fm X.sm Ws X.W.inv) ((zD X.A 256).foldl (qi.share X.fm) ⟨[],S1,X.S,s1⟩)).pS (by have:=hG.2.2;omega) z) J Y Y Y Y Y Y Y (Z 2 J (ad J (Z 2 J ?_)))))))
   have hK:=qK (qi.both X.A X.fm X.sm Ws X.W.inv) ((zD X.A 256).foldl (qi.share X.fm) ⟨[],S1,X.S,s1⟩) (zD X.A 256) q _ hz
   exact Or.inl ⟨rfl,_,by omega,q+1,by omega,by rw [hK];exact qi.Fine.both hG X.A Ws X.W.inv z,rfl,rfl,rfl,rfl,rfl,rfl,rfl,(by rw [hK];exact Y)⟩
  refine Z 4 J (Or.inr ⟨nofun,?_⟩)
  refine OX 7 J (qO J J J J ?_)
  have hcn:q=(zD X.A 256).length:=by omega
  subst hcn
  rw [List.take_length]at hG ⊢
  have e:(z7.fork (X.st ⟨M,Rf⟩ Ws) X.W o2)=(0,some (((zD X.A 256).foldl (qi.both X.A X.fm X.sm Ws X.W.inv) ((zD X.A 256).foldl (qi.share X.fm) ⟨[],S1,X.S,s1⟩)).cf,((zD X.A 256).foldl (qi.both X.A X.fm X.sm Ws X.W.inv) ((zD X.A 256).foldl (qi.share X.fm) ⟨[],S1,X.S,s1⟩)).cS),(z7.mk X.A X.fm X.sm ((zD X.A 256).foldl (qi.both X.A X.fm X.sm Ws X.W.inv) ((zD X.A 256).foldl (qi.share X.fm) ⟨[],S1,X.S,s1⟩)).pS ((zD X.A 256).foldl (qi.both X.A X.fm X.sm Ws X.W.inv) ((zD X.A 256).foldl (qi.share X.fm) ⟨[],S1,X.S,s1⟩)).s Ws)):=by { unfold z7.fork;rw [if_neg (show¬0<X.sm.length by omega)];simp only [hsp];exact if_neg (by omega) }
  rw [e]
  refine⟨_,⟨n30,rfl,rfl⟩,Sub.mk5 (zg (X:=⟨X.W,o2,X.A,((zD X.A 256).foldl (qi.both X.A X.fm X.sm Ws X.W.inv) ((zD X.A 256).foldl (qi.share X.fm) ⟨[],S1,X.S,s1⟩)).cf,[],((zD X.A 256).foldl (qi.both X.A X.fm X.sm Ws X.W.inv) ((zD X.A 256).foldl (qi.share X.fm) ⟨[],S1,X.S,s1⟩)).cS⟩) ⟨hG.1,jQ.nil⟩) (Sub.mk5 (zg (X:=X.of (z7.mk X.A X.fm X.sm ((zD X.A 256).foldl (qi.both X.A X.fm X.sm Ws X.W.inv) ((zD X.A 256).foldl (qi.share X.fm) ⟨[],S1,X.S,s1⟩)).pS ((zD X.A 256).foldl (qi.both X.A X.fm X.sm Ws X.W.inv) ((zD X.A 256).foldl (qi.share X.fm) ⟨[],S1,X.S,s1⟩)).s Ws)) ⟨hX.1,hX.2⟩) Y)⟩
 simp only [hsp]at hp30
 obtain⟨rfl,rfl⟩:=hp30
 refine Z 19 J (qO J J J J ?_)
 have e:(z7.fork (X.st ⟨M,Rf⟩ Ws) X.W o2)=(2,none,(z7.mk X.A X.fm X.sm X.S ⟨M,Rf⟩ Ws)):=by { unfold z7.fork;rw [if_neg (show¬0<X.sm.length by omega)];simp only [hsp] }
 rw [e]
 exact⟨_,⟨rfl,rfl⟩,Sub.mk5 (zg (X:=X.of (z7.mk X.A X.fm X.sm X.S ⟨M,Rf⟩ Ws)) ⟨hX.1,hX.2⟩) Y⟩
theorem pd (R:List SP) (m:Nat) (fr cpus:Int) (kpti inv:Bool) (h24:fr<24):zy 98 [.agg (jW fr cpus kpti inv),vp m 0] (R) fun v L=>v= .tuple [.agg [vi 0,vi 0],.bool false]∧L=R:=by
 refine SW.intro rfl Tryz.func98 rfl ?_
 refine O0 2 J (yW rfl rfl rfl rfl fun i2=> ?_)
 refine zd rfl rfl rfl fun i4=> ?_
 refine Z 4 J (zO [0,1,3,7,15,31,63,127,255,511,1023,511,2559,8191,16383,32767,65535,131071,262143,524287,1048575,2097151,4194303,8388607,16777215] [([0,1,2,3,4,5,6,7,8,9,10,11],[1,2,5,6,10],some 12),([13,14,15,16,17,18,19,20,21,22,23,24],[10,13,17,18,22,23],none)] (by kernel_rfl) ?_)
 refine z4 (zj J Y (ye J Y J (vN rfl (fun _=>zC rfl rfl rfl (QX rfl)) (DS (by omega) ?_))))
 refine ZK 9 J (z5 ⟨(y6 J Y J J J (gv J J J (by rw [decide_eq_true h24];rfl) (zx rfl (zx rfl (zx rfl z6))))),?_⟩)
 refine gW rfl (zF (z4 (ZK 12 J (z5 ⟨(zx rfl (zx rfl (zx rfl (zx rfl (zx rfl (zx rfl z6)))))),?_⟩))))
 refine OX 3 J (bu [_,_] J Y Y J (sN J Y Y J J J (Z 3 J (⟨.inr rfl,_,fun _ h=>(zi (y8 rfl (yS rfl (Nat.le_of_ble_eq_true rfl) h)) (zi (za rfl) q7)),?_⟩))))
 exact fq
def qt (fr cpus:Int):Bool:=decide (24≤fr) && uV (zA.new (min fr 64).toNat) fr cpus
theorem aJ (R:List SP) (fr cpus:Int) (kpti inv:Bool):zy 59 [.agg (jW fr cpus kpti inv)] (R) fun w L=>if qt fr cpus then(∃m p sw,w= .tuple [.agg (Uc ⟨fr,cpus,kpti,inv,m,p,sw,3,13⟩),vi 0]∧L=ent zQ m (JK (zA.new (min fr 64).toNat) kpti)::ent zX p ⟨m,[]⟩::ent y5 sw []::R)else(w= .tuple [.agg [vi 0,vi 0,.bool false,.bool false,.ptr none,.ptr none,.ptr none,vi 0,vi 0],vi 1]∧L=R):=by
 refine SW.intro rfl Tryz.func59 rfl ?_
 refine O0 2 J (yW rfl rfl rfl rfl fun i1=> ?_)
 refine zd rfl rfl rfl fun i2=> ?_
 refine Z 4 J (fa J Y (ld J Y J (o_call (Ai _ fr) rfl (fun _=>rfl) ?_)))
 rintro _ _ ⟨m9,rfl,rfl⟩
 rcases Decidable.em (fr<24)with hlow|hlow
 ·refine zR (M:=ent z8 i2 (AVal.agg [.int .i64 (.lit 0),.int .i64 (.lit 0),.bool false,.bool false,.ptr none,.ptr none,.ptr none,.int .i64 (.lit 0),.int .i64 (.lit 0)]).cells::ent z8 i1 (AVal.agg (jW fr cpus kpti inv)).cells::R) (by split;exact Sub.drop (Sub.refl _);exact Sub.refl _) ?_
  refine Z 4 J (lN J Y Y J J (Z 1 J (Z0 (pd _ _ fr cpus kpti inv hlow) J ?_)))
  rcases Bool.eq_false_or_eq_true (uV (zA.new (min fr 64).toNat) fr cpus)with hb|hb
  ·try rw [hb]
   refine Z 3 J (zd rfl rfl rfl fun i5=> ?_)
   refine sN J Y Y J J J (Z 11 J (bu [_,_,_,_,_,_,_,_,_] J Y Y J (sN J Y Y J J J (Z 3 J (⟨.inr rfl,_,fun _ h=>(zi (y8 rfl (yS rfl (Nat.le_of_ble_eq_true rfl) h)) (zi (za rfl) q7)),?_⟩)))))
   have e:qt fr cpus=false:=by { unfold qt;rw [decide_eq_false (by omega)];rfl }
   refine⟨R,?_,Y⟩
   show(if qt fr cpus=true then _ else _)
   rw [if_neg (by rw [e];nofun)]
   exact⟨rfl,rfl⟩
  try rw [hb]
  refine Z 3 J (zd rfl rfl rfl fun i5=> ?_)
  refine sN J Y Y J J J (Z 11 J (bu [_,_,_,_,_,_,_,_,_] J Y Y J (sN J Y Y J J J (Z 3 J (⟨.inr rfl,_,fun _ h=>(zi (y8 rfl (yS rfl (Nat.le_of_ble_eq_true rfl) h)) (zi (za rfl) q7)),?_⟩)))))
  have e:qt fr cpus=false:=by { unfold qt;rw [decide_eq_false (by omega)];rfl }
  refine⟨R,?_,Y⟩
  show(if qt fr cpus=true then _ else _)
  rw [if_neg (by rw [e];nofun)]
  exact⟨rfl,rfl⟩
 rw [if_pos (show 0<fr by omega)]
 refine Z 4 J (lN J Y Y J J (Z 1 J (Z1 (ek _ _ (zA.new (min fr 64).toNat) fr cpus kpti inv) J Y ?_)))
 rcases Bool.eq_false_or_eq_true (uV (zA.new (min fr 64).toNat) fr cpus)with hb|hb
 ·try rw [hb]
  refine Z 3 J (zd rfl rfl rfl fun i5=> ?_)
  refine sN J Y Y J J J (Z 11 J (zO [0,0,0,4,12,0,63,127,255] [([0,1,2,5],[0,5],some 3),([],[0,5],some 4),([6],[0,5],some 7),([8],[],none)] (by kernel_rfl) ?_))
  refine z4 (Vl J Y Y J J (ZK 2 J (Vl J Y Y J J (z5 ⟨(YC J Y Y J J J (z3 _ rfl) (YC J Y Y J J J (z3 _ rfl) z6)),?_⟩))))
  refine o_call (B6 _ _) rfl (fun _=>rfl) ?_
  rintro _ _ ⟨p22,rfl,rfl⟩
  refine zF (z4 (z5 ⟨(YC J Y Y J J J (z3 _ rfl) (YC J Y Y J J J (z3 _ rfl) z6)),?_⟩))
  refine o_call (sY _) rfl (fun _=>rfl) ?_
  rintro _ _ ⟨s23,rfl,rfl⟩
  refine zF (z4 (p7 [_,_,_,_,_,_,_,_,_] J Y Y J (z5 ⟨(YC J Y Y J J J (z3 _ rfl) (YC J Y Y J J J (z3 _ rfl) z6)),?_⟩)))
  refine sN J Y Y J J J (zF (z4 (ZK 1 J (z5 ⟨z6,?_⟩))))
  refine OX 1 J (⟨.inr rfl,_,fun _ h=>(zi (y8 rfl (yS rfl (Nat.le_of_ble_eq_true rfl) h)) (zi (za rfl) q7)),?_⟩)
  have e:qt fr cpus=true:=by { unfold qt;rw [decide_eq_true (by omega),hb];rfl }
  refine⟨ent zQ m9 (JK (zA.new (min fr 64).toNat) kpti)::ent zX p22 ⟨m9,[]⟩::ent y5 s23 []::R,?_,?_⟩
  ·show(if qt fr cpus=true then _ else _)
   rw [if_pos e]
   exact⟨m9,p22,s23,rfl,rfl⟩
  simp only [if_true]
  exact Y
 try rw [hb]
 refine Z 3 J (zd rfl rfl rfl fun i5=> ?_)
 refine sN J Y Y J J J (Z 11 J (bu [_,_,_,_,_,_,_,_,_] J Y Y J (sN J Y Y J J J (Z 3 J (⟨.inr rfl,_,fun _ h=>(zi (y8 rfl (yS rfl (Nat.le_of_ble_eq_true rfl) h)) (zi (za rfl) q7)),?_⟩)))))
 have e:qt fr cpus=false:=by { unfold qt;rw [decide_eq_true (by omega),hb];rfl }
 refine⟨R,?_,Y⟩
 show(if qt fr cpus=true then _ else _)
 rw [if_neg (by rw [e];nofun)]
 exact⟨rfl,rfl⟩
theorem Ah {P:Program} {F:z9} {o:Oper} {T:Tm} {H:Hp} {t:TypeId} {x:Operand} {z:Int} (ho:o.op= .unOp .xor t x) (hx:opnd T x=some (.int .u64 (.lit z))) (hz:0≤z∧z≤18446744073709551615):yJ P F T H o=some (.val (.int .u64 (.lit (18446744073709551615-z))) H):=by
 simp only [yJ,ho,pi,hx,D1,yu hz,cond_true,gR,zH.ofVal]
def YK (z:Nat):Nat:=uadd (18446744073709551615-z) 1
def q8 (code:List yl):Bool:=decide (code.length≤24) && !(code.any fun x=> !x.ok)
theorem YT (R:List SP) (z:Nat) (hz:z≤100):zy 187 [vi (z:Nat)] (R) fun w L=>w=vu (YK z)∧L=R:=by
 refine SW.intro rfl Tryz.func187 rfl ?_
 refine O0 7 J (zf rfl (fun _=>qT rfl rfl (yu (by omega))) ?_)
 refine zf rfl (fun _=>Ah rfl rfl (by omega)) ?_
 refine yn (w:=vu (18446744073709551615-z)) (by show AVal.int .u64 (.lit (18446744073709551615-(z:Int)))=_;congr 2;omega) ?_
 refine zf rfl (fun _=>zC rfl rfl rfl (YH (x:=18446744073709551615-z) (y:=1))) ?_
 exact Z 3 J (zE J J J fq)
theorem np (R:List SP) (x:yl):zy 103 [.agg (qN x)] (R) fun w L=>w= .bool (!x.ok)∧L=R:=by
 refine SW.intro rfl Tryz.func103 rfl ?_
 refine O0 2 J (yW rfl rfl rfl rfl fun i1=> ?_)
 refine Z 4 J (lN J Y Y J J (Z0 (Qj _ _ _ _ _) J ?_))
 rcases Bool.eq_false_or_eq_true x.ok with hI|hI
 ·rw [if_pos (show yp x.op x.a x.b x.n=true from hI)]
  refine zf rfl (fun _=>zC rfl rfl rfl (vI rfl)) (qM (by omega) ?_)
  refine Z 3 J (zE J J J ?_)
  rw [hI]
  exact fq
 rw [if_neg (show¬yp x.op x.a x.b x.n=true from fun e=>by rw [show yp x.op x.a x.b x.n=x.ok from rfl,hI]at e;cases e)]
 refine zf rfl (fun _=>zC rfl rfl rfl (vI rfl)) (GM (by omega) ?_)
 refine Z 3 J (zE J J J ?_)
 rw [hI]
 exact fq
theorem fY (R:List SP) (v:AVal) (code:List yl) (hn:code.length≤1000000):zy 62 [v] (ent (zP qN 4) v code::R) fun w L=>w= .bool (q8 code)∧L=ent (zP qN 4) v code::R:=by
 refine SW.intro rfl Tryz.func62 rfl ?_
 refine O0 7 J (yo rfl (fun _ h=>y0 rfl rfl rfl rfl rfl h) ?_)
 refine Z 1 J (z0 (fun h5=> ?_) (fun h5=> ?_))
 ·refine Z 2 J (Z0 (nv [] R v code hn (fun x=> !x.ok) 103 [] [] (fun x _ R2=>np R2 x)) J ?_)
  dsimp only [List.nil_append]
  refine Z 5 J (zE J J J (⟨_,⟨congrArg AVal.bool ?_,rfl⟩,Y⟩))
  unfold q8
  rw [decide_eq_true (by omega)];rfl
 refine Z 8 J (zE J J J (⟨_,⟨congrArg AVal.bool ?_,rfl⟩,Y⟩))
 unfold q8
 rw [decide_eq_false (by omega)];rfl
end Go.Proofs.YtlhcpplnlgehbaaGreat
