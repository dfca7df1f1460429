/- Part of the proof: KSpace, KSpace2, KVm, KTlb, KCache, KMmu. Names and blanks are cut short to keep within the size of a claim. -/
import Derived.Test.YtlhcpplnlgehbaaGreatM4
import Derived.Test.YtlhcpplnlgehbaaGreatM5
set_option linter.unusedVariables false
set_option linter.unusedSimpArgs false
set_option maxRecDepth 100000
namespace Go.Proofs.YtlhcpplnlgehbaaGreat
open Go Go.RowKit Go.Px
theorem MW.qi {P:Program} {t kt et it:TypeId} {a b:Field} {fs:Array Field} (h1:yj P t=some (.map kt et)) (h2:yj P kt=some (.struct fs)) (hf:fs.toList= [a,b]) (ha:a.type=it) (hb:b.type=it) (o1:a.offset=0) (o2:b.offset=1)
 (n1:(a.name== "_")=false) (n2:(b.name== "_")=false) (hi:yj P it=some (.int .i64)) (hs:P.stoodInHeld kt=false):MW P t:=by
 have hg:Y3 P it=some false:=by simp only [Y3,hi]
 refine⟨⟨kt,et,h1,fun p=> ?_,fun F H p q=> ?_⟩⟩
 ·simp [vM,kW,h2,hf,Y9,ha,hb,o1,o2,hg,hi]
 have hk:gN .i64 .i64=true:=rfl
 have hq: ∀a b:Int,SInt.eq F (.lit a) (.lit b)=some (decide (a=b)):=fun a b=>by simp [SInt.eq,vy]
 have hp:(p=q)↔p.1=q.1∧p.2=q.2:=by cases p;cases q;simp
 simp only [kW,VA,h2,hs,hf,Wj,n1,n2,Y9,ha,hb,o1,o2,hg,hi,cond_false,List.getElem?_cons_zero,List.getElem?_cons_succ,hk,cond_true,hq]
 by_cases e1:p.1=q.1
 ·by_cases e2:p.2=q.2
  ·simp [e1,e2,hp]
  simp [e1,e2,hp]
 simp [e1,hp]
instance:MW Tryz.prog 323:=MW.qi (it:=3) Tryz.underlying323 Tryz.underlying325 rfl rfl rfl rfl rfl (by decide) (by decide) Tryz.underlying3 (by kernel_rfl)
structure y5 where
 owner:Int
 kernel:Nat
 user:Nat
 tables:List Int
abbrev dS (m p:Nat) (S:y5) (tv:z0):List z0:= [vp m 0,vp p 0,vi S.owner,vi (S.kernel:Nat),vi (S.user:Nat),tv]
def y5.Ok (S:y5):Prop:=S.kernel≤64∧S.user≤64
structure XE where
 m:Nat
 p:Nat
 S:y5
abbrev JB (a:Nat) (x:XE) (tv:z0):List SP:= [z3 zC a (dS x.m x.p x.S tv),z3 (zX ye 1) tv x.S.tables]
def we (a:Nat) (x:XE):SP:=fun h=> ∃tv,x.S.Ok∧Sat (JB a x tv) h
theorem Yq (a:Nat) (x:XE): ∀h,we a x h→ ∃tv,x.S.Ok∧Sat (JB a x tv) h:=fun _ h=>h
theorem qq {a:Nat} {m p:Nat} {S:y5} {tv:z0} (hS:S.Ok): ∀h,Sat [z3 zC a (dS m p S tv),z3 (zX ye 1) tv S.tables] h→we a ⟨m,p,S⟩ h:=fun _ x=>⟨tv,hS,x⟩
def zF.below (M:zF) (t:Int) (i:Nat):Int:=if eN (M.rd (8*t+i))≠0 then-1 else fN (M.rd (8*t+i))
def zF.last (M:zF) (k z4:Nat):Int:=if M.below k (yJ z4 0)<0 then-1 else M.below (M.below k (yJ z4 0)) (yJ z4 1)
theorem zF.Q6 (M:zF) (t:Int) (i:Nat): -1≤M.below t i∧M.below t i<1099511627776:=by
 unfold zF.below;split
 ·omega
 have:=CF (M.rd (8*t+i));omega
theorem zF.qe (M:zF) (k z4:Nat): -1≤M.last k z4∧M.last k z4<1099511627776:=by
 unfold zF.last;split
 ·omega
 exact M.Q6 _ _
def zF.Y7 (M:zF) (k:Nat) (ks:List (Int×Int)) (z4:Int):List (Int×Int):=if 0≤z4∧z4<256 then
 (let pg:=z4.toNat
  let ks1:=if M.below k (yJ pg 0)<0 then kH ks ((yJ pg 0:Nat),-1)else ks
  if M.last k pg<0 then kH ks1 ((yJ pg 0:Nat),(yJ pg 1:Nat))else ks1)else ks
theorem VR (M:zF) (k:Nat) (ks:List (Int×Int)) (pg:Nat) (h:pg<256):M.Y7 k ks pg=if M.last k pg<0 then kH (if M.below k (yJ pg 0)<0 then kH ks ((yJ pg 0:Nat),-1)else ks) ((yJ pg 0:Nat),(yJ pg 1:Nat))else(if M.below k (yJ pg 0)<0 then kH ks ((yJ pg 0:Nat),-1)else ks):=by
 unfold zF.Y7;rw [if_pos (by omega)];rfl
theorem A3 (M:zF) (k:Nat) (ks:List (Int×Int)) (z:Int) (h: ¬(0≤z∧z<256)):M.Y7 k ks z=ks:=by
 unfold zF.Y7;rw [if_neg h]
def zF.kM (M:zF) (k:Nat) (ps:List Int):Nat:=(ps.foldl (M.Y7 k) []).length
abbrev PM.write (s:PM) (z:Int) (x:Nat):PM:=⟨s.M.write z x,s.R⟩
abbrev PM.link (s:PM) (t:Int) (i f:Nat):PM:=s.write (8*t+i) (wZ true true false f)
abbrev y5.grown (S:y5) (f:Nat):y5:= { S with tables:=S.tables++ [((f:Nat):Int)] }
def kO (s:PM) (S:y5) (z4:Nat):PM×y5:=if s.M.below S.kernel (yJ z4 0)<0 then
 (((s.take 1 S.owner).link S.kernel (yJ z4 0) s.got).link S.user (yJ z4 0) s.got,S.grown s.got)else(s,S)
def rR (s:PM) (S:y5) (z4:Nat):PM×y5:=if s.M.below (s.M.below S.kernel (yJ z4 0)) (yJ z4 1)<0 then
 ((s.take 1 S.owner).link (s.M.below S.kernel (yJ z4 0)) (yJ z4 1) s.got,S.grown s.got)else(s,S)
def sy (s:PM) (S:y5) (z4 x:Nat):PM×y5:=
 let b:=rR (kO s S z4).1 (kO s S z4).2 z4
 (b.1.write (8*b.1.M.last S.kernel z4+(yJ z4 2:Nat)) x,b.2)
def jE (s:PM) (S:y5) (z4:Int):Bool:=decide (0≤z4∧z4<256) && decide ((s.M.kM S.kernel [z4]:Int)≤s.M.left)
def PM.yZ (s:PM) (S:y5) (z4:Int) (x:Nat):PM×y5:=if jE s S z4 then sy s S z4.toNat x else(s,S)
theorem Dl (s:PM) (S:y5) (z4:Nat):(kO s S z4).2.owner=S.owner∧(kO s S z4).2.kernel=S.kernel∧(kO s S z4).2.user=S.user∧(kO s S z4).2.tables.length≤S.tables.length+1:=by
 unfold kO;split
 ·exact⟨rfl,rfl,rfl,by simp [y5.grown]⟩
 exact⟨rfl,rfl,rfl,by simp⟩
theorem Dm (s:PM) (S:y5) (z4:Nat):(rR s S z4).2.owner=S.owner∧(rR s S z4).2.kernel=S.kernel∧(rR s S z4).2.user=S.user∧(rR s S z4).2.tables.length≤S.tables.length+1:=by
 unfold rR;split
 ·exact⟨rfl,rfl,rfl,by simp [y5.grown]⟩
 exact⟨rfl,rfl,rfl,by simp⟩
theorem IE (M:zF) (k:Nat) (ps:List Int):M.kM k ps≤2*ps.length:=by
 unfold zF.kM
 have one: ∀ks p,(M.Y7 k ks p).length≤ks.length+2:=by
  intro ks p
  have ins: ∀(ks:List (Int×Int)) q,(kH ks q).length≤ks.length+1:=fun ks q=>by unfold kH;split<;>simp
  unfold zF.Y7
  split
  ·simp only
   split<;>split
   ·have:=ins (kH ks ((yJ p.toNat 0:Nat),-1)) ((yJ p.toNat 0:Nat),(yJ p.toNat 1:Nat));have:=ins ks ((yJ p.toNat 0:Nat),-1);omega
   ·have:=ins ks ((yJ p.toNat 0:Nat),(yJ p.toNat 1:Nat));omega
   ·have:=ins ks ((yJ p.toNat 0:Nat),-1);omega
   omega
  omega
 have all: ∀(ps:List Int) ks,(ps.foldl (M.Y7 k) ks).length≤ks.length+2*ps.length:=by
  intro ps
  induction ps with
  |nil=>intro ks;simp
  |cons p ps ih=>intro ks;have:=ih (M.Y7 k ks p);have:=one ks p;simp only [List.foldl_cons,List.length_cons];omega
 have:=all ps []
 simpa using this
theorem KJ (R:List SP) (p w u g:Bool) (f:Nat) (hf:f<1099511627776):yH 200 [H7 p w u g (f:Int)] (R) fun v L=>v=vu (wZ w u g f)∧L=R:=by
 refine SW.intro rfl Tryz.func200 rfl ?_
 refine O0 2 J (yu rfl rfl rfl rfl fun i1=> ?_)
 exact Z 4 J (fa J Y (sO J Y J J J (Z 3 J (lN J Y Y J J (Z0 (sY _ _ _ _ _ (by omega)) J (Z 12 J (zI J J J fq)))))))
theorem Qw (R:List SP) (m:Nat) (M:zF) (t:Int) (i:Nat) (p w u g:Bool) (f:Nat) (hf:f<1099511627776) (ht: -1≤t∧t<1099511627776) (hi:i<8):yH 151 [vp m 0,vi t,vi (i:Nat),H7 p w u g (f:Int)] (z3 zY m M::R) fun v L=>v= .tuple []∧L=z3 zY m (M.write (8*t+i) (wZ w u g f))::R:=by
 refine SW.intro rfl Tryz.func151 rfl ?_
 refine O0 2 J (yu rfl rfl rfl rfl fun i7=> ?_)
 exact Z 4 J (ml J (Z 1 J (ad J (lN J Y Y J J (Z0 (KJ _ _ _ _ _ _ (by omega)) J (Z1 (Ys _ _ M _ (by omega) _ (rP w u g f hf)) J Y (Z 1 J (wq J J fq))))))))
theorem EC (R:List SP) (p:Int):yH 252 [vi p] (R) fun v L=>v= .bool (decide (0≤p∧p<256))∧L=R:=by
 refine SW.intro rfl Tryz.func252 rfl ?_
 refine O0 8 J (z5 (fun h4=> ?_) (fun h4=> ?_))
 ·refine Z 7 J (zI J J J (⟨_,⟨yT ?_,rfl⟩,Y⟩))
  simp;omega
 refine Z 7 J (zI J J J (⟨_,⟨yT ?_,rfl⟩,Y⟩))
 simp;omega
theorem ZF (R:List SP) (a m p:Nat) (S:y5) (tv:z0) (M:zF) (t:Int) (i:Nat) (ht: -1≤t∧t<1099511627776) (hi:i<8):yH 254 [vp a 0,vi t,vi (i:Nat)] (z3 zC a (dS m p S tv)::z3 zY m M::R) fun v L=>v=vi (M.below t i)∧L=z3 zC a (dS m p S tv)::z3 zY m M::R:=by
 refine yl (qf m M) fun hM=> ?_
 refine SW.intro rfl Tryz.func254 rfl ?_
 refine O0 8 J (fa J Y (ld J Y J (Z 1 J (ml J (Z 1 J (ad J (Z1 (J8 _ _ M _ (by omega)) J Y ?_)))))))
 generalize hx:M.rd (8*t+(i:Int))=x
 have Lc:x≤18446744073709551615:=by { rw [←hx];exact zF.ph hM _ }
 refine Z 9 J (Z0 (bq _ x Lc) J (Z 3 J (zn rfl rfl rfl fun i9=> ?_)))
 refine sN J Y Y J J J (Z 7 J (z5 (fun Vj=> ?_) (fun Vj=> ?_)))
 ·refine Z 7 J (zI J J J ?_)
  have e:M.below t i= -1:=by { unfold zF.below;rw [hx];exact if_pos Vj }
  rw [e]
  exact fq
 refine Z 5 J (fa J Y (ld J Y J (Z 3 J (zI J J J ?_))))
 have e:M.below t i=(fN x:Nat):=by { unfold zF.below;rw [hx];exact if_neg Vj }
 rw [e]
 exact fq
theorem Vc (R:List SP) (a m p:Nat) (S:y5) (hS:S.Ok) (tv:z0) (M:zF) (z4:Nat) (hp:z4<512):yH 255 [vp a 0,vi (z4:Nat)] (z3 zC a (dS m p S tv)::z3 zY m M::R) fun v L=>v=vi (M.last S.kernel z4)∧L=z3 zC a (dS m p S tv)::z3 zY m M::R:=by
 have hk:=hS.1
 have hi0:=wC z4 0
 have hi1:=wC z4 1
 have hb:=M.Q6 S.kernel (yJ z4 0)
 refine SW.intro rfl Tryz.func255 rfl ?_
 refine O0 5 J (zW [0,0,2,6,14,0,32,127,255] [([0,1,2,3,4,5],[4],some 6),([],[4],some 7),([8],[],none)] (by kernel_rfl) ?_)
 refine z7 (ZK 3 J (zx J Y (q9 J Y J (ZK 1 J (z8 ⟨(yN J Y J J J z9),?_⟩)))))
 refine Z0 (ur _ z4 0 (by omega) (by decide)) J (zJ (z7 (z8 ⟨(yN J Y J J J z9),?_⟩)))
 refine Z2 (ZF _ _ _ _ S _ M _ _ (by omega) (by omega)) J Y Y (zJ (z7 (ZK 1 J (z8 ⟨z9,?_⟩))))
 refine OX 5 J (z5 (fun YM=> ?_) (fun YM=> ?_))
 ·refine Z 7 J (zI J J J ?_)
  have e:M.last S.kernel z4= -1:=by { unfold zF.last;exact if_pos YM }
  rw [e]
  exact fq
 refine Z 8 J (Z0 (ur _ z4 1 (by omega) (by decide)) J (Z2 (ZF _ _ _ _ S _ M _ _ (by omega) (by omega)) J Y Y (Z 3 J (zI J J J ?_))))
 have e:M.last S.kernel z4=M.below (M.below S.kernel (yJ z4 0)) (yJ z4 1):=by { unfold zF.last;exact if_neg YM }
 rw [e]
 exact fq
theorem xB (R:List SP) (a m p:Nat) (S:y5) (tv:z0) (M:zF) (t:Int) (i f:Nat) (hf:f<1099511627776) (ht: -1≤t∧t<1099511627776) (hi:i<8):yH 264 [vp a 0,vi t,vi (i:Nat),vi (f:Nat)] (z3 zC a (dS m p S tv)::z3 zY m M::R) fun v L=>v= .tuple []∧L=z3 zC a (dS m p S tv)::z3 zY m (M.write (8*t+i) (wZ true true false f))::R:=by
 refine SW.intro rfl Tryz.func264 rfl ?_
 exact O0 3 J (fa J Y (ld J Y J (Z 3 J (bu [_,_,_,_,_] J Y Y J (Z1 (Qw _ _ M _ _ _ _ _ _ f (by omega) (by omega) (by omega)) J Y (Z 1 J (wq J J fq)))))))
theorem ED (R:List SP) (a:Nat) (x:XE):yH 206 [vp a 0] (z3 we a x::R) fun v L=>v= .tuple [vi (x.S.kernel:Nat),vi (x.S.user:Nat)]∧L=z3 we a x::R:=by
 refine ze (Yq a x) fun tv hS=> ?_
 dsimp only [JB,List.cons_append,List.nil_append]
 refine SW.intro rfl Tryz.func206 rfl ?_
 refine O0 6 J (zW [0,1,3,7,0,16,48,112,15,511] [([0,1,2,3,4,5,6,7,8,9],[3,7],none)] (by kernel_rfl) ?_)
 refine z7 (ZK 2 J (zx J Y (q9 J Y J (ZK 2 J (zx J Y (q9 J Y J (ZK 2 J (z8 ⟨(yN J Y J J J (yN J Y J J J z9)),?_⟩))))))))
 exact OX 1 J (qt J J J J ⟨_,⟨rfl,rfl⟩,Sub.qi (qq hS) Y⟩)
theorem Ve (R:List SP) (a m p:Nat) (S:y5) (tv:z0) (M:zF) (Rf:List (Int×Int)) (hT:S.tables.length≤1000000):yH 155 [vp a 0] (z3 zC a (dS m p S tv)::z3 (zX ye 1) tv S.tables::z3 zi p ⟨m,Rf⟩::z3 zY m M::R) fun v L=> ∃tw,v=vi ((PM.got ⟨M,Rf⟩:Nat):Int)∧L=z3 zC a (dS m p { S with tables:=S.tables++ [((PM.got ⟨M,Rf⟩:Nat):Int)] } tw)::z3 (zX ye 1) tw (S.tables++ [((PM.got ⟨M,Rf⟩:Nat):Int)])::z3 zi p ⟨m,(PM.take ⟨M,Rf⟩ 1 S.owner).R⟩::z3 zY m (PM.take ⟨M,Rf⟩ 1 S.owner).M::R:=by
 refine SW.intro rfl Tryz.func155 rfl ?_
 refine O0 5 J (zW [0,1,3,7,0,16,48,112,255,511,1023,1023,2047,8191] [([0,1,2,3,4,5,6,7],[3,7],some 8),([9,10,11,12,13],[],none)] (by kernel_rfl) ?_)
 refine z7 (ZK 2 J (zx J Y (q9 J Y J (ZK 2 J (zx J Y (q9 J Y J (z8 ⟨(yN J Y J J J (yN J Y J J J z9)),?_⟩)))))))
 refine Z2 (nD _ _ _ _ _ _ _ (by omega)) J Y Y (zJ (z7 (ZK 5 J (z8 ⟨z9,?_⟩))))
 refine OX 5 J (fa J Y (ld J Y J (Z 1 J (zf (cs:= [_]) rfl rfl rfl (by decide) rfl fun i23=> ?_))))
 refine ZQ rfl rfl rfl rfl rfl rfl rfl ([((PM.got ⟨M,Rf⟩:Nat):Int)]) rfl rfl (by simp) (by show _+1≤_;omega) rfl fun i24 q24 c24=> ?_
 exact Z 1 J (fa J Y (sO J Y J J J (Z 7 J (zI J J J ⟨_,⟨.slice (some (i24,q24)) (S.tables.length+1) c24 1,rfl,rfl⟩,Y⟩))))
theorem o4 (R:List SP) (a m p:Nat) (S:y5) (hS:S.Ok) (tv:z0) (M:zF) (pv:z0) (ps:List Int) (hn:ps.length≤1000000):yH 220 [vp a 0,pv] (z3 zC a (dS m p S tv)::z3 zY m M::z3 (zX ye 1) pv ps::R) fun v L=>v=vi (M.kM S.kernel ps:Nat)∧L=z3 zC a (dS m p S tv)::z3 zY m M::z3 (zX ye 1) pv ps::R:=by
 have hk:=hS.1
 refine SW.intro rfl Tryz.func220 rfl ?_
 refine O0 6 J (sT rfl rfl fun i10=> ?_)
 refine Z 6 J (qJ rfl (fun _ h=>yI rfl rfl rfl rfl rfl h) ?_)
 refine Z 3 J (zy (fun j T L=> ∃(c:Nat),(c≤ps.length)∧j=ps.length-c∧T.len=3∧Tm.get 0 T=some (vp a 0)∧Tm.get 5 T=some (.map (some i10))∧Tm.get 11 T=some (pv)∧Tm.get 12 T=some (vi (ps.length:Nat))∧Tm.get 13 T=some (vi (c:Nat))∧Sub L (z3 bJ i10 ((ps.take c).foldl (M.Y7 S.kernel) [])::z3 zC a (dS m p S tv)::z3 zY m M::z3 (zX ye 1) pv ps::R)) (ps.length) ⟨0,by omega,by omega,rfl,rfl,rfl,rfl,rfl,rfl,(by rw [List.take_zero,List.foldl_nil];exact Y)⟩ ?_)
 rintro j T L0 ⟨c,hc,rfl,hl,g0,g5,kA,iN,mv,yU⟩
 obtain⟨tg,rfl⟩:=I3 hl g0 g5 kA iN mv
 clear hl g0 g5 kA iN mv
 refine yE yU ?_
 clear yU L0
 refine O0 3 J (z5 (fun YQ=> ?_) (fun YQ=> ?_))
 ·refine Z 8 J ?_
  obtain⟨z,hz⟩: ∃z,ps[c]? =some z:=⟨ps[c]'(by omega),List.getElem?_eq_getElem (by omega)⟩
  refine qJ rfl (fun _ h=>yg rfl rfl rfl (by omega) (by omega) h) ?_
  refine lE 0 J Y J hz J (Z 6 J (Z0 (EC _ _) J (z5 (fun lP=> ?_) (fun lP=> ?_))))
  ·obtain⟨pg,rfl⟩: ∃pg:Nat,z=pg:=⟨z.toNat,by omega⟩
   have hi0:=wC pg 0
   have hi1:=wC pg 1
   refine Z 7 J (Z0 (ur _ pg 0 (by omega) (by decide)) J (Z 1 J (Z0 (ur _ pg 1 (by omega) (by decide)) J (Z 9 J (fa J Y (ld J Y J (Z 1 J (Z2 (ZF _ _ _ _ S _ M _ _ (by omega) (by omega)) J Y Y (Z 1 J (z5 (fun Vz=> ?_) (fun Vz=> ?_)))))))))))
   ·refine Z 5 J (bu [_,_] J Y Y J (tU (p:=((yJ pg 0:Nat),-1)) rfl rfl rfl rfl rfl ?_))
    refine Z 5 J (Z2 (Vc _ _ _ _ S hS _ M _ (by omega)) J Y Y (Z 1 J (z5 (fun nU=> ?_) (fun nU=> ?_))))
    ·refine Z 6 J (bu [_,_] J Y Y J (tU (p:=((yJ pg 0:Nat),(yJ pg 1:Nat))) rfl rfl rfl rfl rfl ?_))
     refine Z 2 J (ad J (Z 2 J ?_))
     have hK:=qk (M.Y7 S.kernel) [] ps c _ hz
     rw [VR _ _ _ _ (by omega),if_pos nU,if_pos Vz]at hK
     exact Or.inl ⟨rfl,_,by omega,c+1,by omega,rfl,rfl,rfl,rfl,rfl,rfl,rfl,(by rw [hK];exact Y)⟩
    refine Z 4 J (ad J (Z 2 J ?_))
    have hK:=qk (M.Y7 S.kernel) [] ps c _ hz
    rw [VR _ _ _ _ (by omega),if_neg nU,if_pos Vz]at hK
    exact Or.inl ⟨rfl,_,by omega,c+1,by omega,rfl,rfl,rfl,rfl,rfl,rfl,rfl,(by rw [hK];exact Y)⟩
   refine Z 7 J (Z2 (Vc _ _ _ _ S hS _ M _ (by omega)) J Y Y (Z 1 J (z5 (fun nU=> ?_) (fun nU=> ?_))))
   ·refine Z 6 J (bu [_,_] J Y Y J (tU (p:=((yJ pg 0:Nat),(yJ pg 1:Nat))) rfl rfl rfl rfl rfl ?_))
    refine Z 2 J (ad J (Z 2 J ?_))
    have hK:=qk (M.Y7 S.kernel) [] ps c _ hz
    rw [VR _ _ _ _ (by omega),if_pos nU,if_neg Vz]at hK
    exact Or.inl ⟨rfl,_,by omega,c+1,by omega,rfl,rfl,rfl,rfl,rfl,rfl,rfl,(by rw [hK];exact Y)⟩
   refine Z 4 J (ad J (Z 2 J ?_))
   have hK:=qk (M.Y7 S.kernel) [] ps c _ hz
   rw [VR _ _ _ _ (by omega),if_neg nU,if_neg Vz]at hK
   exact Or.inl ⟨rfl,_,by omega,c+1,by omega,rfl,rfl,rfl,rfl,rfl,rfl,rfl,(by rw [hK];exact Y)⟩
  refine Z 5 J (ad J (Z 2 J ?_))
  have hK:=qk (M.Y7 S.kernel) [] ps c _ hz
  rw [A3 _ _ _ _ lP]at hK
  exact Or.inl ⟨rfl,_,by omega,c+1,by omega,rfl,rfl,rfl,rfl,rfl,rfl,rfl,(by rw [hK];exact Y)⟩
 refine Z 4 J (Or.inr ⟨nofun,?_⟩)
 refine OX 3 J (qJ rfl (fun _ h=>N3 rfl rfl rfl rfl rfl h) ?_)
 refine Z 3 J (zI J J J ?_)
 have Uz:c=ps.length:=by omega
 subst Uz
 rw [List.take_length]
 exact fq
theorem KC (R:List SP) (a m p:Nat) (S:y5) (M:zF) (Rf:List (Int×Int)) (hT:S.tables.length≤1000000):yH 177 [vp a 0] (z3 we a ⟨m,p,S⟩::z3 zi p ⟨m,Rf⟩::z3 zY m M::R) fun v L=>v= .tuple []∧L=z3 we a ⟨m,p,{ S with tables:= [] }⟩::z3 zi p ⟨m,(S.tables.foldl PM.jO ⟨M,Rf⟩).R⟩::z3 zY m (S.tables.foldl PM.jO ⟨M,Rf⟩).M::R:=by
 refine ze (Yq a ⟨m,p,S⟩) fun tv hS=> ?_
 dsimp only [JB,List.cons_append,List.nil_append]
 refine SW.intro rfl Tryz.func177 rfl ?_
 refine O0 5 J (fa J Y (ld J Y J (qJ rfl (fun _ h=>yI rfl rfl rfl rfl rfl h) ?_)))
 refine Z 3 J (zy (fun j T L=> ∃(c:Nat),(c≤S.tables.length)∧j=S.tables.length-c∧T.len=2∧Tm.get 0 T=some (vp a 0)∧Tm.get 7 T=some (tv)∧Tm.get 8 T=some (vi (S.tables.length:Nat))∧Tm.get 9 T=some (vi (c:Nat))∧Sub L (z3 zC a (dS m p S tv)::z3 (zX ye 1) tv S.tables::z3 zi p ⟨m,((S.tables.take c).foldl PM.jO ⟨M,Rf⟩).R⟩::z3 zY m ((S.tables.take c).foldl PM.jO ⟨M,Rf⟩).M::R)) (S.tables.length) ⟨0,by omega,by omega,rfl,rfl,rfl,rfl,rfl,(by rw [List.take_zero,List.foldl_nil];exact Y)⟩ ?_)
 rintro j T L0 ⟨c,hc,rfl,hl,g0,g7,g8,g9,yU⟩
 obtain⟨tg,rfl⟩:=GY hl g0 g7 g8 g9
 clear hl g0 g7 g8 g9
 refine yE yU ?_
 clear yU L0
 refine O0 3 J (z5 (fun GV=> ?_) (fun GV=> ?_))
 ·refine Z 8 J ?_
  obtain⟨z,hz⟩: ∃z,S.tables[c]? =some z:=⟨S.tables[c]'(by omega),List.getElem?_eq_getElem (by omega)⟩
  refine qJ rfl (fun _ h=>yg rfl rfl rfl (by omega) (by omega) h) ?_
  refine lE 0 J Y J hz J (Z 5 J (fa J Y (ld J Y J (Z 1 J (Z2 (cT _ _ _ ((S.tables.take c).foldl PM.jO ⟨M,Rf⟩).R ((S.tables.take c).foldl PM.jO ⟨M,Rf⟩).M _) J Y Y (Z 2 J (ad J (Z 2 J ?_))))))))
  have hK:=qk PM.jO ⟨M,Rf⟩ S.tables c _ hz
  exact Or.inl ⟨rfl,_,by omega,c+1,by omega,rfl,rfl,rfl,rfl,rfl,rfl,(by rw [hK];exact Y)⟩
 refine Z 4 J (Or.inr ⟨nofun,?_⟩)
 refine OX 3 J (fa J Y (sO J Y J J J (Z 1 J (wq J J ?_))))
 have Uz:c=S.tables.length:=by omega
 subst Uz
 rw [List.take_length]
 exact⟨_,⟨rfl,rfl⟩,(Sub.jF (α:=Int) (en:=ye) (es:=1) (fun _=>rfl) (by decide) 0 _).trans (Sub.qi (qq (S:= { S with tables:= [] }) hS) Y)⟩
theorem jG {P:Program} {F:zD} {zB:yy} {ops:Array Oper} {l:List Oper} {T:Tm} {L R:List SP} {Q:Tm→List SP→Prop} {κ α:Type} {K:κ→α→SP} {a:κ} {x:α} {p:Prop} [t:Tk L K a x R] (hu: ∀h,K a x h→p) (k:p→WO P F zB ops l T L Q):WO P F zB ops l T L Q:=fun H hH=>by
 obtain⟨_,_,_,_,_,h4,_⟩:=t.h _ hH.s
 exact k (hu _ h4) H hH
theorem Qr {α:Type} {en:α→List z0} {es i:Nat} {xs:List α} (he: ∀x,(en x).length=es) (h0:0<es): ∀h,zC i (xs.flatMap en) h→zX en es (.slice (some (i,0)) xs.length (some xs.length) es) xs h:=by
 intro h hr
 have hl:=wF he xs
 have hf:zO i (xs.length*es,jW (xs.flatMap en)) h:=by
  have:=vE (f:=jW (xs.flatMap en)) (fun j hj=>Qk hj) h hr
  rw [hl]at this;exact this
 exact Uv he h0 rfl ⟨by omega,fun k hk=>by cases hk;exact⟨by omega,Nat.le_refl _⟩⟩ (by rw [←hl];exact QU _) h hf
theorem xk {M:zF} {R:List (Int×Int)} (h:M.Ok):PM.got ⟨M,R⟩<1099511627776:=by
 have h1:PM.got ⟨M,R⟩≤M.n:=PM.Wn _
 have:=h.2.1
 omega
theorem gk {M:zF} {R:List (Int×Int)} (h:M.Ok): -1≤((PM.got ⟨M,R⟩:Nat):Int)∧((PM.got ⟨M,R⟩:Nat):Int)<1099511627776:=by
 have:=xk (R:=R) h
 omega
theorem Nr {P:Program} {F:zD} {zB:yy} {ops:Array Oper} {l:List Oper} {T:Tm} {L M:List SP} {Q:Tm→List SP→Prop} (e:L=M) (k:WO P F zB ops l T M Q):WO P F zB ops l T L Q:=e▸k
theorem Ll {P:Program} {F:zD} {ops:Array Oper} {m:List It} {T:Tm} {L M:List SP} {Q:Tm→List SP→Prop} (s:Sub L M) (k:WK P F ops m T M Q):WK P F ops m T L Q:=fun H hH=>k H (hH.sub s)
theorem kb {k:Nat} (h:k≤64): -1≤(k:Int)∧(k:Int)<1099511627776:=by omega
theorem kL {z:Int} (h: -1≤z∧z<1099511627776): -9223372036854775808≤8*z∧8*z≤9223372036854775807:=by omega
theorem Jz {z:Int} {i:Nat} (h: -1≤z∧z<1099511627776) (hi:i<8): -9223372036854775808≤8*z+i∧8*z+i≤9223372036854775807:=by omega
theorem OI (R:List SP) (a m p:Nat) (S:y5) (M:zF) (Rf:List (Int×Int)) (z4:Int) (x:Nat) (hx:x≤18446744073709551615) (hT:S.tables.length≤900000):yH 256 [vp a 0,vi z4,vu x] (z3 we a ⟨m,p,S⟩::z3 zi p ⟨m,Rf⟩::z3 zY m M::R) fun v L=>v= .bool (jE ⟨M,Rf⟩ S z4)∧L=z3 we a ⟨m,p,(PM.yZ ⟨M,Rf⟩ S z4 x).2⟩::z3 zi p ⟨m,(PM.yZ ⟨M,Rf⟩ S z4 x).1.R⟩::z3 zY m (PM.yZ ⟨M,Rf⟩ S z4 x).1.M::R:=by
 refine ze (Yq a ⟨m,p,S⟩) fun tv hS=> ?_
 dsimp only [JB,List.cons_append,List.nil_append]
 refine yl (qf m M) fun hM=> ?_
 have hk:S.kernel≤64:=hS.1
 have hu:S.user≤64:=hS.2
 have hn:=hM.2.1
 refine SW.intro rfl Tryz.func256 rfl ?_
 refine O0 6 J (zW [0,1,3,7,15,15,47,127,15,271,783,1807,4095,8191,16383] [([0],[],some 1),([2,3,4,5,6,8,9,10,11],[11],some 7),([],[11],some 12),([13,14],[13],none)] (by kernel_rfl) ?_)
 refine z7 (ZK 1 J (z8 ⟨z9,?_⟩))
 refine Z0 (EC _ _) J (z5 (fun ke=> ?_) (fun ke=> ?_))
 ·refine zJ (z7 (ZK 4 J (uy (cs:= [_]) rfl rfl rfl (by decide) rfl fun i17=> ?_)))
  refine ZK 2 J (zx J Y (q9 J Y J (z8 ⟨(yN J Y J J J z9),?_⟩)))
  refine zd (Sub.one (K:=zC) (a:=i17) (x:= [vi z4]) (K2:=zX ye 1) (a2:= .slice (some (i17,0)) 1 (some 1) 1) (x2:= [z4]) fun f hf=>Qr (en:=ye) (es:=1) (xs:= [z4]) (fun _=>rfl) (by decide) f hf) ?_
  refine Z3 (o4 _ _ _ _ S hS _ M _ [z4] (by show 1≤1000000;decide)) J Y Y Y (zJ (z7 (z8 ⟨(yN J Y J J J z9),?_⟩)))
  refine Z2 (bG _ _ _ _ _) J Y Y (zJ (z7 (ZK 1 J (ql (fun kB=> ?_) (fun kB=> ?_)))))
  ·refine ZK 1 J (z8 ⟨(gv J J J (by rw [decide_eq_true kB];rfl) z9),?_⟩)
   refine OX 6 J (zI J J J ?_)
   have e:jE ⟨M,Rf⟩ S z4=false:=by { unfold jE;rw [decide_eq_false (show¬((zF.kM M S.kernel [z4]:Nat):Int)≤(M.left:Nat)by omega),Bool.and_false] }
   have e2:PM.yZ ⟨M,Rf⟩ S z4 x=(⟨M,Rf⟩,S):=if_neg (by rw [e];nofun)
   rw [e,e2]
   exact⟨_,⟨rfl,rfl⟩,Sub.qi (qq hS) Y⟩
  refine ZK 1 J (z8 ⟨(gv J J J (by rw [decide_eq_false kB];rfl) z9),?_⟩)
  refine OX 4 J ?_
  obtain⟨pg,rfl⟩: ∃pg:Nat,z4=pg:=⟨z4.toNat,by omega⟩
  have hi0:=wC pg 0
  have hi1:=wC pg 1
  have hi2:=wC pg 2
  refine Z 1 J (Z0 (ur _ pg 0 (by omega) (by decide)) J (Z 1 J (Z0 (ur _ pg 1 (by omega) (by decide)) J (Z 9 J (fa J Y (ld J Y J (Z 1 J (Z2 (ZF _ _ _ _ S _ M _ _ (kb hk) (by omega)) J Y Y (Z 1 J (z5 (fun kf=> ?_) (fun kf=> ?_)))))))))))
  ·refine Z 5 J (Yk (Ve _ _ _ _ S _ M Rf (by omega)) rfl (fun _=>rfl) ?_)
   rintro _ _ ⟨z9X,rfl,rfl⟩
   refine Z 7 J (fa J Y (ld J Y J (Z 2 J (Z2 (xB _ _ _ _ { S with tables:=S.tables++ [((PM.got ⟨M,Rf⟩:Nat):Int)] } _ _ _ _ _ (xk hM) (kb hk) (by omega)) J Y Y (Z 5 J (fa J Y (ld J Y J (Z 2 J (Z2 (xB _ _ _ _ { S with tables:=S.tables++ [((PM.got ⟨M,Rf⟩:Nat):Int)] } _ _ _ _ _ (xk hM) (kb hu) (by omega)) J Y Y (Z 7 J (fa J Y (ld J Y J (Z 1 J (Z2 (ZF _ _ _ _ ({ S with tables:=S.tables++ [((PM.got ⟨M,Rf⟩:Nat):Int)] } :y5) _ _ _ _ (kb hk) (by omega)) J Y Y (Z 7 J (Z2 (ZF _ _ _ _ ({ S with tables:=S.tables++ [((PM.got ⟨M,Rf⟩:Nat):Int)] } :y5) _ _ _ _ (zF.Q6 _ _ _) (by omega)) J Y Y (Z 1 J (z5 (fun dm=> ?_) (fun dm=> ?_)))))))))))))))))))
   ·refine Z 7 J (jG (qf m _) fun VJ=> ?_)
    refine Yk (Ve _ _ _ _ ({ S with tables:=S.tables++ [((PM.got ⟨M,Rf⟩:Nat):Int)] } :y5) _ _ _ (by show(S.tables++ [_]).length≤_;rw [List.length_append];show S.tables.length+1≤_;omega)) rfl (fun _=>rfl) ?_
    rintro _ _ ⟨z36,rfl,rfl⟩
    refine Z2 (xB _ _ _ _ { ({ S with tables:=S.tables++ [((PM.got ⟨M,Rf⟩:Nat):Int)] } :y5)with tables:=_ } _ _ _ _ _ (xk VJ) (zF.Q6 _ _ _) (by omega)) J Y Y (Z 2 J (zW [0,1,3,7,0,0,48,112,0,368,1008,0,4095] [([0,1,2,3,4,5,8,11],[3],some 6),([7],[3,7],some 9),([10],[3,7,10],some 12),([],[],none)] (by kernel_rfl) ?_))
    refine z7 (ZK 2 J (zx J Y (q9 J Y J (ZK 4 J (z8 ⟨(yN J Y J J J z9),?_⟩)))))
    refine Z2 (Vc _ _ _ _ { ({ S with tables:=S.tables++ [((PM.got ⟨M,Rf⟩:Nat):Int)] } :y5)with tables:=_ } hS _ _ pg (by omega)) J Y Y (zJ (z7 (uc rfl (fun _=>zG rfl rfl rfl (gm (kL (zF.qe _ _ _)))) ?_)))
    refine z8 ⟨(yN J Y J J J (uR rfl (fun _=>zG rfl rfl rfl (gm (kL (zF.qe _ _ _)))) rfl rfl (z6 _ rfl) z9)),?_⟩
    refine Z0 (ur _ pg 2 (by omega) (by decide)) J (zJ (z7 (uc rfl (fun _=>zG rfl rfl rfl (gJ (Jz (zF.qe _ _ _) (wC _ _)))) ?_)))
    refine z8 ⟨(yN J Y J J J (uR rfl (fun _=>zG rfl rfl rfl (gm (kL (zF.qe _ _ _)))) rfl rfl (z6 _ rfl) (uR rfl (fun _=>zG rfl rfl rfl (gJ (Jz (zF.qe _ _ _) (wC _ _)))) rfl rfl (z6 _ rfl) z9))),?_⟩
    refine Z1 (Ys _ _ _ _ (Jz (zF.qe _ _ _) (wC _ _)).2 x hx) J Y (zJ (z7 (z8 ⟨z9,?_⟩)))
    refine OX 5 J (zI J J J ?_)
    have em:jE ⟨M,Rf⟩ S pg=true:=by { unfold jE;rw [decide_eq_true ke,decide_eq_true (show((zF.kM M S.kernel [(pg:Int)]:Nat):Int)≤(M.left:Nat)by omega)];rfl }
    have e1:kO (⟨M,Rf⟩:PM) S pg=(((((⟨M,Rf⟩:PM).take 1 S.owner).link S.kernel (yJ pg 0) (⟨M,Rf⟩:PM).got).link S.user (yJ pg 0) (⟨M,Rf⟩:PM).got),(S.grown (⟨M,Rf⟩:PM).got)):=if_pos kf
    have e2:rR ((((⟨M,Rf⟩:PM).take 1 S.owner).link S.kernel (yJ pg 0) (⟨M,Rf⟩:PM).got).link S.user (yJ pg 0) (⟨M,Rf⟩:PM).got) (S.grown (⟨M,Rf⟩:PM).got) pg=(((((((⟨M,Rf⟩:PM).take 1 S.owner).link S.kernel (yJ pg 0) (⟨M,Rf⟩:PM).got).link S.user (yJ pg 0) (⟨M,Rf⟩:PM).got).take 1 (S.grown (⟨M,Rf⟩:PM).got).owner).link (((((⟨M,Rf⟩:PM).take 1 S.owner).link S.kernel (yJ pg 0) (⟨M,Rf⟩:PM).got).link S.user (yJ pg 0) (⟨M,Rf⟩:PM).got).M.below (S.grown (⟨M,Rf⟩:PM).got).kernel (yJ pg 0)) (yJ pg 1) ((((⟨M,Rf⟩:PM).take 1 S.owner).link S.kernel (yJ pg 0) (⟨M,Rf⟩:PM).got).link S.user (yJ pg 0) (⟨M,Rf⟩:PM).got).got),((S.grown (⟨M,Rf⟩:PM).got).grown ((((⟨M,Rf⟩:PM).take 1 S.owner).link S.kernel (yJ pg 0) (⟨M,Rf⟩:PM).got).link S.user (yJ pg 0) (⟨M,Rf⟩:PM).got).got)):=if_pos dm
    have e3:PM.yZ (⟨M,Rf⟩:PM) S pg x=(((((((⟨M,Rf⟩:PM).take 1 S.owner).link S.kernel (yJ pg 0) (⟨M,Rf⟩:PM).got).link S.user (yJ pg 0) (⟨M,Rf⟩:PM).got).take 1 (S.grown (⟨M,Rf⟩:PM).got).owner).link (((((⟨M,Rf⟩:PM).take 1 S.owner).link S.kernel (yJ pg 0) (⟨M,Rf⟩:PM).got).link S.user (yJ pg 0) (⟨M,Rf⟩:PM).got).M.below (S.grown (⟨M,Rf⟩:PM).got).kernel (yJ pg 0)) (yJ pg 1) ((((⟨M,Rf⟩:PM).take 1 S.owner).link S.kernel (yJ pg 0) (⟨M,Rf⟩:PM).got).link S.user (yJ pg 0) (⟨M,Rf⟩:PM).got).got).write (8*((((((⟨M,Rf⟩:PM).take 1 S.owner).link S.kernel (yJ pg 0) (⟨M,Rf⟩:PM).got).link S.user (yJ pg 0) (⟨M,Rf⟩:PM).got).take 1 (S.grown (⟨M,Rf⟩:PM).got).owner).link (((((⟨M,Rf⟩:PM).take 1 S.owner).link S.kernel (yJ pg 0) (⟨M,Rf⟩:PM).got).link S.user (yJ pg 0) (⟨M,Rf⟩:PM).got).M.below (S.grown (⟨M,Rf⟩:PM).got).kernel (yJ pg 0)) (yJ pg 1) ((((⟨M,Rf⟩:PM).take 1 S.owner).link S.kernel (yJ pg 0) (⟨M,Rf⟩:PM).got).link S.user (yJ pg 0) (⟨M,Rf⟩:PM).got).got).M.last S.kernel pg+(yJ pg 2:Nat)) x,((S.grown (⟨M,Rf⟩:PM).got).grown ((((⟨M,Rf⟩:PM).take 1 S.owner).link S.kernel (yJ pg 0) (⟨M,Rf⟩:PM).got).link S.user (yJ pg 0) (⟨M,Rf⟩:PM).got).got)):=by { unfold PM.yZ;rw [if_pos em];unfold sy;rw [Int.toNat_natCast,e1];simp only [e2] }
    rw [em,e3]
    refine⟨_,⟨rfl,rfl⟩,?_⟩
    exact Sub.qi (qq (S:=((S.grown (⟨M,Rf⟩:PM).got).grown ((((⟨M,Rf⟩:PM).take 1 S.owner).link S.kernel (yJ pg 0) (⟨M,Rf⟩:PM).got).link S.user (yJ pg 0) (⟨M,Rf⟩:PM).got).got)) hS) Y
   refine Z 4 J (zW [0,1,3,7,0,0,48,112,0,368,1008,0,4095] [([0,1,2,3,4,5,8,11],[3],some 6),([7],[3,7],some 9),([10],[3,7,10],some 12),([],[],none)] (by kernel_rfl) ?_)
   refine z7 (ZK 2 J (zx J Y (q9 J Y J (ZK 4 J (z8 ⟨(yN J Y J J J z9),?_⟩)))))
   refine Z2 (Vc _ _ _ _ ({ S with tables:=S.tables++ [((PM.got ⟨M,Rf⟩:Nat):Int)] } :y5) hS _ _ pg (by omega)) J Y Y (zJ (z7 (uc rfl (fun _=>zG rfl rfl rfl (gm (kL (zF.qe _ _ _)))) ?_)))
   refine z8 ⟨(yN J Y J J J (uR rfl (fun _=>zG rfl rfl rfl (gm (kL (zF.qe _ _ _)))) rfl rfl (z6 _ rfl) z9)),?_⟩
   refine Z0 (ur _ pg 2 (by omega) (by decide)) J (zJ (z7 (uc rfl (fun _=>zG rfl rfl rfl (gJ (Jz (zF.qe _ _ _) (wC _ _)))) ?_)))
   refine z8 ⟨(yN J Y J J J (uR rfl (fun _=>zG rfl rfl rfl (gm (kL (zF.qe _ _ _)))) rfl rfl (z6 _ rfl) (uR rfl (fun _=>zG rfl rfl rfl (gJ (Jz (zF.qe _ _ _) (wC _ _)))) rfl rfl (z6 _ rfl) z9))),?_⟩
   refine Z1 (Ys _ _ _ _ (Jz (zF.qe _ _ _) (wC _ _)).2 x hx) J Y (zJ (z7 (z8 ⟨z9,?_⟩)))
   refine OX 5 J (zI J J J ?_)
   have em:jE ⟨M,Rf⟩ S pg=true:=by { unfold jE;rw [decide_eq_true ke,decide_eq_true (show((zF.kM M S.kernel [(pg:Int)]:Nat):Int)≤(M.left:Nat)by omega)];rfl }
   have e1:kO (⟨M,Rf⟩:PM) S pg=(((((⟨M,Rf⟩:PM).take 1 S.owner).link S.kernel (yJ pg 0) (⟨M,Rf⟩:PM).got).link S.user (yJ pg 0) (⟨M,Rf⟩:PM).got),(S.grown (⟨M,Rf⟩:PM).got)):=if_pos kf
   have e2:rR ((((⟨M,Rf⟩:PM).take 1 S.owner).link S.kernel (yJ pg 0) (⟨M,Rf⟩:PM).got).link S.user (yJ pg 0) (⟨M,Rf⟩:PM).got) (S.grown (⟨M,Rf⟩:PM).got) pg=(((((⟨M,Rf⟩:PM).take 1 S.owner).link S.kernel (yJ pg 0) (⟨M,Rf⟩:PM).got).link S.user (yJ pg 0) (⟨M,Rf⟩:PM).got),(S.grown (⟨M,Rf⟩:PM).got)):=if_neg dm
   have e3:PM.yZ (⟨M,Rf⟩:PM) S pg x=(((((⟨M,Rf⟩:PM).take 1 S.owner).link S.kernel (yJ pg 0) (⟨M,Rf⟩:PM).got).link S.user (yJ pg 0) (⟨M,Rf⟩:PM).got).write (8*((((⟨M,Rf⟩:PM).take 1 S.owner).link S.kernel (yJ pg 0) (⟨M,Rf⟩:PM).got).link S.user (yJ pg 0) (⟨M,Rf⟩:PM).got).M.last S.kernel pg+(yJ pg 2:Nat)) x,(S.grown (⟨M,Rf⟩:PM).got)):=by { unfold PM.yZ;rw [if_pos em];unfold sy;rw [Int.toNat_natCast,e1];simp only [e2] }
   rw [em,e3]
   refine⟨_,⟨rfl,rfl⟩,?_⟩
   exact Sub.qi (qq (S:=(S.grown (⟨M,Rf⟩:PM).got)) hS) Y
  refine Z 9 J (fa J Y (ld J Y J (Z 1 J (Z2 (ZF _ _ _ _ S _ _ _ _ (kb hk) (by omega)) J Y Y (Z 7 J (Z2 (ZF _ _ _ _ S _ _ _ _ (zF.Q6 _ _ _) (by omega)) J Y Y (Z 1 J (z5 (fun dm=> ?_) (fun dm=> ?_)))))))))
  ·refine Z 7 J (jG (qf m _) fun VJ=> ?_)
   refine Yk (Ve _ _ _ _ S _ _ _ (by omega)) rfl (fun _=>rfl) ?_
   rintro _ _ ⟨z36,rfl,rfl⟩
   refine Z2 (xB _ _ _ _ { S with tables:=_ } _ _ _ _ _ (xk VJ) (zF.Q6 _ _ _) (by omega)) J Y Y (Z 2 J (zW [0,1,3,7,0,0,48,112,0,368,1008,0,4095] [([0,1,2,3,4,5,8,11],[3],some 6),([7],[3,7],some 9),([10],[3,7,10],some 12),([],[],none)] (by kernel_rfl) ?_))
   refine z7 (ZK 2 J (zx J Y (q9 J Y J (ZK 4 J (z8 ⟨(yN J Y J J J z9),?_⟩)))))
   refine Z2 (Vc _ _ _ _ { S with tables:=_ } hS _ _ pg (by omega)) J Y Y (zJ (z7 (uc rfl (fun _=>zG rfl rfl rfl (gm (kL (zF.qe _ _ _)))) ?_)))
   refine z8 ⟨(yN J Y J J J (uR rfl (fun _=>zG rfl rfl rfl (gm (kL (zF.qe _ _ _)))) rfl rfl (z6 _ rfl) z9)),?_⟩
   refine Z0 (ur _ pg 2 (by omega) (by decide)) J (zJ (z7 (uc rfl (fun _=>zG rfl rfl rfl (gJ (Jz (zF.qe _ _ _) (wC _ _)))) ?_)))
   refine z8 ⟨(yN J Y J J J (uR rfl (fun _=>zG rfl rfl rfl (gm (kL (zF.qe _ _ _)))) rfl rfl (z6 _ rfl) (uR rfl (fun _=>zG rfl rfl rfl (gJ (Jz (zF.qe _ _ _) (wC _ _)))) rfl rfl (z6 _ rfl) z9))),?_⟩
   refine Z1 (Ys _ _ _ _ (Jz (zF.qe _ _ _) (wC _ _)).2 x hx) J Y (zJ (z7 (z8 ⟨z9,?_⟩)))
   refine OX 5 J (zI J J J ?_)
   have em:jE ⟨M,Rf⟩ S pg=true:=by { unfold jE;rw [decide_eq_true ke,decide_eq_true (show((zF.kM M S.kernel [(pg:Int)]:Nat):Int)≤(M.left:Nat)by omega)];rfl }
   have e1:kO (⟨M,Rf⟩:PM) S pg=((⟨M,Rf⟩:PM),S):=if_neg kf
   have e2:rR (⟨M,Rf⟩:PM) S pg=((((⟨M,Rf⟩:PM).take 1 S.owner).link ((⟨M,Rf⟩:PM).M.below S.kernel (yJ pg 0)) (yJ pg 1) (⟨M,Rf⟩:PM).got),(S.grown (⟨M,Rf⟩:PM).got)):=if_pos dm
   have e3:PM.yZ (⟨M,Rf⟩:PM) S pg x=((((⟨M,Rf⟩:PM).take 1 S.owner).link ((⟨M,Rf⟩:PM).M.below S.kernel (yJ pg 0)) (yJ pg 1) (⟨M,Rf⟩:PM).got).write (8*(((⟨M,Rf⟩:PM).take 1 S.owner).link ((⟨M,Rf⟩:PM).M.below S.kernel (yJ pg 0)) (yJ pg 1) (⟨M,Rf⟩:PM).got).M.last S.kernel pg+(yJ pg 2:Nat)) x,(S.grown (⟨M,Rf⟩:PM).got)):=by { unfold PM.yZ;rw [if_pos em];unfold sy;rw [Int.toNat_natCast,e1];simp only [e2] }
   rw [em,e3]
   refine⟨_,⟨rfl,rfl⟩,?_⟩
   exact Sub.qi (qq (S:=(S.grown (⟨M,Rf⟩:PM).got)) hS) Y
  refine Z 4 J (zW [0,1,3,7,0,0,48,112,0,368,1008,0,4095] [([0,1,2,3,4,5,8,11],[3],some 6),([7],[3,7],some 9),([10],[3,7,10],some 12),([],[],none)] (by kernel_rfl) ?_)
  refine z7 (ZK 2 J (zx J Y (q9 J Y J (ZK 4 J (z8 ⟨(yN J Y J J J z9),?_⟩)))))
  refine Z2 (Vc _ _ _ _ S hS _ _ pg (by omega)) J Y Y (zJ (z7 (uc rfl (fun _=>zG rfl rfl rfl (gm (kL (zF.qe _ _ _)))) ?_)))
  refine z8 ⟨(yN J Y J J J (uR rfl (fun _=>zG rfl rfl rfl (gm (kL (zF.qe _ _ _)))) rfl rfl (z6 _ rfl) z9)),?_⟩
  refine Z0 (ur _ pg 2 (by omega) (by decide)) J (zJ (z7 (uc rfl (fun _=>zG rfl rfl rfl (gJ (Jz (zF.qe _ _ _) (wC _ _)))) ?_)))
  refine z8 ⟨(yN J Y J J J (uR rfl (fun _=>zG rfl rfl rfl (gm (kL (zF.qe _ _ _)))) rfl rfl (z6 _ rfl) (uR rfl (fun _=>zG rfl rfl rfl (gJ (Jz (zF.qe _ _ _) (wC _ _)))) rfl rfl (z6 _ rfl) z9))),?_⟩
  refine Z1 (Ys _ _ _ _ (Jz (zF.qe _ _ _) (wC _ _)).2 x hx) J Y (zJ (z7 (z8 ⟨z9,?_⟩)))
  refine OX 5 J (zI J J J ?_)
  have em:jE ⟨M,Rf⟩ S pg=true:=by { unfold jE;rw [decide_eq_true ke,decide_eq_true (show((zF.kM M S.kernel [(pg:Int)]:Nat):Int)≤(M.left:Nat)by omega)];rfl }
  have e1:kO (⟨M,Rf⟩:PM) S pg=((⟨M,Rf⟩:PM),S):=if_neg kf
  have e2:rR (⟨M,Rf⟩:PM) S pg=((⟨M,Rf⟩:PM),S):=if_neg dm
  have e3:PM.yZ (⟨M,Rf⟩:PM) S pg x=((⟨M,Rf⟩:PM).write (8*(⟨M,Rf⟩:PM).M.last S.kernel pg+(yJ pg 2:Nat)) x,S):=by { unfold PM.yZ;rw [if_pos em];unfold sy;rw [Int.toNat_natCast,e1];simp only [e2] }
  rw [em,e3]
  refine⟨_,⟨rfl,rfl⟩,?_⟩
  exact Sub.qi (qq (S:=S) hS) Y
 refine zJ (z7 (ZK 9 J (z8 ⟨(yG rfl z9),?_⟩)))
 refine ZT rfl (zJ (z7 (z8 ⟨(yG rfl z9),?_⟩)))
 refine ZT rfl (zJ (z7 (ZK 2 J (z8 ⟨(yG rfl z9),?_⟩))))
 refine OX 6 J (zI J J J ?_)
 have e:jE ⟨M,Rf⟩ S z4=false:=by { unfold jE;rw [decide_eq_false ke];rfl }
 have e2:PM.yZ ⟨M,Rf⟩ S z4 x=(⟨M,Rf⟩,S):=if_neg (by rw [e];nofun)
 rw [e,e2]
 exact⟨_,⟨rfl,rfl⟩,Sub.qi (qq hS) Y⟩
abbrev Yf (fr zE:Int) (zM inv:Bool):List z0:= [vi fr,vi zE,.bool zM,.bool inv]
def Yg (M:zF) (g:Nat) (rs:List Int):zF:=rs.foldl (fun M r=>M.write (8*r+(7:Nat)) (wZ true true false g)) M
theorem pV {M:zF} {g c:Nat} {rs:List Int} {z:Int} (hz:rs[c]? =some z):Yg M g (rs.take (c+1))=(Yg M g (rs.take c)).write (8*z+(7:Nat)) (wZ true true false g):=qk _ _ _ _ _ hz
def PM.space (s:PM) (zM:Bool) (mp g:Nat) (owner:Int):Option (PM×y5):=
 if s.M.left<(if zM then 2 else 1)then none else
  if zM then
   let s1:=s.take 1 owner
   let s2:=s1.take 1 owner
   some (⟨Yg (s2.M.write (8*((s.got:Nat):Int)+(4:Nat)) (wZ true false false mp)) g [((s.got:Nat):Int),((s1.got:Nat):Int)],s2.R⟩,⟨owner,s.got,s1.got,[((s.got:Nat):Int),((s1.got:Nat):Int)]⟩)
  else
   let s1:=s.take 1 owner
   some (⟨Yg (s1.M.write (8*((s.got:Nat):Int)+(4:Nat)) (wZ true false false mp)) g [((s.got:Nat):Int),((s.got:Nat):Int)],s1.R⟩,⟨owner,s.got,s.got,[((s.got:Nat):Int)]⟩)
theorem KM (R:List SP) (m p:Nat) (M:zF) (Rf:List (Int×Int)) (fr zE:Int) (zM inv:Bool) (mp g:Nat) (PB:mp<1099511627776) (P9:g<1099511627776) (owner:Int):yH 107 [.agg (Yf fr zE zM inv),.agg [vi (mp:Nat),vi (g:Nat)],vp m 0,vp p 0,vi owner] (z3 zi p ⟨m,Rf⟩::z3 zY m M::R) fun v L=>match PM.space ⟨M,Rf⟩ zM mp g owner with
 |some (s,S)=> ∃a,v= .tuple [vp a 0,.bool true]∧L=z3 we a ⟨m,p,S⟩::z3 zi p ⟨m,s.R⟩::z3 zY m s.M::R
 |none=>v= .tuple [.ptr none,.bool false]∧L=z3 zi p ⟨m,Rf⟩::z3 zY m M::R:=by
 refine yl (qf m M) fun hM=> ?_
 have hn:=hM.2.1
 refine SW.intro rfl Tryz.func107 rfl ?_
 refine O0 2 J (yu rfl rfl rfl rfl fun i5=> ?_)
 refine yu rfl rfl rfl rfl fun i6=> ?_
 refine Z 10 J (fa J Y (ld J Y J (zV (fun Q9=> ?_) (fun Q9=> ?_))))
 ·subst Q9
  refine Z 9 J (Z2 (bG _ _ _ _ _) J Y Y (Z 2 J (z5 (fun Vy=> ?_) (fun Vy=> ?_))))
  ·refine Z 8 J (qt J J J J ?_)
   have e:PM.space ⟨M,Rf⟩ true mp g owner=none:=if_pos (by show M.left<2;omega)
   rw [e]
   exact fq
  refine Z 8 J (bu [_,_,_,_,_,_] J Y Y J (yu rfl rfl rfl rfl fun i26=> ?_))
  refine Z 6 J (zd (M:=z3 zC i26 (dS m p ⟨owner,0,0,[]⟩ (.slice none 0 (some 0) 0))::z3 (zX ye 1) (.slice none 0 (some 0) 0) ([]:List Int)::z3 zi p ⟨m,Rf⟩::z3 zY m M::z3 zC i6 [vi (mp:Nat),vi (g:Nat)]::z3 zC i5 (Yf fr zE true inv)::R) ((Sub.jF (α:=Int) (en:=ye) (es:=1) (fun _=>rfl) (by decide) 0 _).trans (show Sub _ (z3 zC i26 (z0.agg [vp m 0,vp p 0,vi owner,.int .i64 (.lit 0),.int .i64 (.lit 0),.slice none 0 (some 0) 0]).cells::z3 (zX ye 1) (.slice none 0 (some 0) 0) ([]:List Int)::z3 zi p ⟨m,Rf⟩::z3 zY m M::z3 zC i6 (z0.agg [vi (mp:Nat),vi (g:Nat)]).cells::z3 zC i5 (z0.agg (Yf fr zE true inv)).cells::R)from Y)) ?_)
  refine Yk (Ve _ _ _ _ ⟨owner,0,0,[]⟩ _ M Rf (by show 0≤1000000;omega)) rfl (fun _=>rfl) ?_
  rintro _ _ ⟨nI,rfl,rfl⟩
  refine qI (w:=vi ((PM.got ⟨M,Rf⟩:Nat):Int)) rfl ?_
  refine Nr (M:=z3 zC i26 (dS m p ⟨owner,0,0,[((PM.got ⟨M,Rf⟩:Nat):Int)]⟩ nI)::z3 (zX ye 1) nI [((PM.got ⟨M,Rf⟩:Nat):Int)]::z3 zi p ⟨m,(PM.take ⟨M,Rf⟩ 1 owner).R⟩::z3 zY m (PM.take ⟨M,Rf⟩ 1 owner).M::z3 zC i6 [vi (mp:Nat),vi (g:Nat)]::z3 zC i5 (Yf fr zE true inv)::R) rfl ?_
  refine Z 1 J (fa J Y (sO J Y J J J (Z 6 J (fa J Y (ld J Y J (Z 1 J (fa J Y (sO J Y J J J (Z 4 J (fa J Y (ld J Y J (Z 5 J (jG (qf m _) fun hMt=> ?_)))))))))))))
  refine Yk (Ve _ _ _ _ ⟨owner,PM.got ⟨M,Rf⟩,PM.got ⟨M,Rf⟩,[((PM.got ⟨M,Rf⟩:Nat):Int)]⟩ _ _ _ (by show 1≤1000000;omega)) rfl (fun _=>rfl) ?_
  rintro _ _ ⟨Ah,rfl,rfl⟩
  refine qI (w:=vi ((PM.got (PM.take ⟨M,Rf⟩ 1 owner):Nat):Int)) rfl ?_
  refine Nr (M:=z3 zC i26 (dS m p ⟨owner,PM.got ⟨M,Rf⟩,PM.got ⟨M,Rf⟩,[((PM.got ⟨M,Rf⟩:Nat):Int),((PM.got (PM.take ⟨M,Rf⟩ 1 owner):Nat):Int)]⟩ Ah)::z3 (zX ye 1) Ah [((PM.got ⟨M,Rf⟩:Nat):Int),((PM.got (PM.take ⟨M,Rf⟩ 1 owner):Nat):Int)]::z3 zi p ⟨m,(PM.take (PM.take ⟨M,Rf⟩ 1 owner) 1 owner).R⟩::z3 zY m (PM.take (PM.take ⟨M,Rf⟩ 1 owner) 1 owner).M::z3 zC i6 [vi (mp:Nat),vi (g:Nat)]::z3 zC i5 (Yf fr zE true inv)::R) rfl ?_
  refine Z 1 J (fa J Y (sO J Y J J J (Z 2 J (zW [0,0,2,6,14,0,32,96,255] [([0,1,2,3,4,5,6,7],[4,6],some 8),([],[],none)] (by kernel_rfl) ?_))))
  refine z7 (ZK 3 J (zx J Y (q9 J Y J (zx J Y (q9 J Y J (cz [_,_,_,_,_] J Y Y J (z8 ⟨(yN J Y J J J (yN J Y J J J z9)),?_⟩)))))))
  refine Z1 (Qw _ _ _ _ 4 _ _ _ _ mp PB (gk hM) (by omega)) J Y (zJ (z7 (z8 ⟨z9,?_⟩)))
  refine OX 2 J (zW [0,1,3,7,0,16,48,112,255,511,0] [([0,1,2,3,4,5,6,7,8,9,10],[3,7,9],none)] (by kernel_rfl) ?_)
  refine z7 (ZK 2 J (zx J Y (q9 J Y J (ZK 2 J (zx J Y (q9 J Y J (uy (cs:= [_,_]) rfl rfl rfl (by decide) rfl fun i63=> ?_)))))))
  refine Ll (Sub.one (K:=zC) (a:=i63) (x:= [vi ((PM.got ⟨M,Rf⟩:Nat):Int),vi ((PM.got (PM.take ⟨M,Rf⟩ 1 owner):Nat):Int)]) (K2:=zX ye 1) (a2:= .slice (some (i63,0)) 2 (some 2) 1) (x2:= [((PM.got ⟨M,Rf⟩:Nat):Int),((PM.got (PM.take ⟨M,Rf⟩ 1 owner):Nat):Int)]) fun f hf=>Qr (en:=ye) (es:=1) (xs:= [((PM.got ⟨M,Rf⟩:Nat):Int),((PM.got (PM.take ⟨M,Rf⟩ 1 owner):Nat):Int)]) (fun _=>rfl) (by decide) f hf) ?_
  refine jM rfl (fun _ h=>yI rfl rfl rfl rfl rfl h) ?_
  refine ZK 1 J (z8 ⟨(yN J Y J J J (yN J Y J J J (va rfl (fun _ h=>yI rfl rfl rfl rfl rfl h) rfl rfl (z6 _ rfl) z9))),?_⟩)
  refine OX 1 J (zy (fun j T L=> ∃(c:Nat),(c≤2)∧j=2-c∧T.len=5∧Tm.get 2 T=some (vp m 0)∧Tm.get 6 T=some (vp i6 0)∧Tm.get 13 T=some (vp i26 0)∧Tm.get 63 T=some (.slice (some (i63,0)) 2 (some 2) 1)∧Tm.get 64 T=some (vi (2:Nat))∧Tm.get 65 T=some (vi (c:Nat))∧Sub L (z3 zY m (Yg ((PM.take (PM.take ⟨M,Rf⟩ 1 owner) 1 owner).M.write (8*((PM.got ⟨M,Rf⟩:Nat):Int)+(4:Nat)) (wZ true false false mp)) g ([((PM.got ⟨M,Rf⟩:Nat):Int),((PM.got (PM.take ⟨M,Rf⟩ 1 owner):Nat):Int)].take c))::z3 (zX ye 1) (.slice (some (i63,0)) 2 (some 2) 1) [((PM.got ⟨M,Rf⟩:Nat):Int),((PM.got (PM.take ⟨M,Rf⟩ 1 owner):Nat):Int)]::z3 zC i6 [vi (mp:Nat),vi (g:Nat)]::z3 zC i26 (dS m p ⟨owner,PM.got ⟨M,Rf⟩,(PM.got (PM.take ⟨M,Rf⟩ 1 owner):Nat),[((PM.got ⟨M,Rf⟩:Nat):Int),((PM.got (PM.take ⟨M,Rf⟩ 1 owner):Nat):Int)]⟩ Ah)::z3 (zX ye 1) Ah [((PM.got ⟨M,Rf⟩:Nat):Int),((PM.got (PM.take ⟨M,Rf⟩ 1 owner):Nat):Int)]::z3 zi p ⟨m,(PM.take (PM.take ⟨M,Rf⟩ 1 owner) 1 owner).R⟩::R)) (2) ⟨0,by omega,by omega,rfl,rfl,rfl,rfl,rfl,rfl,rfl,(show Sub _ (z3 zY m ((PM.take (PM.take ⟨M,Rf⟩ 1 owner) 1 owner).M.write (8*((PM.got ⟨M,Rf⟩:Nat):Int)+(4:Nat)) (wZ true false false mp))::z3 (zX ye 1) (.slice (some (i63,0)) 2 (some 2) 1) [((PM.got ⟨M,Rf⟩:Nat):Int),((PM.got (PM.take ⟨M,Rf⟩ 1 owner):Nat):Int)]::z3 zC i6 [vi (mp:Nat),vi (g:Nat)]::z3 zC i26 [vp m 0,vp p 0,vi owner,vi ((PM.got ⟨M,Rf⟩:Nat):Int),vi ((PM.got (PM.take ⟨M,Rf⟩ 1 owner):Nat):Int),Ah]::z3 (zX ye 1) Ah [((PM.got ⟨M,Rf⟩:Nat):Int),((PM.got (PM.take ⟨M,Rf⟩ 1 owner):Nat):Int)]::z3 zi p ⟨m,(PM.take (PM.take ⟨M,Rf⟩ 1 owner) 1 owner).R⟩::R)from Y)⟩ ?_)
  rintro j T L0 ⟨c,hc,rfl,hl,g2,g6,mv,LH,LI,af,yU⟩
  obtain⟨tg,rfl⟩:=I4 hl g2 g6 mv LH LI af
  clear hl g2 g6 mv LH LI af
  refine yE yU ?_
  clear yU L0
  refine O0 3 J (z5 (fun Gs=> ?_) (fun Gs=> ?_))
  ·refine Z 8 J ?_
   obtain⟨z,hz⟩: ∃z,([((PM.got ⟨M,Rf⟩:Nat):Int),((PM.got (PM.take ⟨M,Rf⟩ 1 owner):Nat):Int)]:List Int)[c]? =some z:=⟨([((PM.got ⟨M,Rf⟩:Nat):Int),((PM.got (PM.take ⟨M,Rf⟩ 1 owner):Nat):Int)]:List Int)[c]'(by show c<2;omega),List.getElem?_eq_getElem (by show c<2;omega)⟩
   have hzb: -1≤z∧z<1099511627776:=by { rcases(by omega:c=0∨c=1)with rfl|rfl;cases hz;exact gk hM;cases hz;exact gk hMt }
   refine qJ rfl (fun _ h=>yg rfl rfl rfl (by omega) (by show(c:Int)<(2:Nat);omega) h) ?_
   refine lE 0 J Y J hz J (Z 5 J (fa J Y (ld J Y J (bu [_,_,_,_,_] J Y Y J (Z1 (Qw _ _ _ z 7 _ _ _ _ g P9 hzb (by omega)) J Y (Z 2 J (ad J (Z 2 J ?_))))))))
   exact Or.inl ⟨rfl,_,by omega,c+1,by omega,rfl,rfl,rfl,rfl,rfl,rfl,rfl,rfl,(by rw [pV hz];exact Y)⟩
  refine Z 4 J (Or.inr ⟨nofun,?_⟩)
  refine OX 7 J (qt J J J J ?_)
  have lS:c=2:=by omega
  subst lS
  have e:PM.space ⟨M,Rf⟩ true mp g owner=some (⟨Yg ((PM.take (PM.take ⟨M,Rf⟩ 1 owner) 1 owner).M.write (8*((PM.got ⟨M,Rf⟩:Nat):Int)+(4:Nat)) (wZ true false false mp)) g [((PM.got ⟨M,Rf⟩:Nat):Int),((PM.got (PM.take ⟨M,Rf⟩ 1 owner):Nat):Int)],(PM.take (PM.take ⟨M,Rf⟩ 1 owner) 1 owner).R⟩,⟨owner,PM.got ⟨M,Rf⟩,(PM.got (PM.take ⟨M,Rf⟩ 1 owner):Nat),[((PM.got ⟨M,Rf⟩:Nat):Int),((PM.got (PM.take ⟨M,Rf⟩ 1 owner):Nat):Int)]⟩):=(if_neg (by show¬M.left<2;omega)).trans (if_pos rfl)
  rw [e]
  rw [show([((PM.got ⟨M,Rf⟩:Nat):Int),((PM.got (PM.take ⟨M,Rf⟩ 1 owner):Nat):Int)]:List Int).take 2= [((PM.got ⟨M,Rf⟩:Nat):Int),((PM.got (PM.take ⟨M,Rf⟩ 1 owner):Nat):Int)]from rfl]
  have HV:PM.got ⟨M,Rf⟩≤M.n:=PM.Wn _
  have dr:=PM.Wn (PM.take ⟨M,Rf⟩ 1 owner)
  rw [PM.V6]at dr
  have dr:PM.got (PM.take ⟨M,Rf⟩ 1 owner)≤M.n:=dr
  exact⟨_,⟨i26,rfl,rfl⟩,Sub.qi (qq (S:=⟨owner,PM.got ⟨M,Rf⟩,(PM.got (PM.take ⟨M,Rf⟩ 1 owner):Nat),[((PM.got ⟨M,Rf⟩:Nat):Int),((PM.got (PM.take ⟨M,Rf⟩ 1 owner):Nat):Int)]⟩) ⟨by show PM.got ⟨M,Rf⟩≤64;omega,by show(PM.got (PM.take ⟨M,Rf⟩ 1 owner):Nat)≤64;omega⟩) Y⟩
 subst Q9
 refine Z 7 J (Z2 (bG _ _ _ _ _) J Y Y (Z 2 J (z5 (fun Vy=> ?_) (fun Vy=> ?_))))
 ·refine Z 8 J (qt J J J J ?_)
  have e:PM.space ⟨M,Rf⟩ false mp g owner=none:=if_pos (by show M.left<1;omega)
  rw [e]
  exact fq
 refine Z 8 J (bu [_,_,_,_,_,_] J Y Y J (yu rfl rfl rfl rfl fun i26=> ?_))
 refine Z 6 J (zd (M:=z3 zC i26 (dS m p ⟨owner,0,0,[]⟩ (.slice none 0 (some 0) 0))::z3 (zX ye 1) (.slice none 0 (some 0) 0) ([]:List Int)::z3 zi p ⟨m,Rf⟩::z3 zY m M::z3 zC i6 [vi (mp:Nat),vi (g:Nat)]::z3 zC i5 (Yf fr zE false inv)::R) ((Sub.jF (α:=Int) (en:=ye) (es:=1) (fun _=>rfl) (by decide) 0 _).trans (show Sub _ (z3 zC i26 (z0.agg [vp m 0,vp p 0,vi owner,.int .i64 (.lit 0),.int .i64 (.lit 0),.slice none 0 (some 0) 0]).cells::z3 (zX ye 1) (.slice none 0 (some 0) 0) ([]:List Int)::z3 zi p ⟨m,Rf⟩::z3 zY m M::z3 zC i6 (z0.agg [vi (mp:Nat),vi (g:Nat)]).cells::z3 zC i5 (z0.agg (Yf fr zE false inv)).cells::R)from Y)) ?_)
 refine Yk (Ve _ _ _ _ ⟨owner,0,0,[]⟩ _ M Rf (by show 0≤1000000;omega)) rfl (fun _=>rfl) ?_
 rintro _ _ ⟨nI,rfl,rfl⟩
 refine qI (w:=vi ((PM.got ⟨M,Rf⟩:Nat):Int)) rfl ?_
 refine Nr (M:=z3 zC i26 (dS m p ⟨owner,0,0,[((PM.got ⟨M,Rf⟩:Nat):Int)]⟩ nI)::z3 (zX ye 1) nI [((PM.got ⟨M,Rf⟩:Nat):Int)]::z3 zi p ⟨m,(PM.take ⟨M,Rf⟩ 1 owner).R⟩::z3 zY m (PM.take ⟨M,Rf⟩ 1 owner).M::z3 zC i6 [vi (mp:Nat),vi (g:Nat)]::z3 zC i5 (Yf fr zE false inv)::R) rfl ?_
 refine Z 1 J (fa J Y (sO J Y J J J (Z 6 J (fa J Y (ld J Y J (Z 1 J (fa J Y (sO J Y J J J (Z 4 J (fa J Y (ld J Y J (Z 4 J (zW [0,0,2,6,14,0,32,96,255] [([0,1,2,3,4,5,6,7],[4,6],some 8),([],[],none)] (by kernel_rfl) ?_)))))))))))))
 refine z7 (ZK 3 J (zx J Y (q9 J Y J (zx J Y (q9 J Y J (cz [_,_,_,_,_] J Y Y J (z8 ⟨(yN J Y J J J (yN J Y J J J z9)),?_⟩)))))))
 refine Z1 (Qw _ _ _ _ 4 _ _ _ _ mp PB (gk hM) (by omega)) J Y (zJ (z7 (z8 ⟨z9,?_⟩)))
 refine OX 2 J (zW [0,1,3,7,0,16,48,112,255,511,0] [([0,1,2,3,4,5,6,7,8,9,10],[3,7,9],none)] (by kernel_rfl) ?_)
 refine z7 (ZK 2 J (zx J Y (q9 J Y J (ZK 2 J (zx J Y (q9 J Y J (uy (cs:= [_,_]) rfl rfl rfl (by decide) rfl fun i63=> ?_)))))))
 refine Ll (Sub.one (K:=zC) (a:=i63) (x:= [vi ((PM.got ⟨M,Rf⟩:Nat):Int),vi ((PM.got ⟨M,Rf⟩:Nat):Int)]) (K2:=zX ye 1) (a2:= .slice (some (i63,0)) 2 (some 2) 1) (x2:= [((PM.got ⟨M,Rf⟩:Nat):Int),((PM.got ⟨M,Rf⟩:Nat):Int)]) fun f hf=>Qr (en:=ye) (es:=1) (xs:= [((PM.got ⟨M,Rf⟩:Nat):Int),((PM.got ⟨M,Rf⟩:Nat):Int)]) (fun _=>rfl) (by decide) f hf) ?_
 refine jM rfl (fun _ h=>yI rfl rfl rfl rfl rfl h) ?_
 refine ZK 1 J (z8 ⟨(yN J Y J J J (yN J Y J J J (va rfl (fun _ h=>yI rfl rfl rfl rfl rfl h) rfl rfl (z6 _ rfl) z9))),?_⟩)
 refine OX 1 J (zy (fun j T L=> ∃(c:Nat),(c≤2)∧j=2-c∧T.len=5∧Tm.get 2 T=some (vp m 0)∧Tm.get 6 T=some (vp i6 0)∧Tm.get 13 T=some (vp i26 0)∧Tm.get 63 T=some (.slice (some (i63,0)) 2 (some 2) 1)∧Tm.get 64 T=some (vi (2:Nat))∧Tm.get 65 T=some (vi (c:Nat))∧Sub L (z3 zY m (Yg ((PM.take ⟨M,Rf⟩ 1 owner).M.write (8*((PM.got ⟨M,Rf⟩:Nat):Int)+(4:Nat)) (wZ true false false mp)) g ([((PM.got ⟨M,Rf⟩:Nat):Int),((PM.got ⟨M,Rf⟩:Nat):Int)].take c))::z3 (zX ye 1) (.slice (some (i63,0)) 2 (some 2) 1) [((PM.got ⟨M,Rf⟩:Nat):Int),((PM.got ⟨M,Rf⟩:Nat):Int)]::z3 zC i6 [vi (mp:Nat),vi (g:Nat)]::z3 zC i26 (dS m p ⟨owner,PM.got ⟨M,Rf⟩,(PM.got ⟨M,Rf⟩:Nat),[((PM.got ⟨M,Rf⟩:Nat):Int)]⟩ nI)::z3 (zX ye 1) nI [((PM.got ⟨M,Rf⟩:Nat):Int)]::z3 zi p ⟨m,(PM.take ⟨M,Rf⟩ 1 owner).R⟩::R)) (2) ⟨0,by omega,by omega,rfl,rfl,rfl,rfl,rfl,rfl,rfl,(show Sub _ (z3 zY m ((PM.take ⟨M,Rf⟩ 1 owner).M.write (8*((PM.got ⟨M,Rf⟩:Nat):Int)+(4:Nat)) (wZ true false false mp))::z3 (zX ye 1) (.slice (some (i63,0)) 2 (some 2) 1) [((PM.got ⟨M,Rf⟩:Nat):Int),((PM.got ⟨M,Rf⟩:Nat):Int)]::z3 zC i6 [vi (mp:Nat),vi (g:Nat)]::z3 zC i26 [vp m 0,vp p 0,vi owner,vi ((PM.got ⟨M,Rf⟩:Nat):Int),vi ((PM.got ⟨M,Rf⟩:Nat):Int),nI]::z3 (zX ye 1) nI [((PM.got ⟨M,Rf⟩:Nat):Int)]::z3 zi p ⟨m,(PM.take ⟨M,Rf⟩ 1 owner).R⟩::R)from Y)⟩ ?_)
 rintro j T L0 ⟨c,hc,rfl,hl,g2,g6,mv,LH,LI,af,yU⟩
 obtain⟨tg,rfl⟩:=I4 hl g2 g6 mv LH LI af
 clear hl g2 g6 mv LH LI af
 refine yE yU ?_
 clear yU L0
 refine O0 3 J (z5 (fun Gs=> ?_) (fun Gs=> ?_))
 ·refine Z 8 J ?_
  obtain⟨z,hz⟩: ∃z,([((PM.got ⟨M,Rf⟩:Nat):Int),((PM.got ⟨M,Rf⟩:Nat):Int)]:List Int)[c]? =some z:=⟨([((PM.got ⟨M,Rf⟩:Nat):Int),((PM.got ⟨M,Rf⟩:Nat):Int)]:List Int)[c]'(by show c<2;omega),List.getElem?_eq_getElem (by show c<2;omega)⟩
  have hzb: -1≤z∧z<1099511627776:=by { rcases(by omega:c=0∨c=1)with rfl|rfl;cases hz;exact gk hM;cases hz;exact gk hM }
  refine qJ rfl (fun _ h=>yg rfl rfl rfl (by omega) (by show(c:Int)<(2:Nat);omega) h) ?_
  refine lE 0 J Y J hz J (Z 5 J (fa J Y (ld J Y J (bu [_,_,_,_,_] J Y Y J (Z1 (Qw _ _ _ z 7 _ _ _ _ g P9 hzb (by omega)) J Y (Z 2 J (ad J (Z 2 J ?_))))))))
  exact Or.inl ⟨rfl,_,by omega,c+1,by omega,rfl,rfl,rfl,rfl,rfl,rfl,rfl,rfl,(by rw [pV hz];exact Y)⟩
 refine Z 4 J (Or.inr ⟨nofun,?_⟩)
 refine OX 7 J (qt J J J J ?_)
 have lS:c=2:=by omega
 subst lS
 have e:PM.space ⟨M,Rf⟩ false mp g owner=some (⟨Yg ((PM.take ⟨M,Rf⟩ 1 owner).M.write (8*((PM.got ⟨M,Rf⟩:Nat):Int)+(4:Nat)) (wZ true false false mp)) g [((PM.got ⟨M,Rf⟩:Nat):Int),((PM.got ⟨M,Rf⟩:Nat):Int)],(PM.take ⟨M,Rf⟩ 1 owner).R⟩,⟨owner,PM.got ⟨M,Rf⟩,(PM.got ⟨M,Rf⟩:Nat),[((PM.got ⟨M,Rf⟩:Nat):Int)]⟩):=(if_neg (by show¬M.left<1;omega)).trans (if_neg nofun)
 rw [e]
 rw [show([((PM.got ⟨M,Rf⟩:Nat):Int),((PM.got ⟨M,Rf⟩:Nat):Int)]:List Int).take 2= [((PM.got ⟨M,Rf⟩:Nat):Int),((PM.got ⟨M,Rf⟩:Nat):Int)]from rfl]
 have HV:PM.got ⟨M,Rf⟩≤M.n:=PM.Wn _
 exact⟨_,⟨i26,rfl,rfl⟩,Sub.qi (qq (S:=⟨owner,PM.got ⟨M,Rf⟩,(PM.got ⟨M,Rf⟩:Nat),[((PM.got ⟨M,Rf⟩:Nat):Int)]⟩) ⟨by show PM.got ⟨M,Rf⟩≤64;omega,by show(PM.got ⟨M,Rf⟩:Nat)≤64;omega⟩) Y⟩
def qh (M:zF) (c:Int) (f:Nat):Nat→zF
 |0=>M
 |k+1=>(qh M c f k).mark ((f+k:Nat):Int) c (-1)
def Yx (M:zF) (kp:Bool) (j:Nat):Nat→zF
 |0=>M
 |k+1=>if 8*j+k<(Yx M kp j k).n then(Yx M kp j k).write (8*(4+(j:Int))+(k:Nat)) (wZ true false (!kp) (8*j+k))else Yx M kp j k
def Y6 (M:zF) (kp:Bool):Nat→zF
 |0=>M
 |q+1=>Yx ((Y6 M kp q).write (8*3+(q:Nat)) (wZ true false false (4+q))) kp q 8
def pI (M:zF) (kp:Bool):zF:=((Y6 ((qh (qh (M.mark 0 5 (-1)) 4 1 2) 1 3 12).mark 12 3 (-1)) kp 8).write (8*13+(0:Nat)) (wZ true true false 14)).write (8*14+(0:Nat)) (wZ false true true 12)
def j7 (M:zF) (fr zE:Int):Bool:=decide (24≤fr∧fr≤64∧fr=M.n∧1≤zE∧zE≤2)
theorem K9 (R:List SP) (m:Nat) (M:zF) (fr zE:Int) (zM inv:Bool):yH 98 [.agg (Yf fr zE zM inv),vp m 0] (z3 zY m M::R) fun v L=>v= .tuple [.agg [vi (if j7 M fr zE then 3 else 0),vi (if j7 M fr zE then 13 else 0)],.bool (j7 M fr zE)]∧L=z3 zY m (if j7 M fr zE then pI M zM else M)::R:=by
 refine SW.intro rfl Tryz.func98 rfl ?_
 refine O0 2 J (yu rfl rfl rfl rfl fun i2=> ?_)
 refine zn rfl rfl rfl fun i4=> ?_
 refine Z 4 J (zW [0,1,3,7,15,31,63,127,255,511,1023,511,2559,8191,16383,32767,65535,131071,262143,524287,1048575,2097151,4194303,8388607,16777215] [([0,1,2,3,4,5,6,7,8,9,10,11],[1,2,5,6,10],some 12),([13,14,15,16,17,18,19,20,21,22,23,24],[10,13,17,18,22,23],none)] (by kernel_rfl) ?_)
 refine z7 (zx J Y (q9 J Y J (ZK 1 J (ql (fun ai=> ?_) (fun ai=> ?_)))))
 ·refine ZK 9 J (z8 ⟨(yN J Y J J J (gv J J J (by rw [decide_eq_true ai];rfl) (yG rfl (yG rfl (yG rfl z9))))),?_⟩)
  refine ZT rfl (zJ (z7 (ZK 12 J (z8 ⟨(yG rfl (yG rfl (yG rfl (yG rfl (yG rfl (yG rfl z9)))))),?_⟩))))
  refine OX 3 J (bu [_,_] J Y Y J (sN J Y Y J J J (Z 3 J (⟨.inr rfl,_,fun _ h=>(zu (yQ rfl (yo rfl (Nat.le_of_ble_eq_true rfl) h)) (zu (zm rfl) qY)),?_⟩))))
  have e:j7 M fr zE=false:=decide_eq_false (by omega)
  rw [e]
  simp only [Bool.false_eq_true,if_false]
  exact fq
 refine ZK 1 J (zx J Y (q9 J Y J (ZK 1 J (ql (fun Q9=> ?_) (fun Q9=> ?_)))))
 ·refine ZK 5 J (z8 ⟨(yN J Y J J J (gv J J J (by rw [decide_eq_false ai];rfl) (yN J Y J J J (gv J J J (by rw [decide_eq_true Q9];rfl) (yG rfl z9))))),?_⟩)
  refine ZT rfl (zJ (z7 (ZK 12 J (z8 ⟨(yG rfl (yG rfl (yG rfl (yG rfl (yG rfl (yG rfl z9)))))),?_⟩))))
  refine OX 3 J (bu [_,_] J Y Y J (sN J Y Y J J J (Z 3 J (⟨.inr rfl,_,fun _ h=>(zu (yQ rfl (yo rfl (Nat.le_of_ble_eq_true rfl) h)) (zu (zm rfl) qY)),?_⟩))))
  have e:j7 M fr zE=false:=decide_eq_false (by omega)
  rw [e]
  simp only [Bool.false_eq_true,if_false]
  exact fq
 refine ZK 2 J (zx J Y (q9 J Y J (ZK 1 J (z8 ⟨(yN J Y J J J (gv J J J (by rw [decide_eq_false ai];rfl) (yN J Y J J J (gv J J J (by rw [decide_eq_false Q9];rfl) (yN J Y J J J z9))))),?_⟩))))
 refine Z1 (gL _ _ _) J Y (zJ (z7 (ZK 1 J (ql (fun kB=> ?_) (fun kB=> ?_)))))
 ·refine ZK 11 J (z8 ⟨(yN J Y J J J (gv J J J (by rw [decide_eq_true kB];rfl) (yG rfl (yG rfl (yG rfl (yG rfl z9)))))),?_⟩)
  refine OX 3 J (bu [_,_] J Y Y J (sN J Y Y J J J (Z 3 J (⟨.inr rfl,_,fun _ h=>(zu (yQ rfl (yo rfl (Nat.le_of_ble_eq_true rfl) h)) (zu (zm rfl) qY)),?_⟩))))
  have e:j7 M fr zE=false:=decide_eq_false (by omega)
  rw [e]
  simp only [Bool.false_eq_true,if_false]
  exact fq
 refine ZK 2 J (zx J Y (q9 J Y J (ZK 1 J (ql (fun Vj=> ?_) (fun Vj=> ?_)))))
 ·refine ZK 6 J (z8 ⟨(yN J Y J J J (gv J J J (by rw [decide_eq_false kB];rfl) (yN J Y J J J (gv J J J (by rw [decide_eq_true Vj];rfl) (yG rfl (yG rfl z9)))))),?_⟩)
  refine OX 3 J (bu [_,_] J Y Y J (sN J Y Y J J J (Z 3 J (⟨.inr rfl,_,fun _ h=>(zu (yQ rfl (yo rfl (Nat.le_of_ble_eq_true rfl) h)) (zu (zm rfl) qY)),?_⟩))))
  have e:j7 M fr zE=false:=decide_eq_false (by omega)
  rw [e]
  simp only [Bool.false_eq_true,if_false]
  exact fq
 refine ZK 2 J (zx J Y (q9 J Y J (ZK 1 J (ql (fun h34=> ?_) (fun h34=> ?_)))))
 ·refine ZK 1 J (z8 ⟨(yN J Y J J J (gv J J J (by rw [decide_eq_false kB];rfl) (yN J Y J J J (gv J J J (by rw [decide_eq_false Vj];rfl) (yN J Y J J J (gv J J J (by rw [decide_eq_true h34];rfl) z9)))))),?_⟩)
  refine OX 3 J (bu [_,_] J Y Y J (sN J Y Y J J J (Z 3 J (⟨.inr rfl,_,fun _ h=>(zu (yQ rfl (yo rfl (Nat.le_of_ble_eq_true rfl) h)) (zu (zm rfl) qY)),?_⟩))))
  have e:j7 M fr zE=false:=decide_eq_false (by omega)
  rw [e]
  simp only [Bool.false_eq_true,if_false]
  exact fq
 refine ZK 1 J (z8 ⟨(yN J Y J J J (gv J J J (by rw [decide_eq_false kB];rfl) (yN J Y J J J (gv J J J (by rw [decide_eq_false Vj];rfl) (yN J Y J J J (gv J J J (by rw [decide_eq_false h34];rfl) z9)))))),?_⟩)
 refine OX 5 J (Z1 (UO _ _ M 0 5 (-1)) J Y (Z 7 J (zy (fun j T L=> ∃(k:Nat),(k≤2)∧j=2-k∧T.len=6∧Tm.get 1 T=some (vp m 0)∧Tm.get 2 T=some (vp i2 0)∧Tm.get 4 T=some (vp i4 0)∧Tm.get 39 T=some (vi (k:Nat))∧Sub L (z3 zY m (qh (M.mark 0 5 (-1)) 4 1 k)::z3 zC i4 [vi 0,vi 0]::z3 zC i2 (Yf fr zE zM inv)::R)) (2) ⟨0,by omega,by omega,rfl,rfl,rfl,rfl,rfl,(show Sub _ (z3 zY m (M.mark 0 5 (-1))::z3 zC i4 (z0.agg [.int .i64 (.lit 0),.int .i64 (.lit 0)]).cells::z3 zC i2 (z0.agg (Yf fr zE zM inv)).cells::R)from Y)⟩ ?_)))
 rintro j T L0 ⟨k,hk,rfl,hl,g1,g2,g4,g39,yU⟩
 obtain⟨tg,rfl⟩:=GY hl g1 g2 g4 g39
 clear hl g1 g2 g4 g39
 refine yE yU ?_
 clear yU L0
 refine O0 3 J (z5 (fun GW=> ?_) (fun GW=> ?_))
 ·refine Z 14 J (ad J (qI (w:=vi ((1+k:Nat):Int)) (by congr 2) ?_))
  refine Z1 (UO _ _ _ _ _ _) J Y (Z 2 J (ad J (Z 2 J ?_)))
  exact Or.inl ⟨rfl,_,by omega,k+1,by omega,rfl,rfl,rfl,rfl,rfl,rfl,(show Sub _ (z3 zY m ((qh (M.mark 0 5 (-1)) 4 1 k).mark ((1+k:Nat):Int) 4 (-1))::z3 zC i4 [vi 0,vi 0]::z3 zC i2 (Yf fr zE zM inv)::R)from Y)⟩
 refine Z 4 J (Or.inr ⟨nofun,?_⟩)
 refine OX 6 J ?_
 have e2:k=2:=by omega
 subst e2
 refine zy (fun j T L=> ∃(k:Nat),(k≤12)∧j=12-k∧T.len=6∧Tm.get 1 T=some (vp m 0)∧Tm.get 2 T=some (vp i2 0)∧Tm.get 4 T=some (vp i4 0)∧Tm.get 7 T=some (vi ((3+k:Nat):Int))∧Sub L (z3 zY m (qh (qh (M.mark 0 5 (-1)) 4 1 2) 1 3 k)::z3 zC i4 [vi 0,vi 0]::z3 zC i2 (Yf fr zE zM inv)::R)) (12) ⟨0,by omega,by omega,rfl,rfl,rfl,rfl,rfl,(show Sub _ (z3 zY m (qh (M.mark 0 5 (-1)) 4 1 2)::z3 zC i4 [vi 0,vi 0]::z3 zC i2 (Yf fr zE zM inv)::R)from Y)⟩ ?_
 rintro j T L0 ⟨k,hk,rfl,hl,g1,g2,g4,g7,yU⟩
 obtain⟨tg,rfl⟩:=GY hl g1 g2 g4 g7
 clear hl g1 g2 g4 g7
 refine yE yU ?_
 clear yU L0
 refine O0 5 J (z5 (fun Jb=> ?_) (fun Jb=> ?_))
 ·refine Z 8 J (Z1 (UO _ _ _ _ _ _) J Y (Z 3 J (ad J (Z 2 J ?_))))
  exact Or.inl ⟨rfl,_,by omega,k+1,by omega,rfl,rfl,rfl,rfl,rfl,rfl,(show Sub _ (z3 zY m ((qh (qh (M.mark 0 5 (-1)) 4 1 2) 1 3 k).mark ((3+k:Nat):Int) 1 (-1))::z3 zC i4 [vi 0,vi 0]::z3 zC i2 (Yf fr zE zM inv)::R)from Y)⟩
 refine Z 3 J (Or.inr ⟨nofun,?_⟩)
 refine OX 3 J (Z1 (UO _ _ _ _ _ _) J Y (Z 7 J ?_))
 have e2:k=12:=by omega
 subst e2
 refine zy (fun j T L=> ∃(q:Nat),(q≤8)∧j=8-q∧T.len=6∧Tm.get 1 T=some (vp m 0)∧Tm.get 2 T=some (vp i2 0)∧Tm.get 4 T=some (vp i4 0)∧Tm.get 56 T=some (vi (q:Nat))∧Sub L (z3 zY m (Y6 ((qh (qh (M.mark 0 5 (-1)) 4 1 2) 1 3 12).mark 12 3 (-1)) zM q)::z3 zC i4 [vi 0,vi 0]::z3 zC i2 (Yf fr zE zM inv)::R)) (8) ⟨0,by omega,by omega,rfl,rfl,rfl,rfl,rfl,(show Sub _ (z3 zY m ((qh (qh (M.mark 0 5 (-1)) 4 1 2) 1 3 12).mark 12 3 (-1))::z3 zC i4 [vi 0,vi 0]::z3 zC i2 (Yf fr zE zM inv)::R)from Y)⟩ ?_
 rintro j T L0 ⟨q,hj,rfl,hl,g1,g2,g4,RY,yU⟩
 obtain⟨tg,rfl⟩:=GY hl g1 g2 g4 RY
 clear hl g1 g2 g4 RY
 refine yE yU ?_
 clear yU L0
 refine O0 3 J (z5 (fun iR=> ?_) (fun iR=> ?_))
 ·refine Z 16 J (ad J (qI (w:=vi ((4+q:Nat):Int)) (by congr 2) ?_))
  refine bu [_,_,_,_,_] J Y Y J (Z1 (Qw _ _ _ 3 q _ _ _ _ (4+q) (by omega) (by omega) (by omega)) J Y (Z 6 J (zy (fun j T L=> ∃(k:Nat),(k≤8)∧j=8-k∧T.len=6∧Tm.get 1 T=some (vp m 0)∧Tm.get 2 T=some (vp i2 0)∧Tm.get 4 T=some (vp i4 0)∧Tm.get 8 T=some (vi (q:Nat))∧Tm.get 56 T=some (vi (q:Nat))∧Tm.get 65 T=some (vi (k:Nat))∧Sub L (z3 zY m (Yx ((Y6 ((qh (qh (M.mark 0 5 (-1)) 4 1 2) 1 3 12).mark 12 3 (-1)) zM q).write (8*3+(q:Nat)) (wZ true false false (4+q))) zM q k)::z3 zC i4 [vi 0,vi 0]::z3 zC i2 (Yf fr zE zM inv)::R)) (8) ⟨0,by omega,by omega,rfl,rfl,rfl,rfl,rfl,rfl,rfl,(show Sub _ (z3 zY m ((Y6 ((qh (qh (M.mark 0 5 (-1)) 4 1 2) 1 3 12).mark 12 3 (-1)) zM q).write (8*3+(q:Nat)) (wZ true false false (4+q)))::z3 zC i4 [vi 0,vi 0]::z3 zC i2 (Yf fr zE zM inv)::R)from Y)⟩ ?_)))
  rintro j T L0 ⟨k,hk,rfl,hl,g1,g2,g4,g8,RY,af,yU⟩
  obtain⟨tg,rfl⟩:=I4 hl g1 g2 g4 g8 RY af
  clear hl g1 g2 g4 g8 RY af
  refine yE yU ?_
  clear yU L0
  refine O0 3 J (z5 (fun Gs=> ?_) (fun Gs=> ?_))
  ·refine Z 14 J (ml J (Z 1 J (ad J (qI (w:=vi ((8*q+k:Nat):Int)) (by congr 2) ?_))))
   refine Z 6 J (Z1 (gL _ _ _) J Y (Z 1 J (z5 (fun CV=> ?_) (fun CV=> ?_))))
   ·refine Z 5 J (ad J (Z 1 J (fa J Y (ld J Y J (Z 2 J (bu [_,_,_,_,_] J Y Y J (Z1 (Qw _ _ _ (4+(q:Int)) k _ _ _ _ (8*q+k) (by omega) (by omega) (by omega)) J Y (Z 2 J (ad J (Z 2 J ?_))))))))))
    have e1:Yx ((Y6 ((qh (qh (M.mark 0 5 (-1)) 4 1 2) 1 3 12).mark 12 3 (-1)) zM q).write (8*3+(q:Nat)) (wZ true false false (4+q))) zM q (k+1)=(Yx ((Y6 ((qh (qh (M.mark 0 5 (-1)) 4 1 2) 1 3 12).mark 12 3 (-1)) zM q).write (8*3+(q:Nat)) (wZ true false false (4+q))) zM q k).write (8*(4+(q:Int))+(k:Nat)) (wZ true false (!zM) (8*q+k)):=if_pos (by omega)
    exact Or.inl ⟨rfl,_,by omega,k+1,by omega,rfl,rfl,rfl,rfl,rfl,rfl,rfl,rfl,(by rw [e1];exact Y)⟩
   refine Z 4 J (ad J (Z 2 J ?_))
   have e1:Yx ((Y6 ((qh (qh (M.mark 0 5 (-1)) 4 1 2) 1 3 12).mark 12 3 (-1)) zM q).write (8*3+(q:Nat)) (wZ true false false (4+q))) zM q (k+1)=Yx ((Y6 ((qh (qh (M.mark 0 5 (-1)) 4 1 2) 1 3 12).mark 12 3 (-1)) zM q).write (8*3+(q:Nat)) (wZ true false false (4+q))) zM q k:=if_neg (by omega)
   exact Or.inl ⟨rfl,_,by omega,k+1,by omega,rfl,rfl,rfl,rfl,rfl,rfl,rfl,rfl,(by rw [e1];exact Y)⟩
  refine Z 4 J (Or.inr ⟨nofun,?_⟩)
  refine OX 1 J (ad J (Z 2 J ?_))
  have e2:k=8:=by omega
  subst e2
  exact Or.inl ⟨rfl,_,by omega,q+1,by omega,rfl,rfl,rfl,rfl,rfl,rfl,(show Sub _ (z3 zY m (Yx ((Y6 ((qh (qh (M.mark 0 5 (-1)) 4 1 2) 1 3 12).mark 12 3 (-1)) zM q).write (8*3+(q:Nat)) (wZ true false false (4+q))) zM q 8)::z3 zC i4 [vi 0,vi 0]::z3 zC i2 (Yf fr zE zM inv)::R)from Y)⟩
 refine Z 4 J (Or.inr ⟨nofun,?_⟩)
 refine OX 3 J (bu [_,_,_,_,_] J Y Y J (Z1 (Qw _ _ _ 13 0 _ _ _ _ 14 (by omega) (by omega) (by omega)) J Y (Z 4 J (bu [_,_,_,_,_] J Y Y J (Z1 (Qw _ _ _ 14 0 _ _ _ _ 12 (by omega) (by omega) (by omega)) J Y (Z 3 J (bu [_,_] J Y Y J (sN J Y Y J J J (Z 3 J (⟨.inr rfl,_,fun _ h=>(zu (yQ rfl (yo rfl (Nat.le_of_ble_eq_true rfl) h)) (zu (zm rfl) qY)),?_⟩))))))))))
 have e2:q=8:=by omega
 subst e2
 have e:j7 M fr zE=true:=decide_eq_true (by omega)
 rw [e]
 simp only [if_true]
 exact⟨_,⟨rfl,rfl⟩,(show Sub _ (z3 zY m (pI M zM)::R)from(show Sub _ (z3 zY m (((Y6 ((qh (qh (M.mark 0 5 (-1)) 4 1 2) 1 3 12).mark 12 3 (-1)) zM 8).write (8*13+(0:Nat)) (wZ true true false 14)).write (8*14+(0:Nat)) (wZ false true true 12))::R)from Y))⟩
abbrev C7 (x:Nat):List z0:= [vu x]
def ZU (ws:List Nat):Bool:=ws.all fun x=>decide (x≤4611686018427387904)
def re (ws:List Nat):List Int:=if ZU ws then ws.map fun x:Nat=>(x:Int)else List.replicate ws.length 0
def zT (f n:Int):List Int:=(List.range n.toNat).map fun i:Nat=>f+i
theorem AI {ws:List Nat} {q x:Nat} (hx:ws[q]? =some x) (h:4611686018427387904<x):ZU ws=false:=by
 unfold ZU
 rw [List.all_eq_false]
 exact⟨x,List.mem_iff_getElem?.2 ⟨q,hx⟩,by simp;omega⟩
theorem AH {ws:List Nat} (h: ∀(k x:Nat),ws[k]? =some x→x≤4611686018427387904):ZU ws=true:=by
 unfold ZU
 rw [List.all_eq_true]
 intro x hx
 obtain⟨k,hk⟩:=List.mem_iff_getElem?.1 hx
 simpa using h k x hk
theorem om (v:z0) (n:Nat): ∀o,zj (fun _=>v) o n=List.replicate n v:=by
 intro o
 apply List.ext_getElem?
 intro j
 by_cases hj:j<n
 ·rw [y7 _ _ _ _ hj,List.getElem?_replicate,if_pos hj]
 rw [List.getElem?_eq_none (by rw [y8];omega),List.getElem?_replicate,if_neg hj]
theorem Du (n:Nat):(List.replicate n (0:Int)).flatMap ye=List.replicate n (vi 0):=by
 induction n with
 |zero=>rfl
 |succ n ih=>rw [List.replicate_succ,List.flatMap_cons,ih,List.replicate_succ];rfl
theorem E1 {i n:Nat} : ∀h,zO i (n*1,fun _=>vi 0) h→zX ye 1 (.slice (some (i,0)) n (some n) 1) (List.replicate n 0) h:=
 Uv (en:=ye) (es:=1) (fun _=>rfl) (by decide) (by simp) ⟨by omega,fun k hk=>by cases hk;exact⟨by omega,Nat.le_refl _⟩⟩ (by rw [om,Du,Nat.mul_one])
theorem Ab {α β:Type} (f:α→β) {ws:List α} {q:Nat} {x:α} (hx:ws[q]? =some x):(ws.take q).map f++ [f x]=(ws.take (q+1)).map f:=by rw [List.take_add_one,hx];simp
theorem sg {β:Type} (f:Nat→β) (q:Nat):(List.range q).map f++ [f q]=(List.range (q+1)).map f:=by rw [List.range_succ];simp
theorem mB (R:List SP) (r:Int) (hr:r=0∨r=1∨r=3):yH 233 [vi r] (R) fun v L=>v= .bool (decide (r=3))∧L=R:=by
 refine SW.intro rfl Tryz.func233 rfl ?_
 refine O0 7 J ?_
 rcases hr with rfl|rfl|rfl
 ·refine zo rfl (fun _=>zG (v:=vi 0) rfl rfl rfl rfl) ?_
  exact Z 4 J (zI J J J fq)
 ·refine zo rfl (fun _=>zG (v:=vi 0) rfl rfl rfl rfl) ?_
  exact Z 4 J (zI J J J fq)
 refine zo rfl (fun _=>zG (v:=vi 2) rfl rfl rfl rfl) ?_
 exact Z 4 J (zI J J J fq)
theorem bx (R:List SP) (f n:Int) (hf:0≤f∧f≤1000000) (hn:n≤1000000):yH 219 [vi f,vi n] (R) fun v L=>L=z3 (zX ye 1) v (zT f n)::R:=by
 refine SW.intro rfl Tryz.func219 rfl ?_
 refine O0 15 J (zy (fun j T L=> ∃(q:Nat) (u:z0),(q≤n.toNat)∧j=n.toNat-q∧T.len=2∧Tm.get 0 T=some (vi f)∧Tm.get 5 T=some (u)∧Tm.get 7 T=some (vi n)∧Tm.get 8 T=some (vi (q:Nat))∧Sub L (z3 (zX ye 1) u ((List.range q).map fun i:Nat=>f+i)::R)) (n.toNat) ⟨0,.slice none 0 (some 0) 0,by omega,by omega,rfl,rfl,rfl,rfl,rfl,(Sub.jF (α:=Int) (en:=ye) (es:=1) (fun _=>rfl) (by decide) 0 _)⟩ ?_)
 rintro j T L0 ⟨q,u,hq,rfl,hl,g0,g5,g7,g8,yU⟩
 obtain⟨tg,rfl⟩:=GY hl g0 g5 g7 g8
 clear hl g0 g5 g7 g8
 refine yE yU ?_
 clear yU L0
 have hl:((List.range q).map fun i:Nat=>f+(i:Int)).length=q:=by simp
 refine O0 3 J (z5 (fun h9=> ?_) (fun h9=> ?_))
 ·refine Z 15 J (ad J (zf (cs:= [_]) rfl rfl rfl (by decide) rfl fun i15=> ?_))
  refine ZQ rfl rfl rfl rfl rfl rfl rfl ([f+(q:Int)]) rfl rfl (by simp) (by show _+1≤_;omega) rfl fun i16 q16 c16=> ?_
  refine Z 3 J (ad J (Z 2 J ?_))
  exact Or.inl ⟨rfl,_,by omega,q+1,.slice (some (i16,q16)) (((List.range q).map fun i:Nat=>f+(i:Int)).length+1) c16 1,by omega,rfl,rfl,rfl,rfl,rfl,rfl,(by rw [←sg];exact Y)⟩
 refine Z 4 J (Or.inr ⟨nofun,?_⟩)
 refine OX 6 J (zI J J J ?_)
 have e:q=n.toNat:=by omega
 subst e
 exact⟨_,rfl,Sub.refl _⟩
theorem nM (R:List SP) (pv:z0) (ws:List Nat) (hw: ∀x,x ∈ ws→x≤18446744073709551615) (hl:ws.length≤1000):yH 216 [pv] (z3 (zX C7 1) pv ws::R) fun v L=> ∃u,v= .tuple [u,.bool (ZU ws)]∧L=z3 (zX ye 1) u (re ws)::z3 (zX C7 1) pv ws::R:=by
 refine SW.intro rfl Tryz.func216 rfl ?_
 refine O0 13 J (qJ rfl (fun _ h=>yI rfl rfl rfl rfl rfl h) ?_)
 refine Z 3 J (zy (fun j T L=> ∃(q:Nat) (u:z0),(q≤ws.length)∧(∀(k x:Nat),k<q→ws[k]? =some x→x≤4611686018427387904)∧j=ws.length-q∧T.len=2∧Tm.get 0 T=some (pv)∧Tm.get 4 T=some (u)∧Tm.get 7 T=some (pv)∧Tm.get 8 T=some (vi (ws.length:Nat))∧Tm.get 9 T=some (vi (q:Nat))∧Sub L (z3 (zX ye 1) u ((ws.take q).map fun x:Nat=>(x:Int))::z3 (zX C7 1) pv ws::R)) (ws.length) ⟨0,.slice none 0 (some 0) 0,by omega,fun k x h=>absurd h (Nat.not_lt_zero k),by omega,rfl,rfl,rfl,rfl,rfl,rfl,(Sub.jF (α:=Int) (en:=ye) (es:=1) (fun _=>rfl) (by decide) 0 _)⟩ ?_)
 rintro j T L0 ⟨q,u,hq,YR,rfl,hl,g0,g4,g7,g8,g9,yU⟩
 obtain⟨tg,rfl⟩:=I3 hl g0 g4 g7 g8 g9
 clear hl g0 g4 g7 g8 g9
 refine yE yU ?_
 clear yU L0
 have hl2:((ws.take q).map fun x:Nat=>(x:Int)).length=q:=by simp;omega
 refine O0 3 J (z5 (fun GV=> ?_) (fun GV=> ?_))
 ·refine Z 8 J ?_
  obtain⟨x,hx⟩: ∃x,ws[q]? =some x:=⟨ws[q]'(by omega),List.getElem?_eq_getElem (by omega)⟩
  have NU:=hw x (List.mem_iff_getElem?.2 ⟨_,hx⟩)
  refine qJ rfl (fun _ h=>yg rfl rfl rfl (by omega) (by omega) h) ?_
  refine lE 0 J Y J hx J (Z 7 J (z5 (fun YQ=> ?_) (fun YQ=> ?_)))
  ·refine Z 5 J (qJ rfl (fun _ h=>yI rfl rfl rfl rfl rfl h) ?_)
   refine bL (n:=ws.length) (vi 0) (by simp [z0.cells]) rfl rfl rfl rfl (by omega) (by omega) (by omega) fun i17=> ?_
   refine Z 4 J (Or.inr ⟨nofun,?_⟩)
   refine qt J J J J ?_
   have e:ZU ws=false:=AI hx (by omega)
   have e2:re ws=List.replicate ws.length 0:=if_neg (by rw [e];nofun)
   rw [e,e2]
   exact⟨_,⟨_,rfl,rfl⟩,(Sub.one (K:=zO) (a:=i17) (K2:=zX ye 1) (a2:= .slice (some (i17,0)) ws.length (some ws.length) 1) (x2:=List.replicate ws.length 0) fun f hf=>E1 _ hf).trans Y⟩
  refine Z 6 J (zo rfl (fun _=>qy rfl rfl (vz (by omega))) ?_)
  refine zf (cs:= [_]) rfl rfl rfl (by decide) rfl fun i21=> ?_
  refine ZQ rfl rfl rfl rfl rfl rfl rfl ([(x:Int)]) rfl rfl (by simp) (by show _+1≤_;omega) rfl fun i22 q22 c22=> ?_
  refine Z 3 J (ad J (Z 2 J ?_))
  exact Or.inl ⟨rfl,_,by omega,q+1,.slice (some (i22,q22)) (((ws.take q).map fun x:Nat=>(x:Int)).length+1) c22 1,by omega,fun k y hk hy=>by { rcases Nat.lt_succ_iff_lt_or_eq.1 hk with hk|rfl;exact YR k y hk hy;rw [hx]at hy;cases hy;omega },rfl,rfl,rfl,rfl,rfl,rfl,rfl,(by rw [←Ab _ hx];exact Y)⟩
 refine Z 4 J (Or.inr ⟨nofun,?_⟩)
 refine OX 7 J (qt J J J J ?_)
 have e0:q=ws.length:=by omega
 subst e0
 have e:ZU ws=true:=AH fun k x hk=>YR k x (List.getElem?_eq_some_iff.1 hk).1 hk
 have e2:re ws=ws.map fun x:Nat=>(x:Int):=if_pos e
 rw [List.take_length,e,e2]
 exact⟨_,⟨_,rfl,rfl⟩,Y⟩
structure Wd where
 fr:Int
 zE:Int
 zM:Bool
 inv:Bool
 m:Nat
 p:Nat
 sw:Nat
 mp:Nat
 gate:Nat
abbrev mA (W:Wd) (owner:Int) (a s i j:Nat):List z0:= [vi W.fr,vi W.zE,.bool W.zM,.bool W.inv,vp W.m 0,vp W.p 0,vp W.sw 0,vi (W.mp:Nat),vi (W.gate:Nat),vi owner,vp a 0,vp s 0,.map (some i),.map (some j)]
def YK (l:List (Int×Int)):Prop:= ∀p,p ∈ l→0≤p.2∧p.2≤64
theorem Hz {l:List (Int×Int)} {z v:Int} (h:qH l z=some v):(z,v) ∈ l:=by
 induction l with
 |nil=>cases h
 |cons p l ih=>
  simp only [qH]at h
  by_cases e:p.1=z
  ·rw [if_pos e]at h;cases h;subst e;exact List.mem_cons_self
  rw [if_neg e]at h;exact List.mem_cons_of_mem _ (ih h)
theorem DQ {l:List (Int×Int)} {z v:Int} {p:Int×Int} (h:p ∈ wG l z v):p=(z,v)∨p ∈ l:=by
 induction l with
 |nil=>simp only [wG,List.mem_singleton]at h;exact .inl h
 |cons q l ih=>
  simp only [wG]at h
  split at h
  ·rcases List.mem_cons.1 h with h|h
   ·exact .inl h
   exact .inr (List.mem_cons_of_mem _ h)
  rcases List.mem_cons.1 h with h|h
  ·exact .inr (h▸List.mem_cons_self)
  rcases ih h with h|h
  ·exact .inl h
  exact .inr (List.mem_cons_of_mem _ h)
theorem DO {l:List (Int×Int)} {z:Int} {p:Int×Int} (h:p ∈ Wg l z):p ∈ l:=by
 induction l with
 |nil=>exact h
 |cons q l ih=>
  simp only [Wg]at h
  split at h
  ·exact List.mem_cons_of_mem _ h
  rcases List.mem_cons.1 h with h|h
  ·exact h▸List.mem_cons_self
  exact List.mem_cons_of_mem _ (ih h)
theorem YK.at {l:List (Int×Int)} (h:YK l) (z:Int):0≤(qH l z).getD 0∧(qH l z).getD 0≤64:=by
 cases e:qH l z with
 |none=>exact⟨Int.le_refl _,by show(0:Int)≤64;omega⟩
 |some v=>exact h _ (Hz e)
def J3 (l:List (Int×Int)) (z:Int):Nat:=((qH l z).getD 0).toNat
theorem YK.eq {l:List (Int×Int)} (h:YK l) (z:Int):(qH l z).getD 0=(J3 l z:Nat):=(Int.toNat_of_nonneg (h.at z).1).symm
theorem YK.le {l:List (Int×Int)} (h:YK l) (z:Int):J3 l z≤64:=by have:=h.at z;unfold J3;omega
theorem WW {A:Nat→Int} (h:lX A) (z:Int):yO A z=0∨yO A z=1∨yO A z=3:=by
 unfold yO
 split
 ·split
  ·exact .inl rfl
  rcases h z.toNat with h|h|h|h
  ·contradiction
  ·exact .inl h
  ·exact .inr (.inl h)
  exact .inr (.inr h)
 exact .inl rfl
instance (A:Nat→Int) (z:Int):Decidable (Ge A z):=by unfold Ge;infer_instance
def vx (A:Nat→Int) (fm sm Rf:List (Int×Int)) (inv:Bool) (z4:Int):Nat:=
 if Ge A z4 then(if(qH sm z4).isSome then V9 (J3 sm z4) inv else if yO A z4=0 then V9 (J3 fm z4) inv else wZ (decide (yO A z4=3) && decide (cnt Rf (J3 fm z4:Nat)=1)) true false (J3 fm z4))else 0
theorem iC {A:Nat→Int} {fm sm:List (Int×Int)} (hf:YK fm) (Rf:List (Int×Int)) (inv:Bool) (z4:Int):vx A fm sm Rf inv z4≤18446744073709551615:=by
 have:=hf.le z4
 unfold vx
 split
 ·split
  ·exact xL _ _
  split
  ·exact xL _ _
  exact rP _ _ _ _ (by omega)
 exact Nat.zero_le _
theorem Er (R:List SP) (v:Nat) (W:Wd) (o:Int) (a s i j:Nat) (A:Nat→Int) (fm sm Rf:List (Int×Int)) (hf:YK fm) (hs:YK sm) (z4:Int):yH 257 [vp v 0,vi z4] (z3 zC v (mA W o a s i j)::z3 wD a A::z3 ZM i fm::z3 ZM j sm::z3 zi W.p ⟨W.m,Rf⟩::R) fun w L=>w=vu (vx A fm sm Rf W.inv z4)∧L=z3 zC v (mA W o a s i j)::z3 wD a A::z3 ZM i fm::z3 ZM j sm::z3 zi W.p ⟨W.m,Rf⟩::R:=by
 refine yl (ns a A) fun hA=> ?_
 have hr3:=WW hA z4
 have XO:=hf.le z4
 have lW:=hs.le z4
 refine SW.intro rfl Tryz.func257 rfl ?_
 refine O0 8 J (fa J Y (ld J Y J (Z 1 J (Z1 (rZ _ _ _ _) J Y (Z 3 J (z5 (fun Ua=> ?_) (fun Ua=> ?_)))))))
 ·refine Z 16 J (fa J Y (ld J Y J (Z 1 J (qJ rfl (fun _ h=>Yv rfl rfl rfl h) ?_))))
  refine Z 2 J (qI (congrArg vi (hs.eq z4)) ?_)
  refine Z 1 J (zV (fun Vz=> ?_) (fun Vz=> ?_))
  ·refine Z 13 J (fa J Y (fa J Y (fa J Y (ld J Y J (Z0 (ni _ (J3 sm z4) _ (by omega)) J (Z 3 J (zI J J J ?_)))))))
   have e:vx A fm sm Rf W.inv z4=V9 (J3 sm z4) W.inv:=(if_pos Ua).trans (if_pos Vz)
   rw [e]
   exact fq
  refine Z 13 J (fa J Y (ld J Y J (Z 1 J (qJ rfl (fun _ h=>jQ rfl rfl rfl h) ?_))))
  refine qI (congrArg vi (hf.eq z4)) ?_
  refine Z 7 J (z5 (fun Jb=> ?_) (fun Jb=> ?_))
  ·refine Z 7 J (fa J Y (fa J Y (fa J Y (ld J Y J (Z0 (ni _ (J3 fm z4) _ (by omega)) J (Z 3 J (zI J J J ?_)))))))
   have e:vx A fm sm Rf W.inv z4=V9 (J3 fm z4) W.inv:=(if_pos Ua).trans ((if_neg (by rw [Vz];nofun)).trans (if_pos Jb))
   rw [e]
   exact fq
  refine Z 6 J (Z0 (mB _ _ (by assumption)) J (z5 (fun h59=> ?_) (fun h59=> ?_)))
  ·refine Z 3 J (fa J Y (fa J Y (ld J Y J (Z 1 J (Z1 (td _ _ _ _ _) J Y (Z 3 J (bu [_,_,_,_,_] J Y Y J (Z0 (sY _ _ _ _ (J3 fm z4) (by omega)) J (Z 12 J (zI J J J ?_))))))))))
   have e:vx A fm sm Rf W.inv z4=wZ (decide (cnt Rf (J3 fm z4:Nat)=1)) true false (J3 fm z4):=(if_pos Ua).trans ((if_neg (by rw [Vz];nofun)).trans ((if_neg Jb).trans (by rw [decide_eq_true h59,Bool.true_and])))
   rw [e]
   exact fq
  refine Z 11 J (bu [_,_,_,_,_] J Y Y J (Z0 (sY _ _ _ _ (J3 fm z4) (by omega)) J (Z 12 J (zI J J J ?_))))
  have e:vx A fm sm Rf W.inv z4=wZ false true false (J3 fm z4):=(if_pos Ua).trans ((if_neg (by rw [Vz];nofun)).trans ((if_neg Jb).trans (by rw [decide_eq_false h59,Bool.false_and])))
  rw [e]
  exact fq
 refine Z 15 J (zI J J J ?_)
 have e:vx A fm sm Rf W.inv z4=0:=if_neg Ua
 rw [e]
 exact fq
theorem gA (R:List SP) (v:Nat) (W:Wd) (o:Int) (a s i j:Nat) (A:Nat→Int) (fm sm Rf:List (Int×Int)) (hf:YK fm) (hs:YK sm) (M:zF) (S:y5) (hT:S.tables.length≤900000) (z4:Int):yH 221 [vp v 0,vi z4] (z3 zC v (mA W o a s i j)::z3 wD a A::z3 ZM i fm::z3 ZM j sm::z3 zi W.p ⟨W.m,Rf⟩::z3 we s ⟨W.m,W.p,S⟩::z3 zY W.m M::R) fun w L=>w= .tuple []∧L=z3 zC v (mA W o a s i j)::z3 wD a A::z3 ZM i fm::z3 ZM j sm::z3 zi W.p ⟨W.m,(PM.yZ ⟨M,Rf⟩ S z4 (vx A fm sm Rf W.inv z4)).1.R⟩::z3 we s ⟨W.m,W.p,(PM.yZ ⟨M,Rf⟩ S z4 (vx A fm sm Rf W.inv z4)).2⟩::z3 zY W.m (PM.yZ ⟨M,Rf⟩ S z4 (vx A fm sm Rf W.inv z4)).1.M::R:=by
 refine SW.intro rfl Tryz.func221 rfl ?_
 refine zW [0,1,3,7,0,0,0,96,255] [([0,1,2,3,4,5,6],[3],some 7),([],[3],some 8),([],[],none)] (by kernel_rfl) ?_
 refine z7 (ZK 2 J (zx J Y (q9 J Y J (ZK 3 J (z8 ⟨(yN J Y J J J z9),?_⟩)))))
 refine Z5 (Er _ _ W _ _ _ _ _ A fm sm Rf hf hs _) J Y Y Y Y Y (zJ (z7 (z8 ⟨(yN J Y J J J z9),?_⟩)))
 refine Z3 (OI _ _ _ _ S M Rf z4 _ (iC hf Rf W.inv z4) hT) J Y Y Y (zJ (z7 (z8 ⟨z9,?_⟩)))
 exact wq J J fq
structure dK where
 fm:List (Int×Int)
 sm:List (Int×Int)
 s:PM
 w:Q4
def dK.loose (x:dK) (z4:Int):dK:=if(qH x.sm z4).isSome then { x with sm:=Wg x.sm z4,w:=Gh x.w (J3 x.sm z4:Nat) } else { x with fm:=Wg x.fm z4,s:=x.s.jO (J3 x.fm z4:Nat) }
theorem bw (R:List SP) (v:Nat) (W:Wd) (o:Int) (a s i j:Nat) (fm sm Rf:List (Int×Int)) (hf:YK fm) (hs:YK sm) (M:zF) (Ws:Q4) (z4:Int):yH 176 [vp v 0,vi z4] (z3 zC v (mA W o a s i j)::z3 ZM i fm::z3 ZM j sm::z3 zi W.p ⟨W.m,Rf⟩::z3 zY W.m M::z3 yM W.sw Ws::R) fun w L=>w= .tuple []∧L=z3 zC v (mA W o a s i j)::z3 ZM i (dK.loose ⟨fm,sm,⟨M,Rf⟩,Ws⟩ z4).fm::z3 ZM j (dK.loose ⟨fm,sm,⟨M,Rf⟩,Ws⟩ z4).sm::z3 zi W.p ⟨W.m,(dK.loose ⟨fm,sm,⟨M,Rf⟩,Ws⟩ z4).s.R⟩::z3 zY W.m (dK.loose ⟨fm,sm,⟨M,Rf⟩,Ws⟩ z4).s.M::z3 yM W.sw (dK.loose ⟨fm,sm,⟨M,Rf⟩,Ws⟩ z4).w::R:=by
 refine SW.intro rfl Tryz.func176 rfl ?_
 refine O0 5 J (fa J Y (ld J Y J (Z 1 J (qJ rfl (fun _ h=>Yv rfl rfl rfl h) ?_))))
 refine Z 2 J (qI (congrArg vi (hs.eq z4)) ?_)
 refine Z 1 J (zV (fun YQ=> ?_) (fun YQ=> ?_))
 ·refine Z 12 J (fa J Y (fa J Y (ld J Y J (Z 1 J (Z1 (EL _ _ _ _) J Y (Z 5 J (fa J Y (ld J Y J (Z 1 J (tT rfl rfl rfl rfl rfl rfl rfl ?_))))))))))
  refine Z 2 J (wq J J ?_)
  have e:(dK.loose ⟨fm,sm,⟨M,Rf⟩,Ws⟩ z4)=⟨fm,Wg sm z4,⟨M,Rf⟩,Gh Ws (J3 sm z4:Nat)⟩:=if_pos YQ
  rw [e]
  exact fq
 refine Z 10 J (zW [0,1,3,7,15,0,32,96,224,0,992,2047] [([0,1,2,3,4,5,6,7,8,9,10],[4,8,10],some 11),([],[],none)] (by kernel_rfl) ?_)
 refine z7 (ZK 2 J (zx J Y (zx J Y (q9 J Y J (ZK 2 J (zx J Y (q9 J Y J (ZK 1 J (jM rfl (fun _ h=>jQ rfl rfl rfl h) ?_)))))))))
 refine QA (congrArg vi (hf.eq z4)) ?_
 refine z8 ⟨(yN J Y J J J (yN J Y J J J (va rfl (fun _ h=>jQ rfl rfl rfl h) rfl rfl (by rw [hf.eq z4];exact z6 _ rfl) z9))),?_⟩
 refine Z2 (cT _ _ _ _ _ _) J Y Y (zJ (z7 (z8 ⟨z9,?_⟩)))
 refine OX 3 J (fa J Y (ld J Y J (Z 1 J (tT rfl rfl rfl rfl rfl rfl rfl ?_))))
 refine Z 1 J (wq J J ?_)
 have e:(dK.loose ⟨fm,sm,⟨M,Rf⟩,Ws⟩ z4)=⟨Wg fm z4,sm,PM.jO ⟨M,Rf⟩ (J3 fm z4:Nat),Ws⟩:=if_neg (by rw [YQ];nofun)
 rw [e]
 exact fq
def Vp (W:Q4) (M:zF) (z f:Int):Bool×Q4×zF:=if(kJ W z).isSome=true∧0≤f∧f<M.n then(true,Gh W z,M.fill f ((kJ W z).getD fun _=>0) 8)else(false,W,M)
theorem KP (R:List SP) (s m:Nat) (W:Q4) (M:zF) (z f:Int) (hz: ¬((kJ W z).isSome=true∧0≤f∧f<M.n)):yH 261 [vp s 0,vp m 0,vi z,vi f] (z3 yM s W::z3 zY m M::R) fun v L=>v= .bool false∧L=z3 yM s W::z3 zY m M::R:=by
 refine yl (p:=M.Ok) (qf m M) fun hM=> ?_
 have VJ:=hM.1
 have Vk:=hM.2.1
 refine ze (W2 s W) fun i hW=> ?_
 dsimp only [m4,List.cons_append,List.nil_append]
 refine SW.intro rfl Tryz.func261 rfl ?_
 refine O0 8 J (fa J Y (ld J Y J (Z 1 J (qJ rfl (fun _ h=>tA (e:=e8) (fun _=>0) rfl rfl rfl rfl h) ?_))))
 refine Z 3 J (zV (fun Vy=> ?_) (fun Vy=> ?_))
 ·refine zn rfl rfl rfl fun i9=> ?_
  refine sN J Y Y J J J (Z 10 J (z5 (fun nT=> ?_) (fun nT=> ?_)))
  ·exact Z 14 J (zI J J J ⟨_,⟨rfl,rfl⟩,Sub.qi (wo hW) Y⟩)
  refine Z 4 J (Z1 (gL _ _ _) J Y (zo rfl (fun _=>zG rfl rfl rfl (pF rfl)) (dx ((by rcases Decidable.em ((M.n:Int)≤f)with h|h;exact h;exact absurd ⟨Vy,by omega,by omega⟩ hz)) ?_)))
  exact Z 8 J (zI J J J ⟨_,⟨rfl,rfl⟩,Sub.qi (wo hW) Y⟩)
 refine zn rfl rfl rfl fun i9=> ?_
 exact sN J Y Y J J J (Z 24 J (zI J J J ⟨_,⟨rfl,rfl⟩,Sub.qi (wo hW) Y⟩))
theorem KQ (R:List SP) (s m:Nat) (W:Q4) (M:zF) (z f:Int):yH 261 [vp s 0,vp m 0,vi z,vi f] (z3 yM s W::z3 zY m M::R) fun v L=>v= .bool (Vp W M z f).1∧L=z3 yM s (Vp W M z f).2.1::z3 zY m (Vp W M z f).2.2::R:=by
 by_cases h:(kJ W z).isSome=true∧0≤f∧f<M.n
 ·have e:Vp W M z f=(true,Gh W z,M.fill f ((kJ W z).getD fun _=>0) 8):=if_pos h
  rw [e];exact OK R s m W M z f h.2 h.1
 have e:Vp W M z f=(false,W,M):=if_neg h
 rw [e];exact KP R s m W M z f h
structure zA where
 A:Nat→Int
 fm:List (Int×Int)
 sm:List (Int×Int)
 S:y5
 s:PM
 w:Q4
abbrev zA.tell (x:zA) (inv:Bool) (z4:Int):zA:= { x with s:=(x.s.yZ x.S z4 (vx x.A x.fm x.sm x.s.R inv z4)).1,S:=(x.s.yZ x.S z4 (vx x.A x.fm x.sm x.s.R inv z4)).2 }
abbrev zA.loose (x:zA) (z4:Int):zA:= { x with fm:=(dK.loose ⟨x.fm,x.sm,x.s,x.w⟩ z4).fm,sm:=(dK.loose ⟨x.fm,x.sm,x.s,x.w⟩ z4).sm,s:=(dK.loose ⟨x.fm,x.sm,x.s,x.w⟩ z4).s,w:=(dK.loose ⟨x.fm,x.sm,x.s,x.w⟩ z4).w }
abbrev zA.zl (x:zA) (inv:Bool) (o z4 slot:Int):Bool×zA:=if x.s.M.first.isSome then
 (true,({ x with fm:=wG x.fm z4 (x.s.got:Nat),sm:=Wg x.sm z4,s:=⟨(Vp x.w (x.s.take 2 o).M slot (x.s.got:Nat)).2.2,(x.s.take 2 o).R⟩,w:=(Vp x.w (x.s.take 2 o).M slot (x.s.got:Nat)).2.1 } :zA).tell inv z4)else(false,x)
def uX (fm:List (Int×Int)) (s:PM) (o z4:Int):Bool×List (Int×Int)×PM:=if s.M.first.isSome then
 (true,wG fm z4 (s.got:Nat),PM.jO ⟨(s.take 2 o).M.copy (J3 fm z4:Nat) (s.got:Nat),(s.take 2 o).R⟩ (J3 fm z4:Nat))else(false,fm,s)
abbrev zA.part (x:zA) (o z4:Int):Bool×zA:=((uX x.fm x.s o z4).1,{ x with fm:=(uX x.fm x.s o z4).2.1,s:=(uX x.fm x.s o z4).2.2 })
theorem YK.ins {l:List (Int×Int)} (h:YK l) (z:Int) {v:Int} (hv:0≤v∧v≤64):YK (wG l z v):=fun p hp=>by
 rcases DQ hp with rfl|hp
 ·exact hv
 exact h p hp
theorem YK.del {l:List (Int×Int)} (h:YK l) (z:Int):YK (Wg l z):=fun p hp=>h p (DO hp)
theorem m5 {s:PM} (h:s.M.first.isSome=false) (c w:Int):s.take c w=s:=by
 unfold PM.take
 cases e:s.M.first with
 |none=>rfl
 |some f=>rw [e]at h;cases h
theorem oL (R:List SP) (v:Nat) (W:Wd) (o:Int) (a s i j:Nat) (fm Rf:List (Int×Int)) (hf:YK fm) (M:zF) (z4:Int):yH 235 [vp v 0,vi z4] (z3 zC v (mA W o a s i j)::z3 ZM i fm::z3 zi W.p ⟨W.m,Rf⟩::z3 zY W.m M::R) fun w L=>w= .bool (uX fm ⟨M,Rf⟩ o z4).1∧L=z3 zC v (mA W o a s i j)::z3 ZM i (uX fm ⟨M,Rf⟩ o z4).2.1::z3 zi W.p ⟨W.m,(uX fm ⟨M,Rf⟩ o z4).2.2.R⟩::z3 zY W.m (uX fm ⟨M,Rf⟩ o z4).2.2.M::R:=by
 refine SW.intro rfl Tryz.func235 rfl ?_
 refine O0 8 J (fa J Y (ld J Y J (Z 1 J (qJ rfl (fun _ h=>jQ rfl rfl rfl h) ?_))))
 refine qI (congrArg vi (hf.eq z4)) ?_
 refine Z 3 J (zW [0,1,3,7,15,0,32,96,224,511,1023,2047,2047,4095,16383] [([0,1,2,3,4,5,6,7,8],[4,8],some 9),([10,11,12,13,14],[],none)] (by kernel_rfl) ?_)
 refine z7 (ZK 2 J (zx J Y (zx J Y (q9 J Y J (ZK 2 J (zx J Y (q9 J Y J (z8 ⟨(yN J Y J J J (yN J Y J J J z9)),?_⟩))))))))
 refine Z2 (nD _ _ _ _ _ _ _ (by omega)) J Y Y (zJ (z7 (ZK 3 J (jD (fun nT=> ?_) (fun nT=> ?_)))))
 ·refine ZK 2 J (z8 ⟨z9,?_⟩)
  refine OX 12 J (fa J Y (fa J Y (ld J Y J (Z 2 J (Z1 (Mj _ _ _ _ _) J Y (Z 5 J (fa J Y (fa J Y (ld J Y J (Z 1 J (Z2 (cT _ _ _ _ _ _) J Y Y (Z 5 J (fa J Y (ld J Y J (Z 2 J (Zb rfl rfl rfl rfl rfl ?_))))))))))))))))
  refine Z 6 J (zI J J J ?_)
  have e:(uX fm ⟨M,Rf⟩ o z4)=(true,wG fm z4 (PM.got ⟨M,Rf⟩:Nat),PM.jO ⟨(PM.take ⟨M,Rf⟩ 2 o).M.copy (J3 fm z4:Nat) (PM.got ⟨M,Rf⟩:Nat),(PM.take ⟨M,Rf⟩ 2 o).R⟩ (J3 fm z4:Nat)):=if_pos nT
  rw [e]
  exact fq
 refine ZK 2 J (z8 ⟨z9,?_⟩)
 refine OX 12 J (zI J J J ?_)
 have e2:=m5 (s:=⟨M,Rf⟩) nT 2 o
 have e:(uX fm ⟨M,Rf⟩ o z4)=(false,fm,⟨M,Rf⟩):=if_neg (by show¬M.first.isSome=true;rw [nT];nofun)
 rw [e,e2]
 exact fq
theorem lC (R:List SP) (v:Nat) (W:Wd) (o:Int) (a s i j:Nat) (A:Nat→Int) (fm sm Rf:List (Int×Int)) (hf:YK fm) (hs:YK sm) (M:zF) (S:y5) (hT:S.tables.length≤900000) (Ws:Q4) (z4 slot:Int):yH 234 [vp v 0,vi z4,vi slot] (z3 zC v (mA W o a s i j)::z3 wD a A::z3 ZM i fm::z3 ZM j sm::z3 zi W.p ⟨W.m,Rf⟩::z3 we s ⟨W.m,W.p,S⟩::z3 zY W.m M::z3 yM W.sw Ws::R) fun w L=>w= .bool (zA.zl ⟨A,fm,sm,S,⟨M,Rf⟩,Ws⟩ W.inv o z4 slot).1∧L=z3 zC v (mA W o a s i j)::z3 wD a (zA.zl ⟨A,fm,sm,S,⟨M,Rf⟩,Ws⟩ W.inv o z4 slot).2.A::z3 ZM i (zA.zl ⟨A,fm,sm,S,⟨M,Rf⟩,Ws⟩ W.inv o z4 slot).2.fm::z3 ZM j (zA.zl ⟨A,fm,sm,S,⟨M,Rf⟩,Ws⟩ W.inv o z4 slot).2.sm::z3 zi W.p ⟨W.m,(zA.zl ⟨A,fm,sm,S,⟨M,Rf⟩,Ws⟩ W.inv o z4 slot).2.s.R⟩::z3 we s ⟨W.m,W.p,(zA.zl ⟨A,fm,sm,S,⟨M,Rf⟩,Ws⟩ W.inv o z4 slot).2.S⟩::z3 zY W.m (zA.zl ⟨A,fm,sm,S,⟨M,Rf⟩,Ws⟩ W.inv o z4 slot).2.s.M::z3 yM W.sw (zA.zl ⟨A,fm,sm,S,⟨M,Rf⟩,Ws⟩ W.inv o z4 slot).2.w::R:=by
 refine yl (qf W.m M) fun hM=> ?_
 have hg:PM.got ⟨M,Rf⟩≤M.n:=PM.Wn _
 have hn:=hM.2.1
 have hf2:YK (wG fm z4 (PM.got ⟨M,Rf⟩:Nat)):=hf.ins z4 (by omega)
 have XW:YK (Wg sm z4):=hs.del z4
 refine SW.intro rfl Tryz.func234 rfl ?_
 refine O0 5 J (zW [0,1,3,7,15,0,32,96,224,511,1023,2047,2047,4095,16383] [([0,1,2,3,4,5,6,7,8],[4,8],some 9),([10,11,12,13,14],[],none)] (by kernel_rfl) ?_)
 refine z7 (ZK 2 J (zx J Y (zx J Y (q9 J Y J (ZK 2 J (zx J Y (q9 J Y J (z8 ⟨(yN J Y J J J (yN J Y J J J z9)),?_⟩))))))))
 refine Z2 (nD _ _ _ _ _ _ _ (by omega)) J Y Y (zJ (z7 (ZK 3 J (jD (fun Vy=> ?_) (fun Vy=> ?_)))))
 ·refine ZK 2 J (z8 ⟨z9,?_⟩)
  refine OX 9 J (zW [0,1,3,7,15,0,32,96,224,480,0,0,4095] [([0,1,2,3,4,5,6,7,8,9,10,11],[4,9],some 12),([],[],none)] (by kernel_rfl) ?_)
  refine z7 (ZK 2 J (zx J Y (zx J Y (q9 J Y J (ZK 2 J (zx J Y (zx J Y (q9 J Y J (ZK 2 J (z8 ⟨(yN J Y J J J (yN J Y J J J z9)),?_⟩))))))))))
  refine Z2 (KQ _ _ _ _ _ _ _) J Y Y (zJ (z7 (z8 ⟨z9,?_⟩)))
  refine OX 4 J (fa J Y (ld J Y J (Z 1 J (tT rfl rfl rfl rfl rfl rfl rfl ?_))))
  refine Z 5 J (fa J Y (ld J Y J (Z 2 J (Zb rfl rfl rfl rfl rfl ?_))))
  refine Z 5 J (Z7 (gA _ _ W _ _ _ _ _ A (wG fm z4 (PM.got ⟨M,Rf⟩:Nat)) (Wg sm z4) (PM.take ⟨M,Rf⟩ 2 o).R hf2 XW _ S hT z4) J Y Y Y Y Y Y Y (Z 6 J (zI J J J ?_)))
  have e:zA.zl ⟨A,fm,sm,S,⟨M,Rf⟩,Ws⟩ W.inv o z4 slot=(true,({ A:=A,fm:=wG fm z4 (PM.got ⟨M,Rf⟩:Nat),sm:=Wg sm z4,S:=S,s:=⟨(Vp Ws (PM.take ⟨M,Rf⟩ 2 o).M slot (PM.got ⟨M,Rf⟩:Nat)).2.2,(PM.take ⟨M,Rf⟩ 2 o).R⟩,w:=(Vp Ws (PM.take ⟨M,Rf⟩ 2 o).M slot (PM.got ⟨M,Rf⟩:Nat)).2.1 } :zA).tell W.inv z4):=if_pos Vy
  rw [e]
  exact fq
 refine ZK 2 J (z8 ⟨z9,?_⟩)
 refine OX 12 J (zI J J J ?_)
 have e:zA.zl ⟨A,fm,sm,S,⟨M,Rf⟩,Ws⟩ W.inv o z4 slot=(false,⟨A,fm,sm,S,⟨M,Rf⟩,Ws⟩):=if_neg (by show¬M.first.isSome=true;rw [Vy];nofun)
 have e2:=m5 (s:=⟨M,Rf⟩) Vy 2 o
 rw [e,e2]
 exact fq
theorem Yn (s:PM) (S:y5) (z4:Int) (x:Nat):(s.yZ S z4 x).2.tables.length≤S.tables.length+2∧(s.yZ S z4 x).2.owner=S.owner∧(s.yZ S z4 x).2.kernel=S.kernel∧(s.yZ S z4 x).2.user=S.user:=by
 unfold PM.yZ
 split
 ·have h1:=Dl s S z4.toNat
  have h2:=Dm (kO s S z4.toNat).1 (kO s S z4.toNat).2 z4.toNat
  refine⟨?_,h2.1.trans h1.1,h2.2.1.trans h1.2.1,h2.2.2.1.trans h1.2.2.1⟩
  show(rR (kO s S z4.toNat).1 (kO s S z4.toNat).2 z4.toNat).2.tables.length≤_
  have:=h1.2.2.2;have:=h2.2.2.2;omega
 exact⟨by show S.tables.length≤_;omega,rfl,rfl,rfl⟩
theorem Vh (M:zF) (z:Int) (x:Nat):(M.write z x).n=M.n:=by unfold zF.write;split<;>rfl
theorem px (s:PM) (S:y5) (z4:Int) (x:Nat):(s.yZ S z4 x).1.M.n=s.M.n:=by
 have h1: ∀(s:PM) (S:y5) z4,(kO s S z4).1.M.n=s.M.n:=fun s S z4=>by
  unfold kO;split
  ·show((((s.take 1 S.owner).M.write _ _)).write _ _).n=_;rw [Vh,Vh,PM.V6]
  rfl
 have h2: ∀(s:PM) (S:y5) z4,(rR s S z4).1.M.n=s.M.n:=fun s S z4=>by
  unfold rR;split
  ·show((s.take 1 S.owner).M.write _ _).n=_;rw [Vh,PM.V6]
  rfl
 unfold PM.yZ
 split
 ·show((rR (kO s S z4.toNat).1 (kO s S z4.toNat).2 z4.toNat).1.M.write _ _).n=_
  rw [Vh,h2,h1]
 rfl
def zA.Gn (x:zA) (inv:Bool) (o z4:Int) (write:Bool):Int×zA:=
 let p:=if write=true∧1<cnt x.s.R ((qH x.fm z4).getD 0)then x.part o z4 else(true,x)
 if p.1=false then(5,p.2)else(0,p.2.tell inv z4)
def zA.fb (x:zA) (inv:Bool) (o z4:Int) (write:Bool):Int×zA:=
 let b:=if(qH x.sm z4).isSome then x.zl inv o z4 ((qH x.sm z4).getD 0)else(true,x)
 if b.1=false then(5,b.2)else b.2.Gn inv o z4 write
def zA.fix (x:zA) (inv:Bool) (o z4:Int) (write:Bool):Int×zA:=
 if¬Ge x.A z4 then(1,x)else
 if yO x.A z4=0∨(write=true∧yO x.A z4≠3)then(2,x)else x.fb inv o z4 write
section
variable {x:zA} {inv:Bool} {o z4:Int} {write:Bool}
theorem kZ (h: ¬(write=true∧1<cnt x.s.R ((qH x.fm z4).getD 0))):x.Gn inv o z4 write=(0,x.tell inv z4):=by
 unfold zA.Gn;rw [if_neg h];exact if_neg nofun
theorem fe (h:write=true∧1<cnt x.s.R ((qH x.fm z4).getD 0)) (hp:(uX x.fm x.s o z4).1=false):x.Gn inv o z4 write=(5,(x.part o z4).2):=by
 unfold zA.Gn;rw [if_pos h];exact if_pos hp
theorem ae (h:write=true∧1<cnt x.s.R ((qH x.fm z4).getD 0)) (hp:(uX x.fm x.s o z4).1=true):x.Gn inv o z4 write=(0,(x.part o z4).2.tell inv z4):=by
 unfold zA.Gn;rw [if_pos h];exact if_neg (fun e=>by rw [show(x.part o z4).1=(uX x.fm x.s o z4).1 from rfl,hp]at e;cases e)
theorem kX (h:(qH x.sm z4).isSome=false):x.fb inv o z4 write=x.Gn inv o z4 write:=by
 unfold zA.fb;rw [h];exact if_neg nofun
theorem fc (h:(qH x.sm z4).isSome=true) (hb:(x.zl inv o z4 ((qH x.sm z4).getD 0)).1=false):x.fb inv o z4 write=(5,(x.zl inv o z4 ((qH x.sm z4).getD 0)).2):=by
 unfold zA.fb;rw [h];exact if_pos hb
theorem kY (h:(qH x.sm z4).isSome=true) (hb:(x.zl inv o z4 ((qH x.sm z4).getD 0)).1=true):x.fb inv o z4 write=(x.zl inv o z4 ((qH x.sm z4).getD 0)).2.Gn inv o z4 write:=by
 unfold zA.fb;rw [h];exact if_neg (fun e=>by rw [if_pos rfl,hb]at e;cases e)
theorem ji (h:Ge x.A z4) (hr: ¬(yO x.A z4=0∨(write=true∧yO x.A z4≠3))):x.fix inv o z4 write=x.fb inv o z4 write:=by
 unfold zA.fix;rw [if_neg (fun k=>k h),if_neg hr]
end
structure zA.Ok (x:zA):Prop where
 f:YK x.fm
 s:YK x.sm
 n:x.s.M.n≤64
theorem zA.Ok.tell {x:zA} (h:x.Ok) (inv:Bool) (z4:Int):(x.tell inv z4).Ok:=⟨h.f,h.s,by show(PM.yZ _ _ _ _).1.M.n≤64;rw [px];exact h.n⟩
theorem OJ (W:Q4) (M:zF) (z f:Int):(Vp W M z f).2.2.n=M.n:=by
 unfold Vp;split
 ·exact zF.Mq _ _ _ _
 rfl
theorem zA.Ok.zl {x:zA} (h:x.Ok) (inv:Bool) (o z4 slot:Int):(x.zl inv o z4 slot).2.Ok:=by
 have hg:=PM.Wn x.s
 have hn:=h.n
 unfold zA.zl
 split
 ·refine zA.Ok.tell ⟨h.f.ins z4 (by omega),h.s.del z4,?_⟩ inv z4
  show(Vp _ _ _ _).2.2.n≤64
  rw [OJ,PM.V6];exact hn
 exact h
theorem c3 (M:zF) (f t:Int):(M.copy f t).n=M.n:=by unfold zF.copy;split<;>rfl
theorem QF {fm:List (Int×Int)} {s:PM} (hf:YK fm) (hn:s.M.n≤64) (o z4:Int):YK (uX fm s o z4).2.1∧(uX fm s o z4).2.2.M.n≤64:=by
 have hg:=PM.Wn s
 unfold uX
 split
 ·refine⟨hf.ins z4 (by omega),?_⟩
  show(PM.jO _ _).M.n≤64
  rw [PM.CQ]
  show((s.take 2 o).M.copy _ _).n≤64
  rw [c3,PM.V6];exact hn
 exact⟨hf,hn⟩
theorem Gf (x:zA) (inv:Bool) (o z4 slot:Int):(x.zl inv o z4 slot).2.S.tables.length≤x.S.tables.length+2:=by
 unfold zA.zl
 split
 ·exact(Yn _ _ _ _).1
 show x.S.tables.length≤_;omega
def uO.of (x:uO) (yC z4:Int):Bool:=decide (x.z4=z4) && (decide (x.yC=yC)||x.iP)
def cx:uO:=⟨0,0,0,false,false,false⟩
def YG (xs:List uO) (x:uO):List uO:=let l:=(xs.filter fun y=> !y.of x.yC x.z4)++ [x];if 8<l.length then l.drop 1 else l
def ZG (a:Nat) (xs:List uO):SP:=fun h=> ∃v,xs.length≤8∧Sat [z3 zC a [v],z3 (zX gZ 6) v xs] h
abbrev Ae (a:Nat) (xs:List uO) (v:z0):List SP:= [z3 zC a [v],z3 (zX gZ 6) v xs]
theorem QM (a:Nat) (xs:List uO): ∀h,ZG a xs h→ ∃v,xs.length≤8∧Sat (Ae a xs v) h:=fun _ h=>h
theorem vV {a:Nat} {xs:List uO} {v:z0} (hx:xs.length≤8): ∀h,Sat [z3 zC a [v],z3 (zX gZ 6) v xs] h→ZG a xs h:=fun _ x=>⟨v,hx,x⟩
theorem Ke (a:Nat) (xs:List uO): ∀h,ZG a xs h→xs.length≤8:=fun _ ⟨_,h,_⟩=>h
theorem m7 {xs:List uO} (h:xs.length≤8) (x:uO):(YG xs x).length≤8:=by
 have:=List.length_filter_le (fun y:uO=> !y.of x.yC x.z4) xs
 unfold YG
 simp only
 split
 ·rw [List.length_drop,List.length_append];simp only [List.length_singleton];omega
 rw [List.length_append]at*;simp only [List.length_singleton]at*;omega
theorem M9 (R:List SP) (x:uO) (yC z4:Int):yH 239 [.agg (gZ x),vi yC,vi z4] (R) fun w L=>w= .bool (x.of yC z4)∧L=R:=by
 refine SW.intro rfl Tryz.func239 rfl ?_
 refine O0 2 J (yu rfl rfl rfl rfl fun i3=> ?_)
 refine Z 4 J (fa J Y (ld J Y J (Z 2 J (z5 (fun GV=> ?_) (fun GV=> ?_)))))
 ·refine Z 1 J (fa J Y (ld J Y J (Z 2 J (z5 (fun YM=> ?_) (fun YM=> ?_)))))
  ·refine Z 8 J (zI J J J (⟨_,⟨congrArg z0.bool ?_,rfl⟩,Y⟩))
   unfold uO.of
   rw [decide_eq_true GV,decide_eq_true YM];rfl
  refine Z 1 J (fa J Y (ld J Y J (Z 5 J (zI J J J (⟨_,⟨congrArg z0.bool ?_,rfl⟩,Y⟩)))))
  unfold uO.of
  rw [decide_eq_true GV,decide_eq_false YM];rfl
 refine Z 13 J (zI J J J (⟨_,⟨congrArg z0.bool ?_,rfl⟩,Y⟩))
 unfold uO.of
 rw [decide_eq_false GV];rfl
theorem EZ (R:List SP) (i j:Nat) (x:uO) (yC z4:Int):yH 238 [.agg (gZ x),vp i 0,vp j 0] (z3 zC i [vi yC]::z3 zC j [vi z4]::R) fun w L=>w= .bool (x.of yC z4)∧L=z3 zC i [vi yC]::z3 zC j [vi z4]::R:=by
 refine SW.intro rfl Tryz.func238 rfl ?_
 refine O0 2 J (yu rfl rfl rfl rfl fun i3=> ?_)
 exact Z 4 J (lN J Y Y J J (ld J Y J (ld J Y J (Z0 (M9 _ _ _ _) J (Z 3 J (zI J J J fq))))))
theorem Kc (R:List SP) (i j:Nat) (x:uO) (yC z4:Int):yH 266 [.agg (gZ x),vp i 0,vp j 0] (z3 zC i [vi yC]::z3 zC j [vi z4]::R) fun w L=>w= .bool (!x.of yC z4)∧L=z3 zC i [vi yC]::z3 zC j [vi z4]::R:=by
 refine SW.intro rfl Tryz.func266 rfl ?_
 refine O0 2 J (yu rfl rfl rfl rfl fun i3=> ?_)
 exact Z 4 J (lN J Y Y J J (ld J Y J (ld J Y J (Z0 (M9 _ _ _ _) J (Z 4 J (zI J J J fq))))))
theorem Kb (R:List SP) (i:Nat) (x:uO) (yC:Int):yH 205 [.agg (gZ x),vp i 0] (z3 zC i [vi yC]::R) fun w L=>w= .bool (decide (x.yC≠yC)||x.iP)∧L=z3 zC i [vi yC]::R:=by
 refine SW.intro rfl Tryz.func205 rfl ?_
 refine O0 2 J (yu rfl rfl rfl rfl fun i2=> ?_)
 refine Z 4 J (fa J Y (ld J Y J (ld J Y J (Z 1 J (z5 (fun h7=> ?_) (fun h7=> ?_))))))
 ·refine Z 7 J (zI J J J (⟨_,⟨congrArg z0.bool ?_,rfl⟩,Y⟩))
  rw [decide_eq_true h7];rfl
 refine Z 1 J (fa J Y (ld J Y J (Z 4 J (zI J J J (⟨_,⟨congrArg z0.bool ?_,rfl⟩,Y⟩)))))
 rw [decide_eq_false h7];rfl
theorem HA {α:Type} {p:α→Bool} {xs:List α} {c:Nat} {x:α} (hx:xs[c]? =some x) (hp:p x=true) (h: ∀(k:Nat) (y:α),k<c→xs[k]? =some y→p y=false):xs.find? p=some x:=by
 induction xs generalizing c with
 |nil=>simp at hx
 |cons y ys ih=>
  cases c with
  |zero=>simp at hx;subst hx;rw [List.find?_cons_of_pos hp]
  |succ c=>
   have hy:=h 0 y (Nat.succ_pos c) rfl
   rw [List.find?_cons_of_neg (by rw [hy];nofun)]
   exact ih (c:=c) (by simpa using hx) fun k z hk hz=>h (k+1) z (by omega) (by simpa using hz)
theorem oE (R:List SP) (a:Nat) (xs:List uO) (yC z4:Int):yH 198 [vp a 0,vi yC,vi z4] (z3 ZG a xs::R) fun w L=>w= .tuple [.agg (gZ ((xs.find? fun x=>x.of yC z4).getD cx)),.bool (xs.find? fun x=>x.of yC z4).isSome]∧L=z3 ZG a xs::R:=by
 refine ze (QM a xs) fun v hx=> ?_
 dsimp only [Ae,List.cons_append,List.nil_append]
 refine SW.intro rfl Tryz.func198 rfl ?_
 refine O0 2 J (yu rfl rfl rfl rfl fun i4=> ?_)
 refine yu rfl rfl rfl rfl fun i5=> ?_
 refine zn rfl rfl rfl fun i6=> ?_
 refine Z 6 J (fa J Y (ld J Y J (Z 1 J (zd (M:=z3 (zX gZ 6) v xs::z3 zC i4 (vi yC).cells::z3 zC i5 (vi z4).cells::z3 zC i6 (z0.agg [vi 0,vi 0,vi 0,.bool false,.bool false,.bool false]).cells::z3 zC a [v]::R) Y ?_))))
 refine Z0 (lO [z3 zC i4 [vi yC],z3 zC i5 [vi z4]] _ v xs (by omega) (fun x=>x.of yC z4) 238 [] [vp i4 0,vp i5 0] (fun x _ R2=>EZ R2 i4 i5 x yC z4)) J ?_
 dsimp only [List.cons_append,List.nil_append]
 refine Z 7 J (z5 (fun j4=> ?_) (fun j4=> ?_))
 ·refine Z 4 J (bu [_,_,_,_,_,_] J Y Y J (sN J Y Y J J J (Z 3 J (⟨.inr rfl,_,fun _ h=>(zu (yQ rfl (yo rfl (Nat.le_of_ble_eq_true rfl) h)) (zu (zm rfl) qY)),?_⟩))))
  have e:(xs.find? fun x=>x.of yC z4)=none:=List.find?_eq_none.2 fun x km=>by
   rcases gf (fun x:uO=>x.of yC z4) xs with⟨_,h2⟩|⟨c,x0,dO,_⟩
   ·rw [h2 x km];nofun
   omega
  rw [e]
  exact⟨_,⟨rfl,rfl⟩,Sub.qi (vV hx) Y⟩
 obtain⟨c,x0,dO,gE,Wr,FQ,cj⟩:=(gf (fun x:uO=>x.of yC z4) xs).resolve_left (fun e=>by have:=e.1;omega)
 rw [dO]at j4 ⊢
 refine Z 7 J (fa J Y (ld J Y J (Z 1 J (qJ rfl (fun _ h=>yg rfl rfl rfl (by omega) (by omega) h) ?_))))
 refine qJ rfl (fun _ h=>Gt rfl rfl rfl Wr h) ?_
 refine sN J Y Y J J J (Z 3 J (⟨.inr rfl,_,fun _ h=>(zu (yQ rfl (yo rfl (Nat.le_of_ble_eq_true rfl) h)) (zu (zm rfl) qY)),?_⟩))
 have e:(xs.find? fun x=>x.of yC z4)=some x0:=HA Wr FQ cj
 rw [e]
 exact⟨_,⟨rfl,rfl⟩,Sub.qi (vV hx) Y⟩
theorem Ea (E R:List SP) (i:Nat) (x:uO) (s:uO→Bool) (f:FuncId) (c d:List z0) (hf: ∀x R2,yH f (c++ [.agg (gZ x)]++d) (E++R2) fun w L=>w= .bool (s x)∧L=E++R2):yH 246 [.agg (gZ x),vp i 0] (z3 zC i [.func f c d]::(E++R)) fun w L=>w= .bool (!s x)∧L=z3 zC i [.func f c d]::(E++R):=by
 refine SW.intro rfl Tryz.func246 rfl ?_
 refine O0 2 J (yu rfl rfl rfl rfl fun i2=> ?_)
 refine Z 4 J (ld J Y J (lN J Y Y J J (zd (o7 _ _ E R) ?_)))
 refine Z0 (hf x _) J (zd (ry _ _ E R) ?_)
 exact Z 4 J (zI J J J fq)
theorem oF (E R:List SP) (a:Nat) (xs:List uO) (s:uO→Bool) (f:FuncId) (c d:List z0) (hf: ∀x R2,yH f (c++ [.agg (gZ x)]++d) (E++R2) fun w L=>w= .bool (s x)∧L=E++R2):yH 204 [vp a 0,.func f c d] (z3 ZG a xs::(E++R)) fun w L=>w= .tuple []∧L=z3 ZG a (xs.filter s)::(E++R):=by
 refine ze (QM a xs) fun v hx=> ?_
 dsimp only [Ae,List.cons_append,List.nil_append]
 refine SW.intro rfl Tryz.func204 rfl ?_
 refine O0 2 J (yu rfl rfl rfl rfl fun i3=> ?_)
 refine Z 5 J (fa J Y (ld J Y J (yY (FB _ _ _ (by omega)) rfl (fun _=>rfl) ?_)))
 rintro u9 _ rfl
 refine Z 1 J (zd (M:=z3 (zX gZ 6) u9 xs::((z3 zC i3 [.func f c d]::E)++(z3 zC a [v]::R))) (Sub.get rfl (Sub.get rfl ((show Sub (z3 (zX gZ 6) v xs::z3 zC a [v]::(E++R)) (z3 zC a [v]::(E++R))from Y).trans (Yz _ E R)))) ?_)
 refine qZ (FE (z3 zC i3 [.func f c d]::E) _ u9 xs (by omega) (fun x=> !s x) 246 [] [vp i3 0] (fun x _ R2=>Ea E R2 i3 x s f c d hf)) rfl (fun _=>rfl) ?_
 rintro u11 _ rfl
 refine zd (M:=z3 (zX gZ 6) u11 (xs.filter s)::z3 zC a [v]::(E++R)) (by simp only [Bool.not_not];exact Sub.wU (Sub.drop (jn _ E R))) ?_
 refine yW (v:=u11) fun a2 c2 e2 Sk _=> ?_
 subst Sk
 exact Z 1 J (fa J Y (sO J Y J J J (Z 1 J (wq J J ⟨_,⟨rfl,rfl⟩,Sub.qi (vV (by have:=List.length_filter_le s xs;omega)) Y⟩))))
theorem OQ (R:List SP) (a:Nat) (xs:List uO) (yC z4:Int):yH 260 [vp a 0,vi yC,vi z4] (z3 ZG a xs::R) fun w L=>w= .tuple []∧L=z3 ZG a (xs.filter fun y=> !y.of yC z4)::R:=by
 refine SW.intro rfl Tryz.func260 rfl ?_
 refine O0 2 J (yu rfl rfl rfl rfl fun i4=> ?_)
 refine yu rfl rfl rfl rfl fun i5=> ?_
 refine Z 4 J (zd (M:=z3 ZG a xs::z3 zC i4 (vi yC).cells::z3 zC i5 (vi z4).cells::R) Y ?_)
 refine Z0 (oF [z3 zC i4 [vi yC],z3 zC i5 [vi z4]] R a xs (fun y=> !y.of yC z4) 266 [] [vp i4 0,vp i5 0] (fun x R2=>Kc R2 i4 i5 x yC z4)) J ?_
 dsimp only [List.cons_append,List.nil_append]
 exact Z 1 J (wq J J fq)
theorem EY (R:List SP) (a:Nat) (xs:List uO) (yC:Int):yH 160 [vp a 0,vi yC] (z3 ZG a xs::R) fun w L=>w= .tuple []∧L=z3 ZG a (xs.filter fun y=>decide (y.yC≠yC)||y.iP)::R:=by
 refine SW.intro rfl Tryz.func160 rfl ?_
 refine O0 2 J (yu rfl rfl rfl rfl fun i3=> ?_)
 refine Z 4 J (zd (M:=z3 ZG a xs::z3 zC i3 (vi yC).cells::R) Y ?_)
 refine Z0 (oF [z3 zC i3 [vi yC]] R a xs (fun y=>decide (y.yC≠yC)||y.iP) 205 [] [vp i3 0] (fun x R2=>Kb R2 i3 x yC)) J ?_
 dsimp only [List.cons_append,List.nil_append]
 exact Z 1 J (wq J J fq)
theorem KZ (R:List SP) (a:Nat) (xs:List uO):yH 114 [vp a 0] (z3 ZG a xs::R) fun w L=>w= .tuple []∧L=z3 ZG a []::R:=by
 refine ze (QM a xs) fun v hx=> ?_
 dsimp only [Ae,List.cons_append,List.nil_append]
 refine SW.intro rfl Tryz.func114 rfl ?_
 refine O0 3 J (fa J Y (sO J Y J J J (Z 1 J (wq J J (⟨_,⟨rfl,rfl⟩,(Sub.jF (α:=uO) (en:=gZ) (es:=6) (fun _=>rfl) (by decide) 0 _).trans ?_⟩)))))
 exact Sub.qi (vV (by show 0≤8;omega)) Y
theorem OR (R:List SP):yH 156 [] (R) fun w L=> ∃a,w=vp a 0∧L=z3 ZG a []::R:=by
 refine SW.intro rfl Tryz.func156 rfl ?_
 refine O0 6 J (bu [_] J Y Y J (yu rfl rfl rfl rfl fun i2=> ?_))
 refine Z 3 J (zI J J J (⟨_,⟨i2,rfl,rfl⟩,(Sub.jF (α:=uO) (en:=gZ) (es:=6) (fun _=>rfl) (by decide) 0 _).trans ?_⟩))
 exact Sub.qi (vV (by show 0≤8;omega)) Y
theorem nF (R:List SP) (a:Nat) (xs:List uO) (x:uO):yH 231 [vp a 0,.agg (gZ x)] (z3 ZG a xs::R) fun w L=>w= .tuple []∧L=z3 ZG a (YG xs x)::R:=by
 refine yl (Ke a xs) fun Wr=> ?_
 refine SW.intro rfl Tryz.func231 rfl ?_
 refine O0 2 J (yu rfl rfl rfl rfl fun i3=> ?_)
 refine Z 4 J (fa J Y (ld J Y J (fa J Y (ld J Y J (Z1 (OQ _ _ _ _ _) J Y ?_)))))
 have XO:=List.length_filter_le (fun y:uO=> !y.of x.yC x.z4) xs
 refine wj (QM a (xs.filter fun y=> !y.of x.yC x.z4)) fun v hx=> ?_
 dsimp only [Ae,List.cons_append,List.nil_append]
 refine yW (v:=v) fun a1 c1 e1 PC NW=> ?_
 subst PC
 refine Z 2 J (zW [0,0,2,6,14,0,32,126,255,511,1023] [([0,1,2,3,4,5,6],[4,5],some 7),([8,9],[],some 10),([],[],none)] (by kernel_rfl) ?_)
 refine z7 (ZK 3 J (zx J Y (q9 J Y J (kv J Y Y J J (uy (cs:= [_,_,_,_,_,_]) rfl rfl rfl (by decide) rfl fun i16=> ?_)))))
 refine z8 ⟨(va rfl (fun _ h=>WH rfl rfl rfl h) rfl rfl (mN fun h=>(NW h).2) (Wm J Y Y J J J (z6 _ rfl) z9)),?_⟩
 refine ZQ rfl rfl rfl rfl rfl rfl rfl ([x]) rfl rfl (by simp) (by show _+1≤_;omega) rfl fun i17 q17 c17=> ?_
 refine zJ (z7 (ZK 1 J (zx J Y (z8 ⟨z9,?_⟩))))
 refine sO J Y J J J (zJ (z7 (z8 ⟨z9,?_⟩)))
 refine OX 4 J (fa J Y (ld J Y J (qJ rfl (fun _ h=>yI rfl rfl rfl rfl rfl h) ?_)))
 have hl:((xs.filter fun y=> !y.of x.yC x.z4)++ [x]).length=(xs.filter fun y=> !y.of x.yC x.z4).length+1:=by rw [List.length_append];rfl
 have hl2: [x].length=1:=rfl
 refine Z 1 J (z5 (fun QN=> ?_) (fun QN=> ?_))
 ·refine Z 6 J (fa J Y (ld J Y J (eV rfl rfl rfl rfl (by omega) (by omega) fun w31=> ?_)))
  refine yW (v:=w31) fun a2 c2 e2 Sk _=> ?_
  subst Sk
  refine Z 1 J (fa J Y (sO J Y J J J (Z 1 J (wq J J ?_))))
  have e:YG xs x=((xs.filter fun y=> !y.of x.yC x.z4)++ [x]).drop 1:=if_pos (by omega)
  have hle:=m7 Wr x
  rw [e]at hle ⊢
  exact⟨_,⟨rfl,rfl⟩,Sub.qi (vV hle) Y⟩
 refine Z 3 J (wq J J ?_)
 have e:YG xs x=(xs.filter fun y=> !y.of x.yC x.z4)++ [x]:=if_neg (by omega)
 have hle:=m7 Wr x
 rw [e]at hle ⊢
 exact⟨_,⟨rfl,rfl⟩,Sub.qi (vV hle) Y⟩
theorem Ai {f:Nat→z0} {k:Nat} {v w:z0} :upd (upd f k v) k w=upd f k w:=by
 funext j;unfold upd;split<;>rfl
theorem GR {f:Nat→z0} {k:Nat} {v:z0} :upd f k v k=v:=if_pos rfl
structure ub where
 n:Nat
 ways:Nat
 ls:Nat→List Int
def ub.Ok (S:ub):Prop:=1≤S.n∧S.n≤8∧S.ways≤4∧ ∀s,(S.ls s).length≤S.ways
abbrev q8 (x:z0×List Int):SP:=z3 (zX ye 1) x.1 x.2
abbrev EJ (a:Nat) (S:ub) (b:Nat) (vs:Nat→z0):List SP:= [z3 zC a [.slice (some (b,0)) S.n (some S.n) 1,vi S.ways],z3 zO b (S.n,vs),z3 (zL q8) b (List.range S.n,fun s=>(vs s,S.ls s))]
def uC (a:Nat) (S:ub):SP:=fun h=> ∃y:Nat×(Nat→z0),S.Ok∧Sat (EJ a S y.1 y.2) h
theorem JG (a:Nat) (S:ub): ∀h,uC a S h→ ∃y:Nat×(Nat→z0),S.Ok∧Sat (EJ a S y.1 y.2) h:=fun _ h=>h
theorem o6 (a:Nat) (S:ub): ∀h,uC a S h→S.Ok:=fun _ ⟨_,h,_⟩=>h
theorem Qy {a b:Nat} {S:ub} {vs:Nat→z0} (hS:S.Ok): ∀h,Sat [z3 zC a [.slice (some (b,0)) S.n (some S.n) 1,vi S.ways],z3 zO b (S.n,vs),z3 (zL q8) b (List.range S.n,fun s=>(vs s,S.ls s))] h→uC a S h:=fun _ x=>⟨(b,vs),hS,x⟩
def ub.at (S:ub) (line:Int):Nat:=(line%(S.n:Int)).toNat
theorem ub.BO {S:ub} (h:S.Ok) (line:Int):S.at line<S.n:=by
 have h1:=h.1
 have:=Int.emod_lt_of_pos line (show(0:Int)<S.n by omega)
 have:=Int.emod_nonneg line (show(S.n:Int)≠0 by omega)
 unfold ub.at;omega
def ub.has (S:ub) (line:Int):Bool:=decide (0≤line) && (S.ls (S.at line)).any fun x=>decide (x=line)
abbrev ub.set (S:ub) (k:Nat) (l:List Int):ub:= { S with ls:=fun s=>if s=k then l else S.ls s }
def ub.touch (S:ub) (line:Int):ub:=if S.has line then S else
 let l:=S.ls (S.at line)++ [line]
 S.set (S.at line) (if S.ways<l.length then l.drop 1 else l)
def ub.drop (S:ub) (line:Int):ub:=if S.has line then S.set (S.at line) ((S.ls (S.at line)).filter fun x=> !decide (x=line))else S
theorem ub.Ok.set {S:ub} (h:S.Ok) (k:Nat) {l:List Int} (hl:l.length≤S.ways):(S.set k l).Ok:=⟨h.1,h.2.1,h.2.2.1,fun s=>by
 show(if s=k then l else S.ls s).length≤_
 split
 ·exact hl
 exact h.2.2.2 s⟩
theorem ub.Ok.touch {S:ub} (h:S.Ok) (line:Int):(S.touch line).Ok:=by
 unfold ub.touch
 split
 ·exact h
 have:=h.2.2.2 (S.at line)
 have hl:(S.ls (S.at line)++ [line]).length=(S.ls (S.at line)).length+1:=by rw [List.length_append];rfl
 refine h.set _ ?_
 split
 ·rw [List.length_drop];omega
 omega
theorem ub.Ok.drop {S:ub} (h:S.Ok) (line:Int):(S.drop line).Ok:=by
 unfold ub.drop
 split
 ·have:=h.2.2.2 (S.at line)
  have:=List.length_filter_le (fun x=> !decide (x=line)) (S.ls (S.at line))
  exact h.set _ (by omega)
 exact h
theorem ub.oG (S:ub) (line:Int):(S.touch line).n=S.n:=by unfold ub.touch;split<;>rfl
theorem ub.UE (S:ub) (line:Int):(S.drop line).n=S.n:=by unfold ub.drop;split<;>rfl
theorem EH {b:Nat} {S:ub} {vs:Nat→z0} {k:Nat} {v:z0} {l:List Int} {R:List SP} (hk:k<S.n):Sub (z3 (zX ye 1) v l::z3 (zL q8) b ((List.range S.n).erase k,fun s=>(vs s,S.ls s))::R) (z3 (zL q8) b (List.range (S.set k l).n,fun s=>(upd vs k v s,(S.set k l).ls s))::R):=by
 have:=jJ (K:=q8) (b:=b) (f:=fun s=>(vs s,S.ls s)) (g:=fun s=>(upd vs k v s,(S.set k l).ls s)) (R:=R) (wJ hk) List.nodup_range (fun j _ hj=>by
  show(upd vs k v j,if j=k then l else S.ls j)=_
  unfold upd;rw [if_neg hj,if_neg hj])
 have e:(upd vs k v k,(S.set k l).ls k)=(v,l):=by
  show(upd vs k v k,if k=k then l else S.ls k)=_
  unfold upd;rw [if_pos rfl,if_pos rfl]
 have e1:q8 (upd vs k v k,(S.set k l).ls k)=z3 (zX ye 1) v l:=by rw [e]
 rw [←e1];exact this
theorem bn {a b:Nat} {S:ub} {vs:Nat→z0} {k:Nat} {v:z0} {l:List Int} {R:List SP} (hS:S.Ok) (hk:k<S.n) (hl:l.length≤S.ways):
 Sub (z3 (zX ye 1) v l::z3 (zL q8) b ((List.range S.n).erase k,fun s=>(vs s,S.ls s))::z3 zO b (S.n,upd vs k v)::z3 zC a [.slice (some (b,0)) S.n (some S.n) 1,vi S.ways]::R) (z3 uC a (S.set k l)::R):=
 (EH (v:=v) (l:=l) hk).trans ((show Sub _ (z3 zC a [.slice (some (b,0)) (S.set k l).n (some (S.set k l).n) 1,vi (S.set k l).ways]::z3 zO b ((S.set k l).n,upd vs k v)::z3 (zL q8) b (List.range (S.set k l).n,fun s=>(upd vs k v s,(S.set k l).ls s))::R)from Y).trans (Sub.nd (Qy (hS.set k hl)) Y))
theorem rq (b:Nat) (R:List SP): ∀n,Sub R (z3 (zL q8) b (List.range n,fun _=>(.slice none 0 (some 0) 0,[]))::R)
 |0=>QL
 |n+1=>((rq b R n).trans (Sub.jF (α:=Int) (en:=ye) (es:=1) (fun _=>rfl) (by decide) 0 _)).trans (Zn (K:=q8) (g:=fun _=>(.slice none 0 (some 0) 0,[])) fun _ _=>rfl)
theorem xV (R:List SP) (n w:Nat) (hn:1≤n∧n≤8) (hw:w≤4):yH 105 [vi n,vi w] (R) fun v L=> ∃a,v=vp a 0∧L=z3 uC a ⟨n,w,fun _=> []⟩::R:=by
 refine SW.intro rfl Tryz.func105 rfl ?_
 refine O0 7 J (bL (n:=n) (.slice none 0 (some 0) 0) (by simp [z0.cells]) rfl rfl rfl rfl (by omega) (by omega) (by omega) fun i6=> ?_)
 refine Z 1 J (bu [_,_] J Y Y J (yu rfl rfl rfl rfl fun i9=> ?_))
 refine Z 3 J (zI J J J (⟨_,⟨i9,rfl,rfl⟩,?_⟩))
 rw [Nat.mul_one]
 refine(rq i6 _ n).trans ?_
 exact Sub.nd (Qy (S:=⟨n,w,fun _=> []⟩) (vs:=fun _=> .slice none 0 (some 0) 0) ⟨hn.1,hn.2,hw,fun _=>Nat.zero_le _⟩) Y
theorem cA (R:List SP) (a b:Nat) (S:ub) (hS:S.Ok) (line:Int) (hl:0≤line):yH 143 [vp a 0,vi line] (z3 zC a [.slice (some (b,0)) S.n (some S.n) 1,vi S.ways]::R) fun v L=>v=vp b (S.at line)∧L=z3 zC a [.slice (some (b,0)) S.n (some S.n) 1,vi S.ways]::R:=by
 have h1:=hS.1
 have h2:=hS.2.1
 have uE:=Int.emod_lt_of_pos line (show(0:Int)<S.n by omega)
 have S5:=Int.emod_nonneg line (show(S.n:Int)≠0 by omega)
 refine SW.intro rfl Tryz.func143 rfl ?_
 refine O0 5 J (zW [0,1,3,7,0,0,32,96,224,480,1008,2047,4095] [([0,1,2,3,4,5,6,7,8,9,10,11,12],[3,8,9,10],none)] (by kernel_rfl) ?_)
 refine z7 (ZK 2 J (zx J Y (q9 J Y J (ZK 3 J (zx J Y (q9 J Y J (uc rfl (fun _=>vD rfl rfl rfl rfl rfl) ?_)))))))
 refine uc rfl (fun _=>zG rfl rfl rfl (nv (by omega) (by omega))) ?_
 refine uc rfl (fun _=>ja rfl rfl rfl (by omega) (by omega)) ?_
 refine ZK 1 J (z8 ⟨(yN J Y J J J (yN J Y J J J (uR rfl (fun _=>vD rfl rfl rfl rfl rfl) rfl rfl (z6 _ rfl) (uR rfl (fun _=>zG rfl rfl rfl (nv (by omega) (by omega))) rfl rfl (z6 _ rfl) z9)))),?_⟩)
 exact OX 1 J (zI J J J fq)
theorem lx (R:List SP) (a:Nat) (S:ub) (line:Int):yH 142 [vp a 0,vi line] (z3 uC a S::R) fun v L=>v= .bool (S.has line)∧L=z3 uC a S::R:=by
 refine ze (JG a S) fun y hS=> ?_
 obtain⟨b,vs⟩:=y
 dsimp only [EJ,List.cons_append,List.nil_append]
 have h1:=hS.1
 have h2:=hS.2.1
 have uE:=S.BO hS line
 have hle:=hS.2.2.2 (S.at line)
 have hw:=hS.2.2.1
 refine SW.intro rfl Tryz.func142 rfl ?_
 refine O0 8 J (z5 (fun h6=> ?_) (fun h6=> ?_))
 ·refine Z 3 J (Z1 (cA _ _ b S hS _ (by omega)) J Y (Z 1 J (lf J Y rfl (Z 1 J (zd (M:=z3 (zX ye 1) (vs (S.at line)) (S.ls (S.at line))::z3 (zL q8) b ((List.range S.n).erase (S.at line),fun s=>(vs s,S.ls s))::z3 zO b (S.n,vs)::z3 zC a [.slice (some (b,0)) S.n (some S.n) 1,vi S.ways]::R) ((show Sub _ (z3 (zL q8) b (List.range S.n,fun s=>(vs s,S.ls s))::z3 zO b (S.n,vs)::z3 zC a [.slice (some (b,0)) S.n (some S.n) 1,vi S.ways]::R)from Y).trans (vF (wJ uE))) ?_)))))
  refine Z1 (FC _ _ _ (by omega) _) J Y (zd (M:=z3 (zL q8) b (List.range S.n,fun s=>(vs s,S.ls s))::z3 zO b (S.n,vs)::z3 zC a [.slice (some (b,0)) S.n (some S.n) 1,vi S.ways]::R) (jJ (K:=q8) (g:=fun s=>(vs s,S.ls s)) (wJ uE) List.nodup_range fun _ _ _=>rfl) ?_)
  refine Z 4 J (zI J J J (⟨_,⟨congrArg z0.bool ?_,rfl⟩,Sub.nd (Qy hS) Y⟩))
  unfold ub.has
  rw [decide_eq_true h6];rfl
 refine Z 12 J (zI J J J (⟨_,⟨congrArg z0.bool ?_,rfl⟩,Sub.nd (Qy hS) Y⟩))
 unfold ub.has
 rw [decide_eq_false h6];rfl
theorem fQ (R:List SP) (a:Nat) (S:ub) (line:Int) (hl:0≤line):yH 193 [vp a 0,vi line] (z3 uC a S::R) fun v L=>v= .tuple []∧L=z3 uC a (S.touch line)::R:=by
 refine yl (o6 a S) fun hS0=> ?_
 refine SW.intro rfl Tryz.func193 rfl ?_
 refine O0 5 J (Z1 (lx _ _ S _) J Y (zV (fun h7=> ?_) (fun h7=> ?_)))
 ·refine Z 3 J (wq J J ?_)
  have e:S.touch line=S:=if_pos h7
  rw [e]
  exact fq
 refine wj (JG a S) fun y hS=> ?_
 obtain⟨b,vs⟩:=y
 dsimp only [EJ,List.cons_append,List.nil_append]
 have h1:=hS.1
 have h2:=hS.2.1
 have uE:=S.BO hS line
 have hle:=hS.2.2.2 (S.at line)
 have hw:=hS.2.2.1
 refine Z 7 J (Z1 (cA _ _ b S hS _ (by omega)) J Y (Z 7 J (zd (M:=z3 (zX ye 1) (vs (S.at line)) (S.ls (S.at line))::z3 (zL q8) b ((List.range S.n).erase (S.at line),fun s=>(vs s,S.ls s))::z3 zO b (S.n,vs)::z3 zC a [.slice (some (b,0)) S.n (some S.n) 1,vi S.ways]::R) ((show Sub _ (z3 (zL q8) b (List.range S.n,fun s=>(vs s,S.ls s))::z3 zO b (S.n,vs)::z3 zC a [.slice (some (b,0)) S.n (some S.n) 1,vi S.ways]::R)from Y).trans (vF (wJ uE))) ?_)))
 refine lf J Y rfl (Z 1 J (zf (cs:= [_]) rfl rfl rfl (by decide) rfl fun i16=> ?_))
 refine ZQ rfl rfl rfl rfl rfl rfl rfl ([line]) rfl rfl (by simp) (by show _+1≤_;omega) rfl fun i17 q17 c17=> ?_
 refine Z 1 J (sF J Y J J (Z 2 J (zW [0,1,3,7,0,16,48,112,255] [([0,1,2,3,4,5,6,7,8],[2,3,7,8],none)] (by kernel_rfl) ?_)))
 refine z7 (ZK 2 J (YO J Y GR (jM rfl (fun _ h=>yI rfl rfl rfl rfl rfl h) ?_)))
 refine ZK 2 J (zx J Y (q9 J Y J (ZK 1 J (ql (fun aj=> ?_) (fun aj=> ?_)))))
 ·refine z8 ⟨(jP J Y GR J (z6 _ rfl) (va rfl (fun _ h=>yI rfl rfl rfl rfl rfl h) rfl rfl (z6 _ rfl) (yN J Y J J J (gv J J J (by rw [decide_eq_true aj];rfl) z9)))),?_⟩
  refine OX 5 J (lf J Y GR (eV rfl rfl rfl rfl (by omega) (by omega) fun w32=> ?_))
  refine yW (v:=w32) fun Xo Xt Xz Sv _=> ?_
  subst Sv
  refine Z 1 J (sF J Y J J (Z 1 J (wq J J ?_)))
  have LS:((S.ls (S.at line))++ [line]).length=(S.ls (S.at line)).length+1:=by rw [List.length_append];rfl
  have hl2: [line].length=1:=rfl
  have e:S.touch line=S.set (S.at line) (((S.ls (S.at line))++ [line]).drop 1):=(if_neg (by rw [h7];nofun)).trans (congrArg (S.set (S.at line)) (if_pos (by omega)))
  rw [e]
  refine⟨_,⟨rfl,rfl⟩,?_⟩
  rw [Ai]
  have hl3:(([line].length:Nat):Int).toNat=1:=rfl
  exact(show Sub _ _ from Y).trans (bn (b:=b) (vs:=vs) (v:= .slice Xo (((S.ls (S.at line))++ [line]).drop ((1:Int)).toNat).length Xt Xz) (l:=((S.ls (S.at line))++ [line]).drop ((1:Int)).toNat) hS uE (by rw [List.length_drop];omega))
 refine z8 ⟨(jP J Y GR J (z6 _ rfl) (va rfl (fun _ h=>yI rfl rfl rfl rfl rfl h) rfl rfl (z6 _ rfl) (yN J Y J J J (gv J J J (by rw [decide_eq_false aj];rfl) z9)))),?_⟩
 refine OX 2 J (wq J J ?_)
 have LS:((S.ls (S.at line))++ [line]).length=(S.ls (S.at line)).length+1:=by rw [List.length_append];rfl
 have hl2: [line].length=1:=rfl
 have e:S.touch line=S.set (S.at line) ((S.ls (S.at line))++ [line]):=(if_neg (by rw [h7];nofun)).trans (congrArg (S.set (S.at line)) (if_neg (by omega)))
 rw [e]
 refine⟨_,⟨rfl,rfl⟩,?_⟩
 exact(show Sub _ _ from Y).trans (bn (b:=b) (vs:=vs) (v:= .slice (some (i17,q17)) ((S.ls (S.at line)).length+1) c17 1) (l:=(S.ls (S.at line))++ [line]) hS uE (by omega))
theorem Bi (R:List SP) (i:Nat) (x line:Int):yH 146 [vi x,vp i 0] (z3 zC i [vi line]::R) fun w L=>w= .bool (decide (x=line))∧L=z3 zC i [vi line]::R:=by
 refine SW.intro rfl Tryz.func146 rfl ?_
 exact O0 7 J (ld J Y J (Z 4 J (zI J J J fq)))
theorem mW (R:List SP) (a:Nat) (S:ub) (line:Int):yH 93 [vp a 0,vi line] (z3 uC a S::R) fun v L=>v= .bool (S.has line)∧L=z3 uC a (S.drop line)::R:=by
 refine yl (o6 a S) fun hS0=> ?_
 refine SW.intro rfl Tryz.func93 rfl ?_
 refine O0 2 J (yu rfl rfl rfl rfl fun i3=> ?_)
 refine Z 6 J (ld J Y J (Z1 (lx _ _ S _) J Y (zV (fun h8=> ?_) (fun h8=> ?_))))
 ·have hl:0≤line:=by { unfold ub.has at h8;by_cases h:0≤line;exact h;rw [decide_eq_false h]at h8;cases h8 }
  refine wj (JG a S) fun y hS=> ?_
  obtain⟨b,vs⟩:=y
  dsimp only [EJ,List.cons_append,List.nil_append]
  have h1:=hS.1
  have h2:=hS.2.1
  have uE:=S.BO hS line
  have hle:=hS.2.2.2 (S.at line)
  have hw:=hS.2.2.1
  refine Z 7 J (ld J Y J (Z1 (cA _ _ b S hS _ (by omega)) J Y (Z 7 J (lf J Y rfl (zd (M:=z3 (zX ye 1) (vs (S.at line)) (S.ls (S.at line))::z3 (zL q8) b ((List.range S.n).erase (S.at line),fun s=>(vs s,S.ls s))::z3 zO b (S.n,vs)::z3 zC a [.slice (some (b,0)) S.n (some S.n) 1,vi S.ways]::z3 zC i3 (vi line).cells::R) ((show Sub _ (z3 (zL q8) b (List.range S.n,fun s=>(vs s,S.ls s))::z3 zO b (S.n,vs)::z3 zC a [.slice (some (b,0)) S.n (some S.n) 1,vi S.ways]::z3 zC i3 (vi line).cells::R)from Y).trans (vF (wJ uE))) ?_)))))
  refine yY (F9 _ _ _ (by omega)) rfl (fun _=>rfl) ?_
  rintro u17 _ rfl
  refine Z 1 J (zd (M:=z3 (zX ye 1) u17 (S.ls (S.at line))::z3 zC i3 (vi line).cells::z3 (zX ye 1) (vs (S.at line)) (S.ls (S.at line))::z3 (zL q8) b ((List.range S.n).erase (S.at line),fun s=>(vs s,S.ls s))::z3 zO b (S.n,vs)::z3 zC a [.slice (some (b,0)) S.n (some S.n) 1,vi S.ways]::R) Y ?_)
  refine qZ (FD [z3 zC i3 [vi line]] _ u17 (S.ls (S.at line)) (by omega) (fun x=>decide (x=line)) 146 [] [vp i3 0] (fun x _ R2=>Bi R2 i3 x line)) rfl (fun _=>rfl) ?_
  rintro u19 _ rfl
  dsimp only [List.cons_append,List.nil_append]
  refine yW (v:=u19) fun Xn Xs Xy Sm _=> ?_
  subst Sm
  refine Z 1 J (sF J Y J J (Z 6 J (zI J J J ?_)))
  have e:S.drop line=S.set (S.at line) ((S.ls (S.at line)).filter fun x=> !decide (x=line)):=if_pos h8
  rw [e,h8]
  have hl3:=List.length_filter_le (fun x=> !decide (x=line)) (S.ls (S.at line))
  refine⟨_,⟨rfl,rfl⟩,?_⟩
  exact(show Sub _ _ from Y).trans (bn (b:=b) (vs:=vs) (v:= .slice Xn ((S.ls (S.at line)).filter fun x=> !decide (x=line)).length Xs Xy) (l:=(S.ls (S.at line)).filter fun x=> !decide (x=line)) hS uE (by omega))
 refine Z 8 J (zI J J J ?_)
 have e:S.drop line=S:=if_neg (by rw [h8];nofun)
 rw [e,h8]
 exact fq
structure yF where
 n:Nat
 first:Nat→ub
 all:ub
def yF.Ok (C:yF):Prop:=1≤C.n∧C.n≤2∧(∀i,(C.first i).n=4∧(C.first i).ways=2)∧C.all.n=8∧C.all.ways=4
abbrev j3 (p:Nat):List z0:= [vp p 0]
abbrev JE (x:Nat×ub):SP:=z3 uC x.1 x.2
abbrev oh (a:Nat) (C:yF) (v:z0) (ps:Nat→Nat) (d:Nat):List SP:= [z3 zC a [v,vp d 0],z3 (zX j3 1) v ((List.range C.n).map ps),z3 (zL JE) a (List.range C.n,fun i=>(ps i,C.first i)),z3 uC d C.all]
def qj (a:Nat) (C:yF):SP:=fun h=> ∃y:z0×(Nat→Nat)×Nat,C.Ok∧Sat (oh a C y.1 y.2.1 y.2.2) h
theorem VB (a:Nat) (C:yF): ∀h,qj a C h→ ∃y:z0×(Nat→Nat)×Nat,C.Ok∧Sat (oh a C y.1 y.2.1 y.2.2) h:=fun _ h=>h
theorem vv {a d:Nat} {C:yF} {v:z0} {ps:Nat→Nat} (hC:C.Ok): ∀h,Sat [z3 zC a [v,vp d 0],z3 (zX j3 1) v ((List.range C.n).map ps),z3 (zL JE) a (List.range C.n,fun i=>(ps i,C.first i)),z3 uC d C.all] h→qj a C h:=fun _ x=>⟨(v,ps,d),hC,x⟩
theorem gj {α:Type} {n k:Nat} (f:Nat→α) (h:k<n):((List.range n).map f)[k]? =some (f k):=by rw [List.getElem?_map,List.getElem?_range h];rfl
def yF.is (C:yF) (zQ:Int):Bool:=decide (0≤zQ∧zQ<C.n)
abbrev yF.put (C:yF) (k:Nat) (s:ub):yF:= { C with first:=fun i=>if i=k then s else C.first i }
def yF.touch (C:yF) (zQ line:Int):Bool×yF:=if C.is zQ && decide (0≤line)then(true,{ C.put zQ.toNat ((C.first zQ.toNat).touch line)with all:=C.all.touch line })else(false,C)
def yF.A2 (C:yF) (zQ line:Int):Bool:=C.is zQ && (C.first zQ.toNat).has line
def yF.W5 (C:yF) (zQ line:Int):Bool×yF:=if C.is zQ then((C.first zQ.toNat).has line,C.put zQ.toNat ((C.first zQ.toNat).drop line))else(false,C)
def yF.gG (C:yF) (line:Int) (c:Nat):yF:= { C with first:=fun i=>if i<c then(C.first i).drop line else C.first i }
def xn (C:yF) (line:Int):Nat→Bool
 |0=>false
 |c+1=>(C.first c).has line||xn C line c
def yF.clear (C:yF) (line:Int):Bool×yF:=(xn C line C.n||C.all.has line,{ C.gG line C.n with all:=C.all.drop line })
theorem ub.oH (S:ub) (line:Int):(S.touch line).ways=S.ways:=by unfold ub.touch;split<;>rfl
theorem ub.cF (S:ub) (line:Int):(S.drop line).ways=S.ways:=by unfold ub.drop;split<;>rfl
theorem yF.Ok.put {C:yF} (h:C.Ok) (k:Nat) {s:ub} (hs:s.n=4∧s.ways=2):(C.put k s).Ok:=⟨h.1,h.2.1,fun i=>by
 show(if i=k then s else C.first i).n=4∧(if i=k then s else C.first i).ways=2
 split
 ·exact hs
 exact h.2.2.1 i,h.2.2.2⟩
theorem yF.Ok.all {C:yF} (h:C.Ok) {s:ub} (hs:s.n=8∧s.ways=4):({ C with all:=s } :yF).Ok:=⟨h.1,h.2.1,h.2.2.1,hs⟩
theorem yF.Ok.gG {C:yF} (h:C.Ok) (line:Int) (c:Nat):(C.gG line c).Ok:=⟨h.1,h.2.1,fun i=>by
 show(if i<c then(C.first i).drop line else C.first i).n=4∧(if i<c then(C.first i).drop line else C.first i).ways=2
 split
 ·rw [ub.UE,ub.cF];exact h.2.2.1 i
 exact h.2.2.1 i,h.2.2.2⟩
theorem yF.fU (C:yF) (line:Int):C.gG line 0=C:=by
 unfold yF.gG
 have:(fun i=>if i<0 then(C.first i).drop line else C.first i)=C.first:=by funext i;rw [if_neg (by omega)]
 rw [this]
theorem xD {a n k:Nat} {ps:Nat→Nat} {F:Nat→ub} {s:ub} {R:List SP} (hk:k<n):Sub (z3 uC (ps k) s::z3 (zL JE) a ((List.range n).erase k,fun i=>(ps i,F i))::R) (z3 (zL JE) a (List.range n,fun i=>(ps i,if i=k then s else F i))::R):=by
 have:=jJ (K:=JE) (b:=a) (f:=fun i=>(ps i,F i)) (g:=fun i=>(ps i,if i=k then s else F i)) (R:=R) (wJ hk) List.nodup_range (fun j _ hj=>by show(ps j,if j=k then s else F j)=_;rw [if_neg hj])
 have e:(if k=k then s else F k)=s:=if_pos rfl
 have e1:JE (ps k,if k=k then s else F k)=z3 uC (ps k) s:=by rw [e]
 rw [←e1];exact this
theorem Bp (R:List SP) (a:Nat) (C:yF) (v x:z0) (ps:Nat→Nat) (zQ:Int) (hC:C.Ok):yH 92 [vp a 0,vi zQ] (z3 zC a [v,x]::z3 (zX j3 1) v ((List.range C.n).map ps)::R) fun w L=>w= .bool (C.is zQ)∧L=z3 zC a [v,x]::z3 (zX j3 1) v ((List.range C.n).map ps)::R:=by
 have hl:((List.range C.n).map ps).length=C.n:=by simp
 refine SW.intro rfl Tryz.func92 rfl ?_
 refine O0 8 J (z5 (fun h6=> ?_) (fun h6=> ?_))
 ·refine Z 4 J (fa J Y (ld J Y J (qJ rfl (fun _ h=>yI rfl rfl rfl rfl rfl h) ?_)))
  refine Z 5 J (zI J J J (⟨_,⟨yT ?_,rfl⟩,Y⟩))
  simp;omega
 refine Z 12 J (zI J J J (⟨_,⟨yT ?_,rfl⟩,Y⟩))
 simp;omega
theorem Fx (R:List SP) (a:Nat) (C:yF) (zQ line:Int):yH 149 [vp a 0,vi zQ,vi line] (z3 qj a C::R) fun w L=>w= .bool (C.A2 zQ line)∧L=z3 qj a C::R:=by
 refine ze (VB a C) fun y hC=> ?_
 obtain⟨v,ps,d⟩:=y
 dsimp only [oh,List.cons_append,List.nil_append]
 have h1:=hC.1
 have h2:=hC.2.1
 have hl:((List.range C.n).map ps).length=C.n:=by simp
 refine SW.intro rfl Tryz.func149 rfl ?_
 refine O0 8 J (Z2 (Bp _ _ C _ _ ps _ hC) J Y Y (zV (fun h9=> ?_) (fun h9=> ?_)))
 ·have hi:0≤zQ∧zQ<C.n:=of_decide_eq_true h9
  have hk:zQ.toNat<C.n:=by omega
  have hx:=gj ps hk
  have hs:=hC.2.2.1 zQ.toNat
  refine Z 3 J (fa J Y (ld J Y J (Z 1 J (qJ rfl (fun _ h=>yg rfl rfl rfl (by omega) (by omega) h) ?_))))
  refine lE 0 J Y J hx J (Z 1 J (zd (M:=z3 uC (ps zQ.toNat) (C.first zQ.toNat)::z3 (zL JE) a ((List.range C.n).erase zQ.toNat,fun i=>(ps i,C.first i))::z3 zC a [v,vp d 0]::z3 (zX j3 1) v ((List.range C.n).map ps)::z3 uC d C.all::R) ((show Sub _ (z3 (zL JE) a (List.range C.n,fun i=>(ps i,C.first i))::z3 zC a [v,vp d 0]::z3 (zX j3 1) v ((List.range C.n).map ps)::z3 uC d C.all::R)from Y).trans (vF (wJ hk))) ?_))
  refine Z1 (lx _ _ (C.first zQ.toNat) _) J Y (zd (M:=z3 (zL JE) a (List.range C.n,fun i=>(ps i,C.first i))::z3 zC a [v,vp d 0]::z3 (zX j3 1) v ((List.range C.n).map ps)::z3 uC d C.all::R) (jJ (K:=JE) (g:=fun i=>(ps i,C.first i)) (wJ hk) List.nodup_range fun _ _ _=>rfl) ?_)
  refine Z 4 J (zI J J J (⟨_,⟨congrArg z0.bool ?_,rfl⟩,Sub.I8 (vv hC) Y⟩))
  unfold yF.A2
  rw [h9];rfl
 refine Z 14 J (zI J J J (⟨_,⟨congrArg z0.bool ?_,rfl⟩,Sub.I8 (vv hC) Y⟩))
 unfold yF.A2
 rw [h9];rfl
theorem Bl (R:List SP) (a:Nat) (C:yF) (zQ line:Int):yH 55 [vp a 0,vi zQ,vi line] (z3 qj a C::R) fun w L=>w= .bool (C.W5 zQ line).1∧L=z3 qj a (C.W5 zQ line).2::R:=by
 refine ze (VB a C) fun y hC=> ?_
 obtain⟨v,ps,d⟩:=y
 dsimp only [oh,List.cons_append,List.nil_append]
 have h1:=hC.1
 have h2:=hC.2.1
 have hl:((List.range C.n).map ps).length=C.n:=by simp
 refine SW.intro rfl Tryz.func55 rfl ?_
 refine O0 8 J (Z2 (Bp _ _ C _ _ ps _ hC) J Y Y (zV (fun h9=> ?_) (fun h9=> ?_)))
 ·have hi:0≤zQ∧zQ<C.n:=of_decide_eq_true h9
  have hk:zQ.toNat<C.n:=by omega
  have hx:=gj ps hk
  have hs:=hC.2.2.1 zQ.toNat
  refine Z 3 J (fa J Y (ld J Y J (Z 1 J (qJ rfl (fun _ h=>yg rfl rfl rfl (by omega) (by omega) h) ?_))))
  refine lE 0 J Y J hx J (Z 1 J (zd (M:=z3 uC (ps zQ.toNat) (C.first zQ.toNat)::z3 (zL JE) a ((List.range C.n).erase zQ.toNat,fun i=>(ps i,C.first i))::z3 zC a [v,vp d 0]::z3 (zX j3 1) v ((List.range C.n).map ps)::z3 uC d C.all::R) ((show Sub _ (z3 (zL JE) a (List.range C.n,fun i=>(ps i,C.first i))::z3 zC a [v,vp d 0]::z3 (zX j3 1) v ((List.range C.n).map ps)::z3 uC d C.all::R)from Y).trans (vF (wJ hk))) ?_))
  refine Z1 (mW _ _ (C.first zQ.toNat) _) J Y (Z 4 J (zI J J J ?_))
  have e:C.W5 zQ line=((C.first zQ.toNat).has line,C.put zQ.toNat ((C.first zQ.toNat).drop line)):=if_pos h9
  rw [e]
  refine⟨_,⟨rfl,rfl⟩,?_⟩
  exact(xD hk).trans (Sub.I8 (vv (C:=C.put zQ.toNat ((C.first zQ.toNat).drop line)) (hC.put _ (by rw [ub.UE,ub.cF];exact hs))) Y)
 refine Z 14 J (zI J J J ?_)
 have e:C.W5 zQ line=(false,C):=if_neg (by rw [h9];nofun)
 rw [e]
 exact⟨_,⟨rfl,rfl⟩,Sub.I8 (vv hC) Y⟩
theorem gn (R:List SP) (a:Nat) (C:yF) (zQ line:Int):yH 138 [vp a 0,vi zQ,vi line] (z3 qj a C::R) fun w L=>w= .bool (C.touch zQ line).1∧L=z3 qj a (C.touch zQ line).2::R:=by
 refine ze (VB a C) fun y hC=> ?_
 obtain⟨v,ps,d⟩:=y
 dsimp only [oh,List.cons_append,List.nil_append]
 have h1:=hC.1
 have h2:=hC.2.1
 have hl:((List.range C.n).map ps).length=C.n:=by simp
 refine SW.intro rfl Tryz.func138 rfl ?_
 refine O0 9 J (Z2 (Bp _ _ C _ _ ps _ hC) J Y Y (zV (fun h9=> ?_) (fun h9=> ?_)))
 ·have hi:0≤zQ∧zQ<C.n:=of_decide_eq_true h9
  have hk:zQ.toNat<C.n:=by omega
  have hx:=gj ps hk
  have hs:=hC.2.2.1 zQ.toNat
  refine Z 4 J (z5 (fun ai=> ?_) (fun ai=> ?_))
  ·refine Z 8 J (zI J J J ?_)
   have e:C.touch zQ line=(false,C):=if_neg (by rw [h9,decide_eq_false (show¬0≤line by omega)];nofun)
   rw [e]
   exact⟨_,⟨rfl,rfl⟩,Sub.I8 (vv hC) Y⟩
  refine Z 8 J (fa J Y (ld J Y J (Z 1 J (qJ rfl (fun _ h=>yg rfl rfl rfl (by omega) (by omega) h) ?_))))
  refine lE 0 J Y J hx J (Z 1 J (zd (M:=z3 uC (ps zQ.toNat) (C.first zQ.toNat)::z3 (zL JE) a ((List.range C.n).erase zQ.toNat,fun i=>(ps i,C.first i))::z3 zC a [v,vp d 0]::z3 (zX j3 1) v ((List.range C.n).map ps)::z3 uC d C.all::R) ((show Sub _ (z3 (zL JE) a (List.range C.n,fun i=>(ps i,C.first i))::z3 zC a [v,vp d 0]::z3 (zX j3 1) v ((List.range C.n).map ps)::z3 uC d C.all::R)from Y).trans (vF (wJ hk))) ?_))
  refine Z1 (fQ _ _ (C.first zQ.toNat) _ (by omega)) J Y (Z 5 J (fa J Y (ld J Y J (Z 1 J (Z1 (fQ _ _ C.all _ (by omega)) J Y (Z 6 J (zI J J J ?_)))))))
  have e:C.touch zQ line=(true,{ C.put zQ.toNat ((C.first zQ.toNat).touch line)with all:=C.all.touch line }):=if_pos (by rw [h9,decide_eq_true (show 0≤line by omega)];rfl)
  rw [e]
  refine⟨_,⟨rfl,rfl⟩,?_⟩
  refine(show Sub _ (z3 uC (ps zQ.toNat) ((C.first zQ.toNat).touch line)::z3 (zL JE) a ((List.range C.n).erase zQ.toNat,fun i=>(ps i,C.first i))::z3 zC a [v,vp d 0]::z3 (zX j3 1) v ((List.range C.n).map ps)::z3 uC d (C.all.touch line)::R)from Y).trans ((xD hk).trans ?_)
  exact Sub.I8 (vv (C:= { C.put zQ.toNat ((C.first zQ.toNat).touch line)with all:=C.all.touch line }) ((hC.put _ (by rw [ub.oG,ub.oH];exact hs)).all (by rw [ub.oG,ub.oH];exact hC.2.2.2))) Y
 refine Z 12 J (zI J J J ?_)
 have e:C.touch zQ line=(false,C):=if_neg (by rw [h9];nofun)
 rw [e]
 exact⟨_,⟨rfl,rfl⟩,Sub.I8 (vv hC) Y⟩
theorem Dv {n p:Nat} {ps:Nat→Nat} :(List.range (n+1)).map (fun i=>if i=n then p else ps i)=(List.range n).map ps++ [p]:=by
 rw [List.range_succ,List.map_append]
 congr 1
 ·exact List.map_congr_left fun j hj=>if_neg (by have:=List.mem_range.1 hj;omega)
 show [if n=n then p else ps n]= [p];rw [if_pos rfl]
theorem EG {a n p:Nat} {ps:Nat→Nat} {F:Nat→ub} {s:ub} {R:List SP} (hs:F n=s):Sub (z3 uC p s::z3 (zL JE) a (List.range n,fun i=>(ps i,F i))::R) (z3 (zL JE) a (List.range (n+1),fun i=>(if i=n then p else ps i,F i))::R):=by
 have:=Zn (K:=JE) (b:=a) (f:=fun i=>(ps i,F i)) (g:=fun i=>(if i=n then p else ps i,F i)) (n:=n) (R:=R) (fun j hj=>by show(if j=n then p else ps j,F j)=_;rw [if_neg (by omega)])
 have e:(if n=n then p else ps n)=p:=if_pos rfl
 have e1:JE (if n=n then p else ps n,F n)=z3 uC p s:=by rw [e,hs]
 rw [←e1];exact this
theorem yF.JV (C:yF) (line:Int) (c j:Nat):(C.gG line (c+1)).first j=if j=c then(C.first c).drop line else(C.gG line c).first j:=by
 show(if j<c+1 then _ else _)=if j=c then _ else if j<c then _ else _
 by_cases h:j=c
 ·subst h;rw [if_pos (by omega),if_pos rfl]
 rw [if_neg h]
 by_cases h2:j<c
 ·rw [if_pos h2,if_pos (by omega)]
 rw [if_neg h2,if_neg (by omega)]
theorem Bh (R:List SP) (a:Nat) (C:yF) (line:Int):yH 139 [vp a 0,vi line] (z3 qj a C::R) fun w L=>w= .bool (C.clear line).1∧L=z3 qj a (C.clear line).2::R:=by
 refine ze (VB a C) fun y hC=> ?_
 obtain⟨v,ps,d⟩:=y
 dsimp only [oh,List.cons_append,List.nil_append]
 have h1:=hC.1
 have h2:=hC.2.1
 have hl:((List.range C.n).map ps).length=C.n:=by simp
 refine SW.intro rfl Tryz.func139 rfl ?_
 refine O0 8 J (fa J Y (ld J Y J (Z 1 J (Z1 (mW _ _ C.all _) J Y (Z 7 J (fa J Y (ld J Y J (qJ rfl (fun _ h=>yI rfl rfl rfl rfl rfl h) ?_))))))))
 refine qI (congrArg (fun n:Nat=>vi n) hl) ?_
 refine Z 3 J (zy (fun j T L=> ∃(c:Nat),(c≤C.n)∧j=C.n-c∧T.len=2∧Tm.get 0 T=some (vp a 0)∧Tm.get 1 T=some (vi line)∧Tm.get 5 T=some (.bool (xn C line c||C.all.has line))∧Tm.get 17 T=some (v)∧Tm.get 18 T=some (vi (C.n:Nat))∧Tm.get 19 T=some (vi (c:Nat))∧Sub L (z3 (zL JE) a (List.range C.n,fun i=>(ps i,(C.gG line c).first i))::z3 zC a [v,vp d 0]::z3 (zX j3 1) v ((List.range C.n).map ps)::z3 uC d (C.all.drop line)::R)) (C.n) ⟨0,by omega,by omega,rfl,rfl,rfl,rfl,rfl,rfl,rfl,(by rw [C.fU];exact Y)⟩ ?_)
 rintro j T L0 ⟨c,hc,rfl,hl,g0,g1,g5,g17,RK,RL,yU⟩
 obtain⟨tg,rfl⟩:=I4 hl g0 g1 g5 g17 RK RL
 clear hl g0 g1 g5 g17 RK RL
 refine yE yU ?_
 clear yU L0
 refine O0 3 J (z5 (fun Ua=> ?_) (fun Ua=> ?_))
 ·refine Z 8 J (qJ rfl (fun _ h=>yg rfl rfl rfl (by omega) (by omega) h) ?_)
  have hk:c<C.n:=by omega
  have hx:=gj ps hk
  refine lE 0 J Y J hx J (Z 5 J (zd (M:=z3 uC (ps c) (C.first c)::z3 (zL JE) a ((List.range C.n).erase c,fun i=>(ps i,(C.gG line c).first i))::z3 zC a [v,vp d 0]::z3 (zX j3 1) v ((List.range C.n).map ps)::z3 uC d (C.all.drop line)::R) (by { have e:(C.gG line c).first c=C.first c:=if_neg (Nat.lt_irrefl _);have:=vF (K:=JE) (b:=a) (f:=fun i=>(ps i,(C.gG line c).first i)) (R:=z3 zC a [v,vp d 0]::z3 (zX j3 1) v ((List.range C.n).map ps)::z3 uC d (C.all.drop line)::R) (wJ hk);simp only [e]at this;exact this }) ?_))
  refine Z1 (mW _ _ (C.first c) _) J Y (zV (fun QN=> ?_) (fun QN=> ?_))
  ·refine Z 3 J (qI (w:= .bool (xn C line (c+1)||C.all.has line)) (by show _=z0.bool (((C.first c).has line||xn C line c)||C.all.has line);rw [QN];rfl) ?_)
   refine Z 3 J (ad J (Z 2 J ?_))
   exact Or.inl ⟨rfl,_,by omega,c+1,by omega,rfl,rfl,rfl,rfl,rfl,rfl,rfl,rfl,((xD (F:=(C.gG line c).first) (s:=(C.first c).drop line) hk).trans (Sub.one fun f x=>GN (fun j _=>by rw [C.JV]) f x))⟩
  refine Z 3 J (qI (w:= .bool (xn C line (c+1)||C.all.has line)) (by show _=z0.bool (((C.first c).has line||xn C line c)||C.all.has line);rw [QN];rfl) ?_)
  refine Z 3 J (ad J (Z 2 J ?_))
  exact Or.inl ⟨rfl,_,by omega,c+1,by omega,rfl,rfl,rfl,rfl,rfl,rfl,rfl,rfl,((xD (F:=(C.gG line c).first) (s:=(C.first c).drop line) hk).trans (Sub.one fun f x=>GN (fun j _=>by rw [C.JV]) f x))⟩
 refine Z 4 J (Or.inr ⟨nofun,?_⟩)
 refine OX 6 J (zI J J J ?_)
 have Uz:c=C.n:=by omega
 subst Uz
 refine⟨_,⟨rfl,rfl⟩,?_⟩
 refine(show Sub _ (z3 zC a [v,vp d 0]::z3 (zX j3 1) v ((List.range C.n).map ps)::z3 (zL JE) a (List.range C.n,fun i=>(ps i,(C.gG line C.n).first i))::z3 uC d (C.all.drop line)::R)from Y).trans ?_
 exact Sub.I8 (vv (C:= { C.gG line C.n with all:=C.all.drop line }) ((hC.gG line C.n).all (by rw [ub.UE,ub.cF];exact hC.2.2.2))) Y
theorem Mh (R:List SP) (z:Int):yH 63 [vi z] (R) fun w L=> ∃a,w=vp a 0∧L=z3 qj a ⟨(min (max 1 z) 2).toNat,fun _=>⟨4,2,fun _=> []⟩,⟨8,4,fun _=> []⟩⟩::R:=by
 refine SW.intro rfl Tryz.func63 rfl ?_
 refine O0 6 J (qZ (xV _ 8 4 (by omega) (by omega)) rfl (fun _=>rfl) ?_)
 rintro _ _ ⟨n4,rfl,rfl⟩
 refine bu [_,_] J Y Y J (yu rfl rfl rfl rfl fun i6=> ?_)
 refine Z 6 J (zo rfl (fun _=>tp rfl rfl rfl rfl rfl) ?_)
 refine zo rfl (fun _=>tq rfl rfl rfl rfl rfl) ?_
 refine Z 3 J (zy (fun j T L=> ∃(c:Nat) (u:z0) (ps:Nat→Nat),(c≤(min (max 1 z) 2).toNat)∧j=(min (max 1 z) 2).toNat-c∧T.len=2∧Tm.get 3 T=some (vp i6 0)∧Tm.get 9 T=some (vi (min (max 1 z) 2))∧Tm.get 10 T=some (vi (c:Nat))∧Sub L (z3 zC i6 [u,vp n4 0]::z3 (zX j3 1) (u) ((List.range c).map ps)::z3 (zL JE) i6 (List.range c,fun i=>(ps i,⟨4,2,fun _=> []⟩))::z3 uC n4 ⟨8,4,fun _=> []⟩::R)) ((min (max 1 z) 2).toNat) ⟨0,.slice none 0 (some 0) 0,fun _=>0,by omega,by omega,rfl,rfl,rfl,rfl,((Sub.jF (α:=Nat) (en:=j3) (es:=1) (fun _=>rfl) (by decide) 0 _).trans ((QL (K:=JE) (b:=i6) (f:=fun _=>(0,⟨4,2,fun _=> []⟩))).trans (show Sub _ (z3 zC i6 (z0.agg [.slice none 0 (some 0) 0,vp n4 0]).cells::z3 (zX j3 1) (.slice none 0 (some 0) 0) []::z3 (zL JE) i6 ([],fun _=>(0,⟨4,2,fun _=> []⟩))::z3 uC n4 ⟨8,4,fun _=> []⟩::R)from Y)))⟩ ?_)
 rintro j T L0 ⟨c,u,ps,hc,rfl,hl,g3,g9,YL,yU⟩
 obtain⟨tg,rfl⟩:=FV hl g3 g9 YL
 clear hl g3 g9 YL
 refine yE yU ?_
 clear yU L0
 refine WZ (v:=u) fun a0 c0 e0 hv hz=> ?_
 subst hv
 have hl:((List.range c).map ps).length=c:=by simp
 refine O0 3 J (z5 (fun Gq=> ?_) (fun Gq=> ?_))
 ·refine Z 6 J (zW [0,0,2,6,14,0,32,126,255,511,1023] [([0,1,2,3,4],[4],some 5),([6],[4],some 7),([8,9],[],some 10),([],[],none)] (by kernel_rfl) ?_)
  refine z7 (ZK 3 J (zx J Y (q9 J Y J (z8 ⟨(va rfl (fun _ h=>WH rfl rfl rfl h) rfl rfl (mN fun h=>(hz h).2) z9),?_⟩))))
  refine qZ (xV _ 4 2 (by omega) (by omega)) rfl (fun _=>rfl) ?_
  rintro _ _ ⟨Xe,rfl,rfl⟩
  refine zJ (z7 (uy (cs:= [_]) rfl rfl rfl (by decide) rfl fun i18=> ?_))
  refine z8 ⟨(va rfl (fun _ h=>WH rfl rfl rfl h) rfl rfl (mN fun h=>(hz h).2) z9),?_⟩
  refine ZQ rfl rfl rfl rfl rfl rfl rfl ([Xe]) rfl rfl (by simp) (by show _+1≤_;omega) rfl fun i19 q19 Xp=> ?_
  refine zJ (z7 (ZK 1 J (zx J Y (z8 ⟨z9,?_⟩))))
  refine sO J Y J J J (zJ (z7 (z8 ⟨z9,?_⟩)))
  refine OX 1 J (ad J (Z 2 J ?_))
  exact Or.inl ⟨rfl,_,by omega,c+1,.slice (some (i19,q19)) (((List.range c).map ps).length+1) Xp 1,fun i=>if i=c then Xe else ps i,by omega,rfl,rfl,rfl,rfl,rfl,(by rw [Dv (ps:=ps)];exact(show Sub _ (z3 uC Xe ⟨4,2,fun _=> []⟩::z3 (zL JE) i6 (List.range c,fun i=>(ps i,⟨4,2,fun _=> []⟩))::z3 zC i6 [.slice (some (i19,q19)) (((List.range c).map ps).length+1) Xp 1,vp n4 0]::z3 (zX j3 1) (.slice (some (i19,q19)) (((List.range c).map ps).length+1) Xp 1) ((List.range c).map ps++ [Xe])::z3 uC n4 ⟨8,4,fun _=> []⟩::R)from Y).trans ((EG (F:=fun _=>⟨4,2,fun _=> []⟩) rfl).trans Y))⟩
 refine Z 4 J (Or.inr ⟨nofun,?_⟩)
 refine OX 6 J (zI J J J ?_)
 have Uz:c=(min (max 1 z) 2).toNat:=by omega
 subst Uz
 exact⟨_,⟨i6,rfl,rfl⟩,Sub.I8 (vv ⟨by show 1≤(min (max 1 z) 2).toNat;omega,by show(min (max 1 z) 2).toNat≤2;omega,fun _=>⟨rfl,rfl⟩,rfl,rfl⟩) Y⟩
section
variable {P:Program} {F:zD} {H:Hp}
theorem ln {t:TypeId} {c:Bool} {x y:Int} (hx:0≤x∧x≤18446744073709551615) (hy:0<y):vI P F H .quo t c (.int .u64 (.lit x)) (.int .u64 (.lit y))=some (.int .u64 (.lit (x/y))):=by
 have h0:Z9 y 0=false:=by rw [vy];exact decide_eq_false (by omega)
 have e:x.tdiv y=x/y:=Int.tdiv_eq_ediv_of_nonneg hx.1
 have h1:0≤x/y:=Int.ediv_nonneg hx.1 (by omega)
 have h2:x/y≤x:=Int.ediv_le_self y hx.1
 simp [vI,gN,QB,jR,h0,e,SInt.wrap,qR (z:=x/y) (by omega)]
theorem xP {t:TypeId} {c:Bool} {x y:Int} (hx:0≤x) (hy:0<y):vI P F H .rem t c (.int .u64 (.lit x)) (.int .u64 (.lit y))=some (.int .u64 (.lit (x%y))):=by
 have h0:Z9 y 0=false:=by rw [vy];exact decide_eq_false (by omega)
 have e:x.tmod y=x%y:=Int.tmod_eq_emod_of_nonneg hx
 simp [vI,gN,QB,jR,h0,e]
end
structure yS where
 zQ:Int
 root:Int
 yC:Int
 t:Nat
 xs:List uO
def yS.Ok (X:yS):Prop:= ∀x,x ∈ X.xs→0≤x.frame∧x.frame≤64
abbrev A1 (X:yS):List z0:= [vi X.zQ,vi X.root,vi X.yC,vp X.t 0]
abbrev kK (a:Nat) (X:yS) (_:Unit):List SP:= [z3 zC a (A1 X),z3 ZG X.t X.xs]
def uz (a:Nat) (X:yS):SP:=fun h=> ∃y:Unit,X.Ok∧Sat (kK a X y) h
theorem uM (a:Nat) (X:yS): ∀h,uz a X h→ ∃y:Unit,X.Ok∧Sat (kK a X y) h:=fun _ h=>h
theorem VP (a:Nat) (X:yS): ∀h,uz a X h→X.Ok:=fun _ ⟨_,h,_⟩=>h
theorem qF {a:Nat} {X:yS} (hX:X.Ok): ∀h,Sat [z3 zC a (A1 X),z3 ZG X.t X.xs] h→uz a X h:=fun _ x=>⟨(),hX,x⟩
def uO.may (x:uO) (user write:Bool):Bool:=(!user||x.user) && (!write||x.write)
abbrev yS.find (X:yS) (z4:Int):Option uO:=X.xs.find? fun x=>x.of X.yC z4
def yF.Gd (C:yF) (zQ:Int) (ps:List Int):yF:=ps.foldl (fun C z=>(C.touch zQ z).2) C
def yS.tE (X:yS) (user write:Bool) (z4:Int):Bool:=(X.find z4).isSome && ((X.find z4).getD cx).may user write
abbrev jL (M:zF) (X:yS) (user write:Bool) (z4:Int):Int:=if(M.za X.root z4).2=0 then(M.za X.root z4).1.YU user write else(M.za X.root z4).2
abbrev Jv (M:zF) (C:yF) (X:yS) (z4:Int):yF:=C.Gd X.zQ (M.za X.root z4).1.pl
abbrev dB (M:zF) (X:yS) (z4:Int):uO:=⟨X.yC,z4,((M.za X.root z4).1.fr:Nat),(M.za X.root z4).1.w,(M.za X.root z4).1.u,(M.za X.root z4).1.g⟩
def yS.frame (X:yS) (M:zF) (C:yF) (user write:Bool) (z4:Int):(Int×Int)×yS×yF:=
 if X.tE user write z4 then((((X.find z4).getD cx).frame,0),X,C)else
 if jL M X user write z4≠0 then((0,jL M X user write z4),X,Jv M C X z4)else
 ((((M.za X.root z4).1.fr:Nat),0),{ X with xs:=YG X.xs (dB M X z4) },Jv M C X z4)
def yS.trans (X:yS) (M:zF) (C:yF) (user write:Bool) (at_:Nat):(Int×Int)×yS×yF:=
 if 4096≤at_ then((0,3),X,C)else
 let r:=X.frame M C user write ((at_/8:Nat):Int)
 if r.1.2≠0 then((0,r.1.2),r.2)else((8*r.1.1+((at_%8:Nat):Int),0),r.2)
theorem Kl (M:zF) (z4:Nat): ∀k s,s.fr<M.n→(M.walk z4 k s).2=0→(M.walk z4 k s).1.fr<M.n:=by
 intro k
 induction k with
 |zero=>intro s h _;exact h
 |succ k ih=>
  intro s h h2
  rw [JI M z4 k s _ _ rfl rfl]at h2 ⊢
  split
  ·rename_i e
   rw [if_pos e]at h2
   exfalso;simp only at h2;split at h2<;>omega
  rename_i e
  rw [if_neg e]at h2
  split
  ·rename_i e2
   rw [if_pos e2]at h2
   exact ih _ e2 h2
  rename_i e2
  rw [if_neg e2]at h2
  simp at h2
theorem Aj (M:zF) (root z4:Int) (h:(M.za root z4).2=0):(M.za root z4).1.fr<M.n:=by
 unfold zF.za at h ⊢
 split
 ·rename_i e;rw [if_pos e]at h;simp at h
 rename_i e;rw [if_neg e]at h
 split
 ·rename_i e2;rw [if_pos e2]at h
  exact Kl M _ _ _ (by show root.toNat<M.n;omega) h
 rename_i e2;rw [if_neg e2]at h;simp at h
theorem Km (M:zF) (z4:Nat): ∀k s,(M.walk z4 k s).1.pl.length≤s.pl.length+k:=by
 intro k
 induction k with
 |zero=>intro s;exact Nat.le_refl _
 |succ k ih=>
  intro s
  rw [JI M z4 k s _ _ rfl rfl]
  split
  ·show(s.pl++ [_]).length≤_;rw [List.length_append];show s.pl.length+1≤_;omega
  split
  ·have h:=ih ⟨s.pl++ [((8*s.fr+yJ z4 (2-k):Nat):Int)],M.je s.fr (yJ z4 (2-k)),s.w && wB (M.je s.fr (yJ z4 (2-k))),s.u && uB (M.je s.fr (yJ z4 (2-k))),gB (M.je s.fr (yJ z4 (2-k))),fN (M.je s.fr (yJ z4 (2-k)))⟩
   have h2:(s.pl++ [((8*s.fr+yJ z4 (2-k):Nat):Int)]).length=s.pl.length+1:=by rw [List.length_append];rfl
   simp only [h2]at h
   omega
  show(s.pl++ [_]).length≤_;rw [List.length_append];show s.pl.length+1≤_;omega
theorem mC (M:zF) (root z4:Int):(M.za root z4).1.pl.length≤3:=by
 unfold zF.za
 split
 ·exact Nat.zero_le _
 split
 ·have:=Km M z4.toNat 3 ⟨[],0,true,true,false,root.toNat⟩
  simpa using this
 exact Nat.zero_le _
theorem yF.xN {C:yF} {zQ z:Int} {ps:List Int} {q:Nat} (hz:ps[q]? =some z):C.Gd zQ (ps.take (q+1))=((C.Gd zQ (ps.take q)).touch zQ z).2:=qk _ _ _ _ _ hz
theorem yS.Ok.put {X:yS} (h:X.Ok) {x:uO} (hx:0≤x.frame∧x.frame≤64):({ X with xs:=YG X.xs x } :yS).Ok:=by
 intro y hy
 have hy:y ∈ YG X.xs x:=hy
 have:y ∈ (X.xs.filter fun y=> !y.of x.yC x.z4)++ [x]:=by
  unfold YG at hy
  simp only at hy
  split at hy
  ·exact List.mem_of_mem_drop hy
  exact hy
 rcases List.mem_append.1 this with h1|h1
 ·exact h y (List.mem_filter.1 h1).1
 rw [List.mem_singleton.1 h1];exact hx
theorem yS.jx {X:yS} (h:X.Ok) {M:zF} (hM:M.Ok) (C:yF) (user write:Bool) (z4:Int):(X.frame M C user write z4).2.1.Ok∧0≤(X.frame M C user write z4).1.1∧(X.frame M C user write z4).1.1≤64:=by
 unfold yS.frame
 split
 ·rename_i e
  refine⟨h,?_⟩
  unfold yS.tE at e
  cases hf:X.find z4 with
  |none=>rw [hf]at e;cases e
  |some x=>exact h x (List.mem_of_find?_eq_some hf)
 split
 ·exact⟨h,Int.le_refl _,by show(0:Int)≤64;omega⟩
 rename_i e
 have hn:=hM.2.1
 have h0:(M.za X.root z4).2=0:=by
  by_cases h0:(M.za X.root z4).2=0
  ·exact h0
  exfalso;apply e;show jL M X user write z4≠0;unfold jL;rw [if_neg h0];exact h0
 have:=Aj M X.root z4 h0
 exact⟨h.put (by show 0≤(((M.za X.root z4).1.fr:Nat):Int)∧(((M.za X.root z4).1.fr:Nat):Int)≤64;omega),by show 0≤(((M.za X.root z4).1.fr:Nat):Int);omega,by show(((M.za X.root z4).1.fr:Nat):Int)≤64;omega⟩
theorem OU (R:List SP) (z:Int):yH 110 [vi z] (R) fun v L=> ∃a t,v=vp a 0∧L=z3 uz a ⟨z,0,0,t,[]⟩::R:=by
 refine SW.intro rfl Tryz.func110 rfl ?_
 refine O0 7 J (qZ (OR _) rfl (fun _=>rfl) ?_)
 rintro _ _ ⟨n4,rfl,rfl⟩
 refine bu [_,_,_,_] J Y Y J (yu rfl rfl rfl rfl fun i6=> ?_)
 exact Z 3 J (zI J J J ⟨_,⟨i6,n4,rfl,rfl⟩,Sub.qi (qF (X:=⟨z,0,0,n4,[]⟩) (fun x hx=>by cases hx)) Y⟩)
theorem oJ (R:List SP) (a:Nat) (X:yS):yH 36 [vp a 0] (z3 uz a X::R) fun v L=>v=vi X.root∧L=z3 uz a X::R:=by
 refine ze (uM a X) fun y hX=> ?_
 dsimp only [kK,List.cons_append,List.nil_append]
 refine SW.intro rfl Tryz.func36 rfl ?_
 exact O0 8 J (fa J Y (ld J Y J (Z 3 J (zI J J J ⟨_,⟨rfl,rfl⟩,Sub.qi (qF hX) Y⟩))))
theorem oI (R:List SP) (a:Nat) (X:yS):yH 37 [vp a 0] (z3 uz a X::R) fun v L=>v=vi X.yC∧L=z3 uz a X::R:=by
 refine ze (uM a X) fun y hX=> ?_
 dsimp only [kK,List.cons_append,List.nil_append]
 refine SW.intro rfl Tryz.func37 rfl ?_
 exact O0 8 J (fa J Y (ld J Y J (Z 3 J (zI J J J ⟨_,⟨rfl,rfl⟩,Sub.qi (qF hX) Y⟩))))
theorem br (R:List SP) (a:Nat) (X:yS):yH 28 [vp a 0] (z3 uz a X::R) fun v L=>v=vp X.t 0∧L=z3 uz a X::R:=by
 refine ze (uM a X) fun y hX=> ?_
 dsimp only [kK,List.cons_append,List.nil_append]
 refine SW.intro rfl Tryz.func28 rfl ?_
 exact O0 8 J (fa J Y (ld J Y J (Z 3 J (zI J J J ⟨_,⟨rfl,rfl⟩,Sub.qi (qF hX) Y⟩))))
theorem xE (R:List SP) (a:Nat) (X:yS) (root yC:Int):yH 157 [vp a 0,vi root,vi yC,.bool true] (z3 uz a X::R) fun v L=>v= .tuple []∧L=z3 uz a { X with root:=root,yC:=yC } ::R:=by
 refine ze (uM a X) fun y hX=> ?_
 dsimp only [kK,List.cons_append,List.nil_append]
 refine SW.intro rfl Tryz.func157 rfl ?_
 exact O0 7 J (fa J Y (sO J Y J J J (Z 1 J (fa J Y (sO J Y J J J (Z 8 J (wq J J ⟨_,⟨rfl,rfl⟩,Sub.qi (qF (X:= { X with root:=root,yC:=yC }) hX) Y⟩)))))))
theorem aM (R:List SP) (x:uO) (user write:Bool):yH 228 [.agg (gZ x),.bool user,.bool write] (R) fun v L=>v= .bool (x.may user write)∧L=R:=by
 refine SW.intro rfl Tryz.func228 rfl ?_
 refine O0 2 J (yu rfl rfl rfl rfl fun i3=> ?_)
 refine Z 5 J (zV (fun h7=> ?_) (fun h7=> ?_))
 ·refine Z 2 J (fa J Y (ld J Y J (zV (fun Gq=> ?_) (fun Gq=> ?_))))
  ·refine Z 3 J (zV (fun YQ=> ?_) (fun YQ=> ?_))
   ·refine Z 2 J (fa J Y (ld J Y J (Z 5 J (zI J J J (⟨_,⟨congrArg z0.bool ?_,rfl⟩,Y⟩)))))
    unfold uO.may
    simp [h7,Gq,YQ]
   refine Z 9 J (zI J J J (⟨_,⟨congrArg z0.bool ?_,rfl⟩,Y⟩))
   unfold uO.may
   simp [h7,Gq,YQ]
  refine Z 12 J (zI J J J (⟨_,⟨congrArg z0.bool ?_,rfl⟩,Y⟩))
  unfold uO.may
  simp [h7,Gq]
 refine Z 7 J (zV (fun YQ=> ?_) (fun YQ=> ?_))
 ·refine Z 2 J (fa J Y (ld J Y J (Z 5 J (zI J J J (⟨_,⟨congrArg z0.bool ?_,rfl⟩,Y⟩)))))
  unfold uO.may
  simp [h7,YQ]
 refine Z 9 J (zI J J J (⟨_,⟨congrArg z0.bool ?_,rfl⟩,Y⟩))
 unfold uO.may
 simp [h7,YQ]
theorem Eh (R:List SP) (a m c:Nat) (X:yS) (M:zF) (C:yF) (user write:Bool) (z4:Int):yH 189 [vp a 0,vp m 0,vp c 0,.bool user,.bool write,vi z4] (z3 uz a X::z3 zY m M::z3 qj c C::R) fun v L=>v= .tuple [vi (X.frame M C user write z4).1.1,vi (X.frame M C user write z4).1.2]∧L=z3 uz a (X.frame M C user write z4).2.1::z3 zY m M::z3 qj c (X.frame M C user write z4).2.2::R:=by
 refine yl (VP a X) fun hX0=> ?_
 refine yl (qf m M) fun hM=> ?_
 refine ze (uM a X) fun y hX=> ?_
 dsimp only [kK,List.cons_append,List.nil_append]
 refine SW.intro rfl Tryz.func189 rfl ?_
 refine O0 7 J (zW [0,1,3,7,0,16,48,112,0,511,1023,2047,2047,0,12287,32767] [([0,1,2,3,4,5,6,7,8,13],[3,7],some 9),([10,11,12],[],some 14),([15],[],none)] (by kernel_rfl) ?_)
 refine z7 (ZK 2 J (zx J Y (q9 J Y J (ZK 2 J (zx J Y (q9 J Y J (ZK 1 J (kq rfl rfl rfl fun i14=> ?_))))))))
 refine z8 ⟨(yN J Y J J J (yN J Y J J J z9)),?_⟩
 refine Z1 (oE _ _ X.xs X.yC z4) J Y (zJ (z7 (ZK 3 J (jD (fun Vz=> ?_) (fun Vz=> ?_)))))
 ·refine z8 ⟨z9,?_⟩
  refine sN J Y Y J J J (zJ (z7 (ZK 1 J (z8 ⟨z9,?_⟩))))
  refine OX 4 J (lN J Y Y J J (Z 2 J (Z0 (aM _ ((X.xs.find? fun x=>x.of X.yC z4).getD cx) user write) J (zV (fun kf=> ?_) (fun kf=> ?_)))))
  ·refine Z 5 J (fa J Y (ld J Y J (Z 4 J (qt J J J J ?_))))
   have hh:X.tE user write z4=true:=by { unfold yS.tE;rw [Vz,kf];rfl }
   have e:X.frame M C user write z4=((((X.find z4).getD cx).frame,0),X,C):=if_pos hh
   rw [e]
   exact⟨_,⟨rfl,rfl⟩,Sub.qi (qF hX) Y⟩
  refine Z 9 J (fa J Y (ld J Y J (Z 1 J (yY (MC _ _ M X.root z4) rfl (fun _=>rfl) ?_))))
  rintro _ _ ⟨O8,rfl,rfl⟩
  refine yW (v:=O8) fun lk c6 cG SY _=> ?_
  subst SY
  have Ub:=mC M X.root z4
  refine Z 3 J (zn rfl rfl rfl fun i16=> ?_)
  refine sN J Y Y J J J (Z 5 J (fa J Y (ld J Y J (qJ rfl (fun _ h=>yI rfl rfl rfl rfl rfl h) ?_))))
  refine Z 3 J (zy (fun j T L=> ∃(q:Nat),(q≤(M.za X.root z4).1.pl.length)∧j=(M.za X.root z4).1.pl.length-q∧T.len=7∧Tm.get 0 T=some (vp a 0)∧Tm.get 2 T=some (vp c 0)∧Tm.get 3 T=some (.bool user)∧Tm.get 4 T=some (.bool write)∧Tm.get 5 T=some (vi z4)∧Tm.get 13 T=some (vi (M.za X.root z4).2)∧Tm.get 16 T=some (vp i16 0)∧Tm.get 52 T=some ((.slice lk (M.za X.root z4).1.pl.length c6 cG))∧Tm.get 53 T=some (vi ((M.za X.root z4).1.pl.length:Nat))∧Tm.get 54 T=some (vi (q:Nat))∧Sub L (z3 qj c (C.Gd X.zQ ((M.za X.root z4).1.pl.take q))::z3 zC i16 (Lx (.slice lk (M.za X.root z4).1.pl.length c6 cG) (M.za X.root z4).1)::z3 (zX ye 1) (.slice lk (M.za X.root z4).1.pl.length c6 cG) (M.za X.root z4).1.pl::z3 zC a (A1 X)::z3 ZG X.t X.xs::z3 zY m M::R)) ((M.za X.root z4).1.pl.length) ⟨0,by omega,by omega,rfl,rfl,rfl,rfl,rfl,rfl,rfl,rfl,rfl,rfl,rfl,(by rw [List.take_zero];exact(show Sub _ (z3 qj c C::z3 zC i16 (Lx (.slice lk (M.za X.root z4).1.pl.length c6 cG) (M.za X.root z4).1)::z3 (zX ye 1) (.slice lk (M.za X.root z4).1.pl.length c6 cG) (M.za X.root z4).1.pl::z3 zC a (A1 X)::z3 ZG X.t X.xs::z3 zY m M::R)from Y))⟩ ?_)
  rintro j T L0 ⟨q,hq,rfl,hl,g0,g2,g3,g4,g5,mv,RJ,LF,RX,LG,yU⟩
  obtain⟨tg,rfl⟩:=Ni hl g0 g2 g3 g4 g5 mv RJ LF RX LG
  clear hl g0 g2 g3 g4 g5 mv RJ LF RX LG
  refine yE yU ?_
  clear yU L0
  refine O0 3 J (z5 (fun Ay=> ?_) (fun Ay=> ?_))
  ·refine Z 8 J ?_
   obtain⟨z,hz⟩: ∃z,(M.za X.root z4).1.pl[q]? =some z:=⟨(M.za X.root z4).1.pl[q]'(by omega),List.getElem?_eq_getElem (by omega)⟩
   refine qJ rfl (fun _ h=>yg rfl rfl rfl (by omega) (by omega) h) ?_
   refine lE 0 J Y J hz J (Z 6 J (fa J Y (ld J Y J (Z 1 J (Z1 (gn _ _ (C.Gd X.zQ ((M.za X.root z4).1.pl.take q)) _ _) J Y (Z 2 J (ad J (Z 2 J ?_))))))))
   exact Or.inl ⟨rfl,_,by omega,q+1,by omega,rfl,rfl,rfl,rfl,rfl,rfl,rfl,rfl,rfl,rfl,rfl,rfl,(by rw [yF.xN hz];exact Y)⟩
  refine Z 4 J (Or.inr ⟨nofun,?_⟩)
  refine OX 5 J (z5 (fun dm=> ?_) (fun dm=> ?_))
  ·refine Z 3 J (lN J Y Y J J (Z 2 J (Z0 (lJ _ _ (M.za X.root z4).1 user write) J (Z 7 J (z5 (fun dn=> ?_) (fun dn=> ?_))))))
   ·refine Z 9 J (qt J J J J ?_)
    have hh: ¬X.tE user write z4=true:=by { unfold yS.tE;rw [Vz,kf];nofun }
    have hk:=(yS.jx hX hM C user write z4).1
    have cl:q=(M.za X.root z4).1.pl.length:=by omega
    subst cl
    rw [List.take_length]
    have hw:jL M X user write z4=(M.za X.root z4).1.YU user write:=if_pos dm
    have e:X.frame M C user write z4=((0,jL M X user write z4),X,Jv M C X z4):=(if_neg hh).trans (if_pos (by rw [hw];exact dn))
    rw [e,hw]
    exact⟨_,⟨rfl,rfl⟩,Sub.qi (qF hX) Y⟩
   refine Z 4 J (zW [0,1,3,7,0,16,48,112,0,0,512,0,2048,0,8192,0,32768,131056,262143] [([0,1,2,3,4,5,6,7,8,9,10,11,12,13,14,15,16,17],[3,7,10,12,14,16],some 18),([],[],none)] (by kernel_rfl) ?_)
   refine z7 (ZK 2 J (zx J Y (q9 J Y J (ZK 2 J (zx J Y (q9 J Y J (ZK 1 J (zx J Y (q9 J Y J (zx J Y (q9 J Y J (zx J Y (q9 J Y J (zx J Y (q9 J Y J (cz [_,_,_,_,_,_] J Y Y J (z8 ⟨(yN J Y J J J (yN J Y J J J (yN J Y J J J (yN J Y J J J (yN J Y J J J (yN J Y J J J z9)))))),?_⟩)))))))))))))))))
   refine Z1 (nF _ _ X.xs (dB M X z4)) J Y (zJ (z7 (z8 ⟨z9,?_⟩)))
   refine OX 2 J (fa J Y (ld J Y J (Z 4 J (qt J J J J ?_))))
   have hh: ¬X.tE user write z4=true:=by { unfold yS.tE;rw [Vz,kf];nofun }
   have hk:=(yS.jx hX hM C user write z4).1
   have cl:q=(M.za X.root z4).1.pl.length:=by omega
   subst cl
   rw [List.take_length]
   have hw:jL M X user write z4=(M.za X.root z4).1.YU user write:=if_pos dm
   have e:X.frame M C user write z4=(((((M.za X.root z4).1.fr:Nat):Int),(0:Int)),({ X with xs:=YG X.xs (dB M X z4) } :yS),Jv M C X z4):=(if_neg hh).trans (if_neg (by rw [hw];exact dn))
   rw [e]at hk ⊢
   exact⟨_,⟨rfl,rfl⟩,Sub.qi (qF hk) Y⟩
  refine Z 8 J (z5 (fun dn=> ?_) (fun dn=> ?_))
  ·refine Z 9 J (qt J J J J ?_)
   have hh: ¬X.tE user write z4=true:=by { unfold yS.tE;rw [Vz,kf];nofun }
   have hk:=(yS.jx hX hM C user write z4).1
   have cl:q=(M.za X.root z4).1.pl.length:=by omega
   subst cl
   rw [List.take_length]
   have hw:jL M X user write z4=(M.za X.root z4).2:=if_neg dm
   have e:X.frame M C user write z4=((0,jL M X user write z4),X,Jv M C X z4):=(if_neg hh).trans (if_pos (by rw [hw];exact dn))
   rw [e,hw]
   exact⟨_,⟨rfl,rfl⟩,Sub.qi (qF hX) Y⟩
  refine Z 4 J (zW [0,1,3,7,0,16,48,112,0,0,512,0,2048,0,8192,0,32768,131056,262143] [([0,1,2,3,4,5,6,7,8,9,10,11,12,13,14,15,16,17],[3,7,10,12,14,16],some 18),([],[],none)] (by kernel_rfl) ?_)
  refine z7 (ZK 2 J (zx J Y (q9 J Y J (ZK 2 J (zx J Y (q9 J Y J (ZK 1 J (zx J Y (q9 J Y J (zx J Y (q9 J Y J (zx J Y (q9 J Y J (zx J Y (q9 J Y J (cz [_,_,_,_,_,_] J Y Y J (z8 ⟨(yN J Y J J J (yN J Y J J J (yN J Y J J J (yN J Y J J J (yN J Y J J J (yN J Y J J J z9)))))),?_⟩)))))))))))))))))
  refine Z1 (nF _ _ X.xs (dB M X z4)) J Y (zJ (z7 (z8 ⟨z9,?_⟩)))
  exact OX 2 J (fa J Y (ld J Y J (Z 4 J (qt J J J J (absurd (Decidable.not_not.1 dn) dm)))))
 refine z8 ⟨z9,?_⟩
 refine sN J Y Y J J J (zJ (z7 (ZK 1 J (z8 ⟨z9,?_⟩))))
 refine OX 17 J (fa J Y (ld J Y J (Z 1 J (yY (MC _ _ M X.root z4) rfl (fun _=>rfl) ?_))))
 rintro _ _ ⟨O8,rfl,rfl⟩
 refine yW (v:=O8) fun lk c6 cG SY _=> ?_
 subst SY
 have Ub:=mC M X.root z4
 refine Z 3 J (zn rfl rfl rfl fun i16=> ?_)
 refine sN J Y Y J J J (Z 5 J (fa J Y (ld J Y J (qJ rfl (fun _ h=>yI rfl rfl rfl rfl rfl h) ?_))))
 refine Z 3 J (zy (fun j T L=> ∃(q:Nat),(q≤(M.za X.root z4).1.pl.length)∧j=(M.za X.root z4).1.pl.length-q∧T.len=7∧Tm.get 0 T=some (vp a 0)∧Tm.get 2 T=some (vp c 0)∧Tm.get 3 T=some (.bool user)∧Tm.get 4 T=some (.bool write)∧Tm.get 5 T=some (vi z4)∧Tm.get 13 T=some (vi (M.za X.root z4).2)∧Tm.get 16 T=some (vp i16 0)∧Tm.get 52 T=some ((.slice lk (M.za X.root z4).1.pl.length c6 cG))∧Tm.get 53 T=some (vi ((M.za X.root z4).1.pl.length:Nat))∧Tm.get 54 T=some (vi (q:Nat))∧Sub L (z3 qj c (C.Gd X.zQ ((M.za X.root z4).1.pl.take q))::z3 zC i16 (Lx (.slice lk (M.za X.root z4).1.pl.length c6 cG) (M.za X.root z4).1)::z3 (zX ye 1) (.slice lk (M.za X.root z4).1.pl.length c6 cG) (M.za X.root z4).1.pl::z3 zC a (A1 X)::z3 ZG X.t X.xs::z3 zY m M::R)) ((M.za X.root z4).1.pl.length) ⟨0,by omega,by omega,rfl,rfl,rfl,rfl,rfl,rfl,rfl,rfl,rfl,rfl,rfl,(by rw [List.take_zero];exact(show Sub _ (z3 qj c C::z3 zC i16 (Lx (.slice lk (M.za X.root z4).1.pl.length c6 cG) (M.za X.root z4).1)::z3 (zX ye 1) (.slice lk (M.za X.root z4).1.pl.length c6 cG) (M.za X.root z4).1.pl::z3 zC a (A1 X)::z3 ZG X.t X.xs::z3 zY m M::R)from Y))⟩ ?_)
 rintro j T L0 ⟨q,hq,rfl,hl,g0,g2,g3,g4,g5,mv,RJ,LF,RX,LG,yU⟩
 obtain⟨tg,rfl⟩:=Ni hl g0 g2 g3 g4 g5 mv RJ LF RX LG
 clear hl g0 g2 g3 g4 g5 mv RJ LF RX LG
 refine yE yU ?_
 clear yU L0
 refine O0 3 J (z5 (fun Ay=> ?_) (fun Ay=> ?_))
 ·refine Z 8 J ?_
  obtain⟨z,hz⟩: ∃z,(M.za X.root z4).1.pl[q]? =some z:=⟨(M.za X.root z4).1.pl[q]'(by omega),List.getElem?_eq_getElem (by omega)⟩
  refine qJ rfl (fun _ h=>yg rfl rfl rfl (by omega) (by omega) h) ?_
  refine lE 0 J Y J hz J (Z 6 J (fa J Y (ld J Y J (Z 1 J (Z1 (gn _ _ (C.Gd X.zQ ((M.za X.root z4).1.pl.take q)) _ _) J Y (Z 2 J (ad J (Z 2 J ?_))))))))
  exact Or.inl ⟨rfl,_,by omega,q+1,by omega,rfl,rfl,rfl,rfl,rfl,rfl,rfl,rfl,rfl,rfl,rfl,rfl,(by rw [yF.xN hz];exact Y)⟩
 refine Z 4 J (Or.inr ⟨nofun,?_⟩)
 refine OX 5 J (z5 (fun dm=> ?_) (fun dm=> ?_))
 ·refine Z 3 J (lN J Y Y J J (Z 2 J (Z0 (lJ _ _ (M.za X.root z4).1 user write) J (Z 7 J (z5 (fun dn=> ?_) (fun dn=> ?_))))))
  ·refine Z 9 J (qt J J J J ?_)
   have hh: ¬X.tE user write z4=true:=by { unfold yS.tE;rw [Vz];nofun }
   have hk:=(yS.jx hX hM C user write z4).1
   have cl:q=(M.za X.root z4).1.pl.length:=by omega
   subst cl
   rw [List.take_length]
   have hw:jL M X user write z4=(M.za X.root z4).1.YU user write:=if_pos dm
   have e:X.frame M C user write z4=((0,jL M X user write z4),X,Jv M C X z4):=(if_neg hh).trans (if_pos (by rw [hw];exact dn))
   rw [e,hw]
   exact⟨_,⟨rfl,rfl⟩,Sub.qi (qF hX) Y⟩
  refine Z 4 J (zW [0,1,3,7,0,16,48,112,0,0,512,0,2048,0,8192,0,32768,131056,262143] [([0,1,2,3,4,5,6,7,8,9,10,11,12,13,14,15,16,17],[3,7,10,12,14,16],some 18),([],[],none)] (by kernel_rfl) ?_)
  refine z7 (ZK 2 J (zx J Y (q9 J Y J (ZK 2 J (zx J Y (q9 J Y J (ZK 1 J (zx J Y (q9 J Y J (zx J Y (q9 J Y J (zx J Y (q9 J Y J (zx J Y (q9 J Y J (cz [_,_,_,_,_,_] J Y Y J (z8 ⟨(yN J Y J J J (yN J Y J J J (yN J Y J J J (yN J Y J J J (yN J Y J J J (yN J Y J J J z9)))))),?_⟩)))))))))))))))))
  refine Z1 (nF _ _ X.xs (dB M X z4)) J Y (zJ (z7 (z8 ⟨z9,?_⟩)))
  refine OX 2 J (fa J Y (ld J Y J (Z 4 J (qt J J J J ?_))))
  have hh: ¬X.tE user write z4=true:=by { unfold yS.tE;rw [Vz];nofun }
  have hk:=(yS.jx hX hM C user write z4).1
  have cl:q=(M.za X.root z4).1.pl.length:=by omega
  subst cl
  rw [List.take_length]
  have hw:jL M X user write z4=(M.za X.root z4).1.YU user write:=if_pos dm
  have e:X.frame M C user write z4=(((((M.za X.root z4).1.fr:Nat):Int),(0:Int)),({ X with xs:=YG X.xs (dB M X z4) } :yS),Jv M C X z4):=(if_neg hh).trans (if_neg (by rw [hw];exact dn))
  rw [e]at hk ⊢
  exact⟨_,⟨rfl,rfl⟩,Sub.qi (qF hk) Y⟩
 refine Z 8 J (z5 (fun dn=> ?_) (fun dn=> ?_))
 ·refine Z 9 J (qt J J J J ?_)
  have hh: ¬X.tE user write z4=true:=by { unfold yS.tE;rw [Vz];nofun }
  have hk:=(yS.jx hX hM C user write z4).1
  have cl:q=(M.za X.root z4).1.pl.length:=by omega
  subst cl
  rw [List.take_length]
  have hw:jL M X user write z4=(M.za X.root z4).2:=if_neg dm
  have e:X.frame M C user write z4=((0,jL M X user write z4),X,Jv M C X z4):=(if_neg hh).trans (if_pos (by rw [hw];exact dn))
  rw [e,hw]
  exact⟨_,⟨rfl,rfl⟩,Sub.qi (qF hX) Y⟩
 refine Z 4 J (zW [0,1,3,7,0,16,48,112,0,0,512,0,2048,0,8192,0,32768,131056,262143] [([0,1,2,3,4,5,6,7,8,9,10,11,12,13,14,15,16,17],[3,7,10,12,14,16],some 18),([],[],none)] (by kernel_rfl) ?_)
 refine z7 (ZK 2 J (zx J Y (q9 J Y J (ZK 2 J (zx J Y (q9 J Y J (ZK 1 J (zx J Y (q9 J Y J (zx J Y (q9 J Y J (zx J Y (q9 J Y J (zx J Y (q9 J Y J (cz [_,_,_,_,_,_] J Y Y J (z8 ⟨(yN J Y J J J (yN J Y J J J (yN J Y J J J (yN J Y J J J (yN J Y J J J (yN J Y J J J z9)))))),?_⟩)))))))))))))))))
 refine Z1 (nF _ _ X.xs (dB M X z4)) J Y (zJ (z7 (z8 ⟨z9,?_⟩)))
 exact OX 2 J (fa J Y (ld J Y J (Z 4 J (qt J J J J (absurd (Decidable.not_not.1 dn) dm)))))
theorem lA (R:List SP) (a m c:Nat) (X:yS) (M:zF) (C:yF) (user write:Bool) (at_:Nat):yH 136 [vp a 0,vp m 0,vp c 0,.bool user,.bool write,vu at_] (z3 uz a X::z3 zY m M::z3 qj c C::R) fun v L=>v= .tuple [vi (X.trans M C user write at_).1.1,vi (X.trans M C user write at_).1.2]∧L=z3 uz a (X.trans M C user write at_).2.1::z3 zY m M::z3 qj c (X.trans M C user write at_).2.2::R:=by
 refine yl (VP a X) fun hX=> ?_
 refine yl (qf m M) fun hM=> ?_
 have hf:=yS.jx hX hM C user write ((at_/8:Nat):Int)
 refine SW.intro rfl Tryz.func136 rfl ?_
 refine O0 10 J (z5 (fun j4=> ?_) (fun j4=> ?_))
 ·refine Z 8 J (qt J J J J ?_)
  have e:(X.trans M C user write at_)=((0,3),X,C):=if_pos (by omega)
  rw [e]
  exact fq
 refine Z 11 J (zo rfl (fun _=>zG rfl rfl rfl (ln (y:=8) (by omega) (by decide))) ?_)
 refine zo rfl (fun _=>qy rfl rfl (vz (by omega))) ?_
 refine qI (w:=vi ((at_/8:Nat):Int)) (by rw [Int.natCast_ediv];rfl) ?_
 refine Z3 (Eh _ _ _ _ X M C user write ((at_/8:Nat):Int)) J Y Y Y (Z 11 J (z5 (fun dj=> ?_) (fun dj=> ?_)))
 ·refine Z 9 J (qt J J J J ?_)
  have e:(X.trans M C user write at_)=((0,(X.frame M C user write ((at_/8:Nat):Int)).1.2),(X.frame M C user write ((at_/8:Nat):Int)).2):=(if_neg (by omega)).trans (if_pos dj)
  rw [e]
  exact fq
 refine Z 6 J (ml J (Z 1 J (zo rfl (fun _=>zG rfl rfl rfl (xP (y:=8) (by omega) (by decide))) ?_)))
 refine zo rfl (fun _=>qy rfl rfl (vz (by omega))) ?_
 refine ad J (Z 4 J (qt J J J J ?_))
 have e:(X.trans M C user write at_)=((8*(X.frame M C user write ((at_/8:Nat):Int)).1.1+((at_%8:Nat):Int),0),(X.frame M C user write ((at_/8:Nat):Int)).2):=(if_neg (by omega)).trans (if_neg dj)
 rw [e]
 exact fq
end Go.Proofs.YtlhcpplnlgehbaaGreat
