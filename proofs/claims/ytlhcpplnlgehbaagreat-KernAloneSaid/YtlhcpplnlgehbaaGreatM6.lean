/- Part of the proof: KSpace, KSpace2, KVm, KTlb, KCache, KMmu. Names and blanks are cut short to keep within the size of a claim. -/
import Derived.Test.YtlhcpplnlgehbaaGreatM4
import Derived.Test.YtlhcpplnlgehbaaGreatM5
set_option linter.unusedVariables false
set_option linter.unusedSimpArgs false
set_option maxRecDepth 100000
namespace Go.Proofs.YtlhcpplnlgehbaaGreat
open Go Go.RowKit Go.Px
theorem MW.mk2 {P:Program} {t kt et it:TypeId} {a b:Field} {fs:Array Field} (h1:yO P t=some (.map kt et)) (h2:yO P kt=some (.struct fs)) (hf:fs.toList= [a,b]) (ha:a.type=it) (hb:b.type=it) (o1:a.offset=0) (o2:b.offset=1)
 (n1:(a.name== "_")=false) (n2:(b.name== "_")=false) (hi:yO P it=some (.int .i64)) (hs:P.stoodInHeld kt=false):MW P t:=by
 have hg:jB P it=some false:=by simp only [jB,hi]
 refine⟨⟨kt,et,h1,fun p=> ?_,fun F H p q=> ?_⟩⟩
 ·simp [wM,kW,h2,hf,jP,ha,hb,o1,o2,hg,hi]
 have hk:vf .i64 .i64=true:=rfl
 have hq: ∀a b:Int,zU.eq F (.lit a) (.lit b)=some (decide (a=b)):=fun a b=>by simp [zU.eq,wh]
 have hp:(p=q)↔p.1=q.1∧p.2=q.2:=by cases p;cases q;simp
 simp only [kW,Yb,h2,hs,hf,YF,n1,n2,jP,ha,hb,o1,o2,hg,hi,cond_false,List.getElem?_cons_zero,List.getElem?_cons_succ,hk,cond_true,hq]
 by_cases e1:p.1=q.1
 ·by_cases e2:p.2=q.2
  ·simp [e1,e2,hp]
  simp [e1,e2,hp]
 simp [e1,hp]
instance:MW Tryz.prog 323:=MW.mk2 (it:=3) Tryz.underlying323 Tryz.underlying325 rfl rfl rfl rfl rfl (by decide) (by decide) Tryz.underlying3 (by kernel_rfl)
structure zm where
 owner:Int
 kernel:Nat
 user:Nat
 tables:List Int
abbrev GK (m p:Nat) (S:zm) (tv:AVal):List AVal:= [vp m 0,vp p 0,vi S.owner,vi (S.kernel:Nat),vi (S.user:Nat),tv]
def zm.Ok (S:zm):Prop:=S.kernel≤64∧S.user≤64
structure D3 where
 m:Nat
 p:Nat
 S:zm
abbrev Wa (a:Nat) (x:D3) (tv:AVal):List SP:= [ent z8 a (GK x.m x.p x.S tv),ent (zP yK 1) tv x.S.tables]
def qs (a:Nat) (x:D3):SP:=fun h=> ∃tv,x.S.Ok∧yd (Wa a x tv) h
theorem jY (a:Nat) (x:D3): ∀h,qs a x h→ ∃tv,x.S.Ok∧yd (Wa a x tv) h:=fun _ h=>h
theorem qG {a:Nat} {m p:Nat} {S:zm} {tv:AVal} (hS:S.Ok): ∀h,yd [ent z8 a (GK m p S tv),ent (zP yK 1) tv S.tables] h→qs a ⟨m,p,S⟩ h:=fun _ x=>⟨tv,hS,x⟩
def zA.below (M:zA) (t:Int) (i:Nat):Int:=if eN (M.rd (8*t+i))≠0 then-1 else fN (M.rd (8*t+i))
def zA.last (M:zA) (k page:Nat):Int:=if M.below k (idxN page 0)<0 then-1 else M.below (M.below k (idxN page 0)) (idxN page 1)
theorem zA.below_bd (M:zA) (t:Int) (i:Nat): -1≤M.below t i∧M.below t i<1099511627776:=by
 unfold zA.below;split
 ·omega
 have:=cL (M.rd (8*t+i));omega
theorem zA.last_bd (M:zA) (k page:Nat): -1≤M.last k page∧M.last k page<1099511627776:=by
 unfold zA.last;split
 ·omega
 exact M.below_bd _ _
def zA.needK (M:zA) (k:Nat) (ks:List (Int×Int)) (page:Int):List (Int×Int):=if 0≤page∧page<256 then
 (let pg:=page.toNat
  let ks1:=if M.below k (idxN pg 0)<0 then VP ks ((idxN pg 0:Nat),-1)else ks
  if M.last k pg<0 then VP ks1 ((idxN pg 0:Nat),(idxN pg 1:Nat))else ks1)else ks
theorem YZ (M:zA) (k:Nat) (ks:List (Int×Int)) (pg:Nat) (h:pg<256):M.needK k ks pg=if M.last k pg<0 then VP (if M.below k (idxN pg 0)<0 then VP ks ((idxN pg 0:Nat),-1)else ks) ((idxN pg 0:Nat),(idxN pg 1:Nat))else(if M.below k (idxN pg 0)<0 then VP ks ((idxN pg 0:Nat),-1)else ks):=by
 unfold zA.needK;rw [if_pos (by omega)];rfl
theorem tQ (M:zA) (k:Nat) (ks:List (Int×Int)) (z:Int) (h: ¬(0≤z∧z<256)):M.needK k ks z=ks:=by
 unfold zA.needK;rw [if_neg h]
def zA.need (M:zA) (k:Nat) (ps:List Int):Nat:=(ps.foldl (M.needK k) []).length
abbrev PM.write (s:PM) (z:Int) (x:Nat):PM:=⟨s.M.write z x,s.R⟩
abbrev PM.link (s:PM) (t:Int) (i f:Nat):PM:=s.write (8*t+i) (qq true true false f)
abbrev zm.grown (S:zm) (f:Nat):zm:= { S with tables:=S.tables++ [((f:Nat):Int)] }
def VR (s:PM) (S:zm) (page:Nat):PM×zm:=if s.M.below S.kernel (idxN page 0)<0 then
 (((s.take 1 S.owner).link S.kernel (idxN page 0) s.got).link S.user (idxN page 0) s.got,S.grown s.got)else(s,S)
def xz (s:PM) (S:zm) (page:Nat):PM×zm:=if s.M.below (s.M.below S.kernel (idxN page 0)) (idxN page 1)<0 then
 ((s.take 1 S.owner).link (s.M.below S.kernel (idxN page 0)) (idxN page 1) s.got,S.grown s.got)else(s,S)
def da (s:PM) (S:zm) (page x:Nat):PM×zm:=
 let b:=xz (VR s S page).1 (VR s S page).2 page
 (b.1.write (8*b.1.M.last S.kernel page+(idxN page 2:Nat)) x,b.2)
def uM (s:PM) (S:zm) (page:Int):Bool:=decide (0≤page∧page<256) && decide ((s.M.need S.kernel [page]:Int)≤s.M.left)
def PM.setPage (s:PM) (S:zm) (page:Int) (x:Nat):PM×zm:=if uM s S page then da s S page.toNat x else(s,S)
theorem rM (s:PM) (S:zm) (page:Nat):(VR s S page).2.owner=S.owner∧(VR s S page).2.kernel=S.kernel∧(VR s S page).2.user=S.user∧(VR s S page).2.tables.length≤S.tables.length+1:=by
 unfold VR;split
 ·exact⟨rfl,rfl,rfl,by simp [zm.grown]⟩
 exact⟨rfl,rfl,rfl,by simp⟩
theorem ry (s:PM) (S:zm) (page:Nat):(xz s S page).2.owner=S.owner∧(xz s S page).2.kernel=S.kernel∧(xz s S page).2.user=S.user∧(xz s S page).2.tables.length≤S.tables.length+1:=by
 unfold xz;split
 ·exact⟨rfl,rfl,rfl,by simp [zm.grown]⟩
 exact⟨rfl,rfl,rfl,by simp⟩
theorem sl (M:zA) (k:Nat) (ps:List Int):M.need k ps≤2*ps.length:=by
 unfold zA.need
 have one: ∀ks p,(M.needK k ks p).length≤ks.length+2:=by
  intro ks p
  have ins: ∀(ks:List (Int×Int)) q,(VP ks q).length≤ks.length+1:=fun ks q=>by unfold VP;split<;>simp
  unfold zA.needK
  split
  ·simp only
   split<;>split
   ·have:=ins (VP ks ((idxN p.toNat 0:Nat),-1)) ((idxN p.toNat 0:Nat),(idxN p.toNat 1:Nat));have:=ins ks ((idxN p.toNat 0:Nat),-1);omega
   ·have:=ins ks ((idxN p.toNat 0:Nat),(idxN p.toNat 1:Nat));omega
   ·have:=ins ks ((idxN p.toNat 0:Nat),-1);omega
   omega
  omega
 have all: ∀(ps:List Int) ks,(ps.foldl (M.needK k) ks).length≤ks.length+2*ps.length:=by
  intro ps
  induction ps with
  |nil=>intro ks;simp
  |cons p ps ih=>intro ks;have:=ih (M.needK k ks p);have:=one ks p;simp only [List.foldl_cons,List.length_cons];omega
 have:=all ps []
 simpa using this
theorem eI (R:List SP) (p w u g:Bool) (f:Nat) (hf:f<1099511627776):zy 200 [af p w u g (f:Int)] (R) fun v L=>v=vu (qq w u g f)∧L=R:=by
 refine SW.intro rfl Tryz.func200 rfl ?_
 refine O0 2 J (yW rfl rfl rfl rfl fun i1=> ?_)
 exact Z 4 J (fa J Y (sO J Y J J J (Z 3 J (lN J Y Y J J (Z0 (dO _ _ _ _ _ (by omega)) J (Z 12 J (zE J J J fq)))))))
theorem ZN (R:List SP) (m:Nat) (M:zA) (t:Int) (i:Nat) (p w u g:Bool) (f:Nat) (hf:f<1099511627776) (ht: -1≤t∧t<1099511627776) (hi:i<8):zy 151 [vp m 0,vi t,vi (i:Nat),af p w u g (f:Int)] (ent zQ m M::R) fun v L=>v= .tuple []∧L=ent zQ m (M.write (8*t+i) (qq w u g f))::R:=by
 refine SW.intro rfl Tryz.func151 rfl ?_
 refine O0 2 J (yW rfl rfl rfl rfl fun i7=> ?_)
 exact Z 4 J (ml J (Z 1 J (ad J (lN J Y Y J J (Z0 (eI _ _ _ _ _ _ (by omega)) J (Z1 (jT _ _ M _ (by omega) _ (xS w u g f hf)) J Y (Z 1 J (qz J J fq))))))))
theorem lr (R:List SP) (p:Int):zy 252 [vi p] (R) fun v L=>v= .bool (decide (0≤p∧p<256))∧L=R:=by
 refine SW.intro rfl Tryz.func252 rfl ?_
 refine O0 8 J (z0 (fun h4=> ?_) (fun h4=> ?_))
 ·refine Z 7 J (zE J J J (⟨_,⟨yC ?_,rfl⟩,Y⟩))
  simp;omega
 refine Z 7 J (zE J J J (⟨_,⟨yC ?_,rfl⟩,Y⟩))
 simp;omega
theorem gJ (R:List SP) (a m p:Nat) (S:zm) (tv:AVal) (M:zA) (t:Int) (i:Nat) (ht: -1≤t∧t<1099511627776) (hi:i<8):zy 254 [vp a 0,vi t,vi (i:Nat)] (ent z8 a (GK m p S tv)::ent zQ m M::R) fun v L=>v=vi (M.below t i)∧L=ent z8 a (GK m p S tv)::ent zQ m M::R:=by
 refine yQ (qD m M) fun hM=> ?_
 refine SW.intro rfl Tryz.func254 rfl ?_
 refine O0 8 J (fa J Y (ld J Y J (Z 1 J (ml J (Z 1 J (ad J (Z1 (Wt _ _ M _ (by omega)) J Y ?_)))))))
 generalize hx:M.rd (8*t+(i:Int))=x
 have hxl:x≤18446744073709551615:=by { rw [←hx];exact zA.rd_le hM _ }
 refine Z 9 J (Z0 (Ud _ x hxl) J (Z 3 J (zd rfl rfl rfl fun i9=> ?_)))
 refine sN J Y Y J J J (Z 7 J (z0 (fun h29=> ?_) (fun h29=> ?_)))
 ·refine Z 7 J (zE J J J ?_)
  have e:M.below t i= -1:=by { unfold zA.below;rw [hx];exact if_pos h29 }
  rw [e]
  exact fq
 refine Z 5 J (fa J Y (ld J Y J (Z 3 J (zE J J J ?_))))
 have e:M.below t i=(fN x:Nat):=by { unfold zA.below;rw [hx];exact if_neg h29 }
 rw [e]
 exact fq
theorem Yj (R:List SP) (a m p:Nat) (S:zm) (hS:S.Ok) (tv:AVal) (M:zA) (page:Nat) (hp:page<512):zy 255 [vp a 0,vi (page:Nat)] (ent z8 a (GK m p S tv)::ent zQ m M::R) fun v L=>v=vi (M.last S.kernel page)∧L=ent z8 a (GK m p S tv)::ent zQ m M::R:=by
 have hk:=hS.1
 have hi0:=qV page 0
 have hi1:=qV page 1
 have hb:=M.below_bd S.kernel (idxN page 0)
 refine SW.intro rfl Tryz.func255 rfl ?_
 refine O0 5 J (zO [0,0,2,6,14,0,32,127,255] [([0,1,2,3,4,5],[4],some 6),([],[4],some 7),([8],[],none)] (by kernel_rfl) ?_)
 refine z4 (ZK 3 J (zj J Y (ye J Y J (ZK 1 J (z5 ⟨(y6 J Y J J J z6),?_⟩)))))
 refine Z0 (vR _ page 0 (by omega) (by decide)) J (zF (z4 (z5 ⟨(y6 J Y J J J z6),?_⟩)))
 refine Z2 (gJ _ _ _ _ S _ M _ _ (by omega) (by omega)) J Y Y (zF (z4 (ZK 1 J (z5 ⟨z6,?_⟩))))
 refine OX 5 J (z0 (fun h15=> ?_) (fun h15=> ?_))
 ·refine Z 7 J (zE J J J ?_)
  have e:M.last S.kernel page= -1:=by { unfold zA.last;exact if_pos h15 }
  rw [e]
  exact fq
 refine Z 8 J (Z0 (vR _ page 1 (by omega) (by decide)) J (Z2 (gJ _ _ _ _ S _ M _ _ (by omega) (by omega)) J Y Y (Z 3 J (zE J J J ?_))))
 have e:M.last S.kernel page=M.below (M.below S.kernel (idxN page 0)) (idxN page 1):=by { unfold zA.last;exact if_neg h15 }
 rw [e]
 exact fq
theorem Vw (R:List SP) (a m p:Nat) (S:zm) (tv:AVal) (M:zA) (t:Int) (i f:Nat) (hf:f<1099511627776) (ht: -1≤t∧t<1099511627776) (hi:i<8):zy 264 [vp a 0,vi t,vi (i:Nat),vi (f:Nat)] (ent z8 a (GK m p S tv)::ent zQ m M::R) fun v L=>v= .tuple []∧L=ent z8 a (GK m p S tv)::ent zQ m (M.write (8*t+i) (qq true true false f))::R:=by
 refine SW.intro rfl Tryz.func264 rfl ?_
 exact O0 3 J (fa J Y (ld J Y J (Z 3 J (bu [_,_,_,_,_] J Y Y J (Z1 (ZN _ _ M _ _ _ _ _ _ f (by omega) (by omega) (by omega)) J Y (Z 1 J (qz J J fq)))))))
theorem fp (R:List SP) (a:Nat) (x:D3):zy 206 [vp a 0] (ent qs a x::R) fun v L=>v= .tuple [vi (x.S.kernel:Nat),vi (x.S.user:Nat)]∧L=ent qs a x::R:=by
 refine zS (jY a x) fun tv hS=> ?_
 dsimp only [Wa,List.cons_append,List.nil_append]
 refine SW.intro rfl Tryz.func206 rfl ?_
 refine O0 6 J (zO [0,1,3,7,0,16,48,112,15,511] [([0,1,2,3,4,5,6,7,8,9],[3,7],none)] (by kernel_rfl) ?_)
 refine z4 (ZK 2 J (zj J Y (ye J Y J (ZK 2 J (zj J Y (ye J Y J (ZK 2 J (z5 ⟨(y6 J Y J J J (y6 J Y J J J z6)),?_⟩))))))))
 exact OX 1 J (qO J J J J ⟨_,⟨rfl,rfl⟩,Sub.mk2 (qG hS) Y⟩)
theorem Yk (R:List SP) (a m p:Nat) (S:zm) (tv:AVal) (M:zA) (Rf:List (Int×Int)) (hT:S.tables.length≤1000000):zy 155 [vp a 0] (ent z8 a (GK m p S tv)::ent (zP yK 1) tv S.tables::ent zX p ⟨m,Rf⟩::ent zQ m M::R) fun v L=> ∃tw,v=vi ((PM.got ⟨M,Rf⟩:Nat):Int)∧L=ent z8 a (GK m p { S with tables:=S.tables++ [((PM.got ⟨M,Rf⟩:Nat):Int)] } tw)::ent (zP yK 1) tw (S.tables++ [((PM.got ⟨M,Rf⟩:Nat):Int)])::ent zX p ⟨m,(PM.take ⟨M,Rf⟩ 1 S.owner).R⟩::ent zQ m (PM.take ⟨M,Rf⟩ 1 S.owner).M::R:=by
 refine SW.intro rfl Tryz.func155 rfl ?_
 refine O0 5 J (zO [0,1,3,7,0,16,48,112,255,511,1023,1023,2047,8191] [([0,1,2,3,4,5,6,7],[3,7],some 8),([9,10,11,12,13],[],none)] (by kernel_rfl) ?_)
 refine z4 (ZK 2 J (zj J Y (ye J Y J (ZK 2 J (zj J Y (ye J Y J (z5 ⟨(y6 J Y J J J (y6 J Y J J J z6)),?_⟩)))))))
 refine Z2 (Jq _ _ _ _ _ _ _ (by omega)) J Y Y (zF (z4 (ZK 5 J (z5 ⟨z6,?_⟩))))
 refine OX 5 J (fa J Y (ld J Y J (Z 1 J (zT (cs:= [_]) rfl rfl rfl (by decide) rfl fun i23=> ?_))))
 refine gV rfl rfl rfl rfl rfl rfl rfl ([((PM.got ⟨M,Rf⟩:Nat):Int)]) rfl rfl (by simp) (by show _+1≤_;omega) rfl fun i24 q24 c24=> ?_
 exact Z 1 J (fa J Y (sO J Y J J J (Z 7 J (zE J J J ⟨_,⟨.slice (some (i24,q24)) (S.tables.length+1) c24 1,rfl,rfl⟩,Y⟩))))
theorem mN (R:List SP) (a m p:Nat) (S:zm) (hS:S.Ok) (tv:AVal) (M:zA) (pv:AVal) (ps:List Int) (hn:ps.length≤1000000):zy 220 [vp a 0,pv] (ent z8 a (GK m p S tv)::ent zQ m M::ent (zP yK 1) pv ps::R) fun v L=>v=vi (M.need S.kernel ps:Nat)∧L=ent z8 a (GK m p S tv)::ent zQ m M::ent (zP yK 1) pv ps::R:=by
 have hk:=hS.1
 refine SW.intro rfl Tryz.func220 rfl ?_
 refine O0 6 J (pM rfl rfl fun i10=> ?_)
 refine Z 6 J (yo rfl (fun _ h=>y0 rfl rfl rfl rfl rfl h) ?_)
 refine Z 3 J (zl (fun j T L=> ∃(c:Nat),(c≤ps.length)∧j=ps.length-c∧T.len=3∧Tm.get 0 T=some (vp a 0)∧Tm.get 5 T=some (.map (some i10))∧Tm.get 11 T=some (pv)∧Tm.get 12 T=some (vi (ps.length:Nat))∧Tm.get 13 T=some (vi (c:Nat))∧Sub L (ent U8 i10 ((ps.take c).foldl (M.needK S.kernel) [])::ent z8 a (GK m p S tv)::ent zQ m M::ent (zP yK 1) pv ps::R)) (ps.length) ⟨0,by omega,by omega,rfl,rfl,rfl,rfl,rfl,rfl,(by rw [List.take_zero,List.foldl_nil];exact Y)⟩ ?_)
 rintro j T L0 ⟨c,hc,rfl,hl,g0,g5,g11,g12,g13,hsb⟩
 obtain⟨tg,rfl⟩:=ef hl g0 g5 g11 g12 g13
 clear hl g0 g5 g11 g12 g13
 refine zu hsb ?_
 clear hsb L0
 refine O0 3 J (z0 (fun h14=> ?_) (fun h14=> ?_))
 ·refine Z 8 J ?_
  obtain⟨z,hz⟩: ∃z,ps[c]? =some z:=⟨ps[c]'(by omega),List.getElem?_eq_getElem (by omega)⟩
  refine yo rfl (fun _ h=>yM rfl rfl rfl (by omega) (by omega) h) ?_
  refine lE 0 J Y J hz J (Z 6 J (Z0 (lr _ _) J (z0 (fun h18=> ?_) (fun h18=> ?_))))
  ·obtain⟨pg,rfl⟩: ∃pg:Nat,z=pg:=⟨z.toNat,by omega⟩
   have hi0:=qV pg 0
   have hi1:=qV pg 1
   refine Z 7 J (Z0 (vR _ pg 0 (by omega) (by decide)) J (Z 1 J (Z0 (vR _ pg 1 (by omega) (by decide)) J (Z 9 J (fa J Y (ld J Y J (Z 1 J (Z2 (gJ _ _ _ _ S _ M _ _ (by omega) (by omega)) J Y Y (Z 1 J (z0 (fun h31=> ?_) (fun h31=> ?_)))))))))))
   ·refine Z 5 J (bu [_,_] J Y Y J (Jk (p:=((idxN pg 0:Nat),-1)) rfl rfl rfl rfl rfl ?_))
    refine Z 5 J (Z2 (Yj _ _ _ _ S hS _ M _ (by omega)) J Y Y (Z 1 J (z0 (fun h38=> ?_) (fun h38=> ?_))))
    ·refine Z 6 J (bu [_,_] J Y Y J (Jk (p:=((idxN pg 0:Nat),(idxN pg 1:Nat))) rfl rfl rfl rfl rfl ?_))
     refine Z 2 J (ad J (Z 2 J ?_))
     have hK:=qK (M.needK S.kernel) [] ps c _ hz
     rw [YZ _ _ _ _ (by omega),if_pos h38,if_pos h31]at hK
     exact Or.inl ⟨rfl,_,by omega,c+1,by omega,rfl,rfl,rfl,rfl,rfl,rfl,rfl,(by rw [hK];exact Y)⟩
    refine Z 4 J (ad J (Z 2 J ?_))
    have hK:=qK (M.needK S.kernel) [] ps c _ hz
    rw [YZ _ _ _ _ (by omega),if_neg h38,if_pos h31]at hK
    exact Or.inl ⟨rfl,_,by omega,c+1,by omega,rfl,rfl,rfl,rfl,rfl,rfl,rfl,(by rw [hK];exact Y)⟩
   refine Z 7 J (Z2 (Yj _ _ _ _ S hS _ M _ (by omega)) J Y Y (Z 1 J (z0 (fun h38=> ?_) (fun h38=> ?_))))
   ·refine Z 6 J (bu [_,_] J Y Y J (Jk (p:=((idxN pg 0:Nat),(idxN pg 1:Nat))) rfl rfl rfl rfl rfl ?_))
    refine Z 2 J (ad J (Z 2 J ?_))
    have hK:=qK (M.needK S.kernel) [] ps c _ hz
    rw [YZ _ _ _ _ (by omega),if_pos h38,if_neg h31]at hK
    exact Or.inl ⟨rfl,_,by omega,c+1,by omega,rfl,rfl,rfl,rfl,rfl,rfl,rfl,(by rw [hK];exact Y)⟩
   refine Z 4 J (ad J (Z 2 J ?_))
   have hK:=qK (M.needK S.kernel) [] ps c _ hz
   rw [YZ _ _ _ _ (by omega),if_neg h38,if_neg h31]at hK
   exact Or.inl ⟨rfl,_,by omega,c+1,by omega,rfl,rfl,rfl,rfl,rfl,rfl,rfl,(by rw [hK];exact Y)⟩
  refine Z 5 J (ad J (Z 2 J ?_))
  have hK:=qK (M.needK S.kernel) [] ps c _ hz
  rw [tQ _ _ _ _ h18]at hK
  exact Or.inl ⟨rfl,_,by omega,c+1,by omega,rfl,rfl,rfl,rfl,rfl,rfl,rfl,(by rw [hK];exact Y)⟩
 refine Z 4 J (Or.inr ⟨nofun,?_⟩)
 refine OX 3 J (yo rfl (fun _ h=>iz rfl rfl rfl rfl rfl h) ?_)
 refine Z 3 J (zE J J J ?_)
 have hcn:c=ps.length:=by omega
 subst hcn
 rw [List.take_length]
 exact fq
theorem sI (R:List SP) (a m p:Nat) (S:zm) (M:zA) (Rf:List (Int×Int)) (hT:S.tables.length≤1000000):zy 177 [vp a 0] (ent qs a ⟨m,p,S⟩::ent zX p ⟨m,Rf⟩::ent zQ m M::R) fun v L=>v= .tuple []∧L=ent qs a ⟨m,p,{ S with tables:= [] }⟩::ent zX p ⟨m,(S.tables.foldl PM.give ⟨M,Rf⟩).R⟩::ent zQ m (S.tables.foldl PM.give ⟨M,Rf⟩).M::R:=by
 refine zS (jY a ⟨m,p,S⟩) fun tv hS=> ?_
 dsimp only [Wa,List.cons_append,List.nil_append]
 refine SW.intro rfl Tryz.func177 rfl ?_
 refine O0 5 J (fa J Y (ld J Y J (yo rfl (fun _ h=>y0 rfl rfl rfl rfl rfl h) ?_)))
 refine Z 3 J (zl (fun j T L=> ∃(c:Nat),(c≤S.tables.length)∧j=S.tables.length-c∧T.len=2∧Tm.get 0 T=some (vp a 0)∧Tm.get 7 T=some (tv)∧Tm.get 8 T=some (vi (S.tables.length:Nat))∧Tm.get 9 T=some (vi (c:Nat))∧Sub L (ent z8 a (GK m p S tv)::ent (zP yK 1) tv S.tables::ent zX p ⟨m,((S.tables.take c).foldl PM.give ⟨M,Rf⟩).R⟩::ent zQ m ((S.tables.take c).foldl PM.give ⟨M,Rf⟩).M::R)) (S.tables.length) ⟨0,by omega,by omega,rfl,rfl,rfl,rfl,rfl,(by rw [List.take_zero,List.foldl_nil];exact Y)⟩ ?_)
 rintro j T L0 ⟨c,hc,rfl,hl,g0,g7,g8,g9,hsb⟩
 obtain⟨tg,rfl⟩:=W7 hl g0 g7 g8 g9
 clear hl g0 g7 g8 g9
 refine zu hsb ?_
 clear hsb L0
 refine O0 3 J (z0 (fun h10=> ?_) (fun h10=> ?_))
 ·refine Z 8 J ?_
  obtain⟨z,hz⟩: ∃z,S.tables[c]? =some z:=⟨S.tables[c]'(by omega),List.getElem?_eq_getElem (by omega)⟩
  refine yo rfl (fun _ h=>yM rfl rfl rfl (by omega) (by omega) h) ?_
  refine lE 0 J Y J hz J (Z 5 J (fa J Y (ld J Y J (Z 1 J (Z2 (dT _ _ _ ((S.tables.take c).foldl PM.give ⟨M,Rf⟩).R ((S.tables.take c).foldl PM.give ⟨M,Rf⟩).M _) J Y Y (Z 2 J (ad J (Z 2 J ?_))))))))
  have hK:=qK PM.give ⟨M,Rf⟩ S.tables c _ hz
  exact Or.inl ⟨rfl,_,by omega,c+1,by omega,rfl,rfl,rfl,rfl,rfl,rfl,(by rw [hK];exact Y)⟩
 refine Z 4 J (Or.inr ⟨nofun,?_⟩)
 refine OX 3 J (fa J Y (sO J Y J J J (Z 1 J (qz J J ?_))))
 have hcn:c=S.tables.length:=by omega
 subst hcn
 rw [List.take_length]
 exact⟨_,⟨rfl,rfl⟩,(Sub.nilE (α:=Int) (en:=yK) (es:=1) (fun _=>rfl) (by decide) 0 _).trans (Sub.mk2 (qG (S:= { S with tables:= [] }) hS) Y)⟩
theorem uL {P:Program} {F:z9} {hook:yZ} {ops:Array Oper} {l:List Oper} {T:Tm} {L R:List SP} {Q:Tm→List SP→Prop} {κ α:Type} {K:κ→α→SP} {a:κ} {x:α} {p:Prop} [t:Tk L K a x R] (hu: ∀h,K a x h→p) (k:p→WO P F hook ops l T L Q):WO P F hook ops l T L Q:=fun H hH=>by
 obtain⟨_,_,_,_,_,h4,_⟩:=t.h _ hH.s
 exact k (hu _ h4) H hH
theorem Zf {α:Type} {en:α→List AVal} {es i:Nat} {xs:List α} (he: ∀x,(en x).length=es) (h0:0<es): ∀h,z8 i (xs.flatMap en) h→zP en es (.slice (some (i,0)) xs.length (some xs.length) es) xs h:=by
 intro h hr
 have hl:=qW he xs
 have hf:zI i (xs.length*es,ul (xs.flatMap en)) h:=by
  have:=wG (f:=ul (xs.flatMap en)) (fun j hj=>ZU hj) h hr
  rw [hl]at this;exact this
 exact el_close he h0 rfl ⟨by omega,fun k hk=>by cases hk;exact⟨by omega,Nat.le_refl _⟩⟩ (by rw [←hl];exact ZJ _) h hf
theorem G4 {M:zA} {R:List (Int×Int)} (h:M.Ok):PM.got ⟨M,R⟩<1099511627776:=by
 have h1:PM.got ⟨M,R⟩≤M.n:=PM.got_le _
 have:=h.2.1
 omega
theorem gk {M:zA} {R:List (Int×Int)} (h:M.Ok): -1≤((PM.got ⟨M,R⟩:Nat):Int)∧((PM.got ⟨M,R⟩:Nat):Int)<1099511627776:=by
 have:=G4 (R:=R) h
 omega
theorem AQ {P:Program} {F:z9} {hook:yZ} {ops:Array Oper} {l:List Oper} {T:Tm} {L M:List SP} {Q:Tm→List SP→Prop} (e:L=M) (k:WO P F hook ops l T M Q):WO P F hook ops l T L Q:=e▸k
theorem ot {P:Program} {F:z9} {ops:Array Oper} {m:List It} {T:Tm} {L M:List SP} {Q:Tm→List SP→Prop} (s:Sub L M) (k:WK P F ops m T M Q):WK P F ops m T L Q:=fun H hH=>k H (hH.sub s)
theorem kb {k:Nat} (h:k≤64): -1≤(k:Int)∧(k:Int)<1099511627776:=by omega
theorem VT {z:Int} (h: -1≤z∧z<1099511627776): -9223372036854775808≤8*z∧8*z≤9223372036854775807:=by omega
theorem Vb {z:Int} {i:Nat} (h: -1≤z∧z<1099511627776) (hi:i<8): -9223372036854775808≤8*z+i∧8*z+i≤9223372036854775807:=by omega
theorem B7 (R:List SP) (a m p:Nat) (S:zm) (M:zA) (Rf:List (Int×Int)) (page:Int) (x:Nat) (hx:x≤18446744073709551615) (hT:S.tables.length≤900000):zy 256 [vp a 0,vi page,vu x] (ent qs a ⟨m,p,S⟩::ent zX p ⟨m,Rf⟩::ent zQ m M::R) fun v L=>v= .bool (uM ⟨M,Rf⟩ S page)∧L=ent qs a ⟨m,p,(PM.setPage ⟨M,Rf⟩ S page x).2⟩::ent zX p ⟨m,(PM.setPage ⟨M,Rf⟩ S page x).1.R⟩::ent zQ m (PM.setPage ⟨M,Rf⟩ S page x).1.M::R:=by
 refine zS (jY a ⟨m,p,S⟩) fun tv hS=> ?_
 dsimp only [Wa,List.cons_append,List.nil_append]
 refine yQ (qD m M) fun hM=> ?_
 have hk:S.kernel≤64:=hS.1
 have hu:S.user≤64:=hS.2
 have hn:=hM.2.1
 refine SW.intro rfl Tryz.func256 rfl ?_
 refine O0 6 J (zO [0,1,3,7,15,15,47,127,15,271,783,1807,4095,8191,16383] [([0],[],some 1),([2,3,4,5,6,8,9,10,11],[11],some 7),([],[11],some 12),([13,14],[13],none)] (by kernel_rfl) ?_)
 refine z4 (ZK 1 J (z5 ⟨z6,?_⟩))
 refine Z0 (lr _ _) J (z0 (fun h12=> ?_) (fun h12=> ?_))
 ·refine zF (z4 (ZK 4 J (va (cs:= [_]) rfl rfl rfl (by decide) rfl fun i17=> ?_)))
  refine ZK 2 J (zj J Y (ye J Y J (z5 ⟨(y6 J Y J J J z6),?_⟩)))
  refine zR (Sub.one (K:=z8) (a:=i17) (x:= [vi page]) (K2:=zP yK 1) (a2:= .slice (some (i17,0)) 1 (some 1) 1) (x2:= [page]) fun f hf=>Zf (en:=yK) (es:=1) (xs:= [page]) (fun _=>rfl) (by decide) f hf) ?_
  refine Z3 (mN _ _ _ _ S hS _ M _ [page] (by show 1≤1000000;decide)) J Y Y Y (zF (z4 (z5 ⟨(y6 J Y J J J z6),?_⟩)))
  refine Z2 (UX _ _ _ _ _) J Y Y (zF (z4 (ZK 1 J (qJ (fun h24=> ?_) (fun h24=> ?_)))))
  ·refine ZK 1 J (z5 ⟨(gv J J J (by rw [decide_eq_true h24];rfl) z6),?_⟩)
   refine OX 6 J (zE J J J ?_)
   have e:uM ⟨M,Rf⟩ S page=false:=by { unfold uM;rw [decide_eq_false (show¬((zA.need M S.kernel [page]:Nat):Int)≤(M.left:Nat)by omega),Bool.and_false] }
   have e2:PM.setPage ⟨M,Rf⟩ S page x=(⟨M,Rf⟩,S):=if_neg (by rw [e];nofun)
   rw [e,e2]
   exact⟨_,⟨rfl,rfl⟩,Sub.mk2 (qG hS) Y⟩
  refine ZK 1 J (z5 ⟨(gv J J J (by rw [decide_eq_false h24];rfl) z6),?_⟩)
  refine OX 4 J ?_
  obtain⟨pg,rfl⟩: ∃pg:Nat,page=pg:=⟨page.toNat,by omega⟩
  have hi0:=qV pg 0
  have hi1:=qV pg 1
  have hi2:=qV pg 2
  refine Z 1 J (Z0 (vR _ pg 0 (by omega) (by decide)) J (Z 1 J (Z0 (vR _ pg 1 (by omega) (by decide)) J (Z 9 J (fa J Y (ld J Y J (Z 1 J (Z2 (gJ _ _ _ _ S _ M _ _ (kb hk) (by omega)) J Y Y (Z 1 J (z0 (fun h37=> ?_) (fun h37=> ?_)))))))))))
  ·refine Z 5 J (je (Yk _ _ _ _ S _ M Rf (by omega)) rfl (fun _=>rfl) ?_)
   rintro _ _ ⟨tw39,rfl,rfl⟩
   refine Z 7 J (fa J Y (ld J Y J (Z 2 J (Z2 (Vw _ _ _ _ { S with tables:=S.tables++ [((PM.got ⟨M,Rf⟩:Nat):Int)] } _ _ _ _ _ (G4 hM) (kb hk) (by omega)) J Y Y (Z 5 J (fa J Y (ld J Y J (Z 2 J (Z2 (Vw _ _ _ _ { S with tables:=S.tables++ [((PM.got ⟨M,Rf⟩:Nat):Int)] } _ _ _ _ _ (G4 hM) (kb hu) (by omega)) J Y Y (Z 7 J (fa J Y (ld J Y J (Z 1 J (Z2 (gJ _ _ _ _ ({ S with tables:=S.tables++ [((PM.got ⟨M,Rf⟩:Nat):Int)] } :zm) _ _ _ _ (kb hk) (by omega)) J Y Y (Z 7 J (Z2 (gJ _ _ _ _ ({ S with tables:=S.tables++ [((PM.got ⟨M,Rf⟩:Nat):Int)] } :zm) _ _ _ _ (zA.below_bd _ _ _) (by omega)) J Y Y (Z 1 J (z0 (fun h67=> ?_) (fun h67=> ?_)))))))))))))))))))
   ·refine Z 7 J (uL (qD m _) fun hM1=> ?_)
    refine je (Yk _ _ _ _ ({ S with tables:=S.tables++ [((PM.got ⟨M,Rf⟩:Nat):Int)] } :zm) _ _ _ (by show(S.tables++ [_]).length≤_;rw [List.length_append];show S.tables.length+1≤_;omega)) rfl (fun _=>rfl) ?_
    rintro _ _ ⟨tw72,rfl,rfl⟩
    refine Z2 (Vw _ _ _ _ { ({ S with tables:=S.tables++ [((PM.got ⟨M,Rf⟩:Nat):Int)] } :zm)with tables:=_ } _ _ _ _ _ (G4 hM1) (zA.below_bd _ _ _) (by omega)) J Y Y (Z 2 J (zO [0,1,3,7,0,0,48,112,0,368,1008,0,4095] [([0,1,2,3,4,5,8,11],[3],some 6),([7],[3,7],some 9),([10],[3,7,10],some 12),([],[],none)] (by kernel_rfl) ?_))
    refine z4 (ZK 2 J (zj J Y (ye J Y J (ZK 4 J (z5 ⟨(y6 J Y J J J z6),?_⟩)))))
    refine Z2 (Yj _ _ _ _ { ({ S with tables:=S.tables++ [((PM.got ⟨M,Rf⟩:Nat):Int)] } :zm)with tables:=_ } hS _ _ pg (by omega)) J Y Y (zF (z4 (vN rfl (fun _=>zC rfl rfl rfl (uG (VT (zA.last_bd _ _ _)))) ?_)))
    refine z5 ⟨(y6 J Y J J J (vF rfl (fun _=>zC rfl rfl rfl (uG (VT (zA.last_bd _ _ _)))) rfl rfl (z3 _ rfl) z6)),?_⟩
    refine Z0 (vR _ pg 2 (by omega) (by decide)) J (zF (z4 (vN rfl (fun _=>zC rfl rfl rfl (vj (Vb (zA.last_bd _ _ _) (qV _ _)))) ?_)))
    refine z5 ⟨(y6 J Y J J J (vF rfl (fun _=>zC rfl rfl rfl (uG (VT (zA.last_bd _ _ _)))) rfl rfl (z3 _ rfl) (vF rfl (fun _=>zC rfl rfl rfl (vj (Vb (zA.last_bd _ _ _) (qV _ _)))) rfl rfl (z3 _ rfl) z6))),?_⟩
    refine Z1 (jT _ _ _ _ (Vb (zA.last_bd _ _ _) (qV _ _)).2 x hx) J Y (zF (z4 (z5 ⟨z6,?_⟩)))
    refine OX 5 J (zE J J J ?_)
    have em:uM ⟨M,Rf⟩ S pg=true:=by { unfold uM;rw [decide_eq_true h12,decide_eq_true (show((zA.need M S.kernel [(pg:Int)]:Nat):Int)≤(M.left:Nat)by omega)];rfl }
    have e1:VR (⟨M,Rf⟩:PM) S pg=(((((⟨M,Rf⟩:PM).take 1 S.owner).link S.kernel (idxN pg 0) (⟨M,Rf⟩:PM).got).link S.user (idxN pg 0) (⟨M,Rf⟩:PM).got),(S.grown (⟨M,Rf⟩:PM).got)):=if_pos h37
    have e2:xz ((((⟨M,Rf⟩:PM).take 1 S.owner).link S.kernel (idxN pg 0) (⟨M,Rf⟩:PM).got).link S.user (idxN pg 0) (⟨M,Rf⟩:PM).got) (S.grown (⟨M,Rf⟩:PM).got) pg=(((((((⟨M,Rf⟩:PM).take 1 S.owner).link S.kernel (idxN pg 0) (⟨M,Rf⟩:PM).got).link S.user (idxN pg 0) (⟨M,Rf⟩:PM).got).take 1 (S.grown (⟨M,Rf⟩:PM).got).owner).link (((((⟨M,Rf⟩:PM).take 1 S.owner).link S.kernel (idxN pg 0) (⟨M,Rf⟩:PM).got).link S.user (idxN pg 0) (⟨M,Rf⟩:PM).got).M.below (S.grown (⟨M,Rf⟩:PM).got).kernel (idxN pg 0)) (idxN pg 1) ((((⟨M,Rf⟩:PM).take 1 S.owner).link S.kernel (idxN pg 0) (⟨M,Rf⟩:PM).got).link S.user (idxN pg 0) (⟨M,Rf⟩:PM).got).got),((S.grown (⟨M,Rf⟩:PM).got).grown ((((⟨M,Rf⟩:PM).take 1 S.owner).link S.kernel (idxN pg 0) (⟨M,Rf⟩:PM).got).link S.user (idxN pg 0) (⟨M,Rf⟩:PM).got).got)):=if_pos h67
    have e3:PM.setPage (⟨M,Rf⟩:PM) S pg x=(((((((⟨M,Rf⟩:PM).take 1 S.owner).link S.kernel (idxN pg 0) (⟨M,Rf⟩:PM).got).link S.user (idxN pg 0) (⟨M,Rf⟩:PM).got).take 1 (S.grown (⟨M,Rf⟩:PM).got).owner).link (((((⟨M,Rf⟩:PM).take 1 S.owner).link S.kernel (idxN pg 0) (⟨M,Rf⟩:PM).got).link S.user (idxN pg 0) (⟨M,Rf⟩:PM).got).M.below (S.grown (⟨M,Rf⟩:PM).got).kernel (idxN pg 0)) (idxN pg 1) ((((⟨M,Rf⟩:PM).take 1 S.owner).link S.kernel (idxN pg 0) (⟨M,Rf⟩:PM).got).link S.user (idxN pg 0) (⟨M,Rf⟩:PM).got).got).write (8*((((((⟨M,Rf⟩:PM).take 1 S.owner).link S.kernel (idxN pg 0) (⟨M,Rf⟩:PM).got).link S.user (idxN pg 0) (⟨M,Rf⟩:PM).got).take 1 (S.grown (⟨M,Rf⟩:PM).got).owner).link (((((⟨M,Rf⟩:PM).take 1 S.owner).link S.kernel (idxN pg 0) (⟨M,Rf⟩:PM).got).link S.user (idxN pg 0) (⟨M,Rf⟩:PM).got).M.below (S.grown (⟨M,Rf⟩:PM).got).kernel (idxN pg 0)) (idxN pg 1) ((((⟨M,Rf⟩:PM).take 1 S.owner).link S.kernel (idxN pg 0) (⟨M,Rf⟩:PM).got).link S.user (idxN pg 0) (⟨M,Rf⟩:PM).got).got).M.last S.kernel pg+(idxN pg 2:Nat)) x,((S.grown (⟨M,Rf⟩:PM).got).grown ((((⟨M,Rf⟩:PM).take 1 S.owner).link S.kernel (idxN pg 0) (⟨M,Rf⟩:PM).got).link S.user (idxN pg 0) (⟨M,Rf⟩:PM).got).got)):=by { unfold PM.setPage;rw [if_pos em];unfold da;rw [Int.toNat_natCast,e1];simp only [e2] }
    rw [em,e3]
    refine⟨_,⟨rfl,rfl⟩,?_⟩
    exact Sub.mk2 (qG (S:=((S.grown (⟨M,Rf⟩:PM).got).grown ((((⟨M,Rf⟩:PM).take 1 S.owner).link S.kernel (idxN pg 0) (⟨M,Rf⟩:PM).got).link S.user (idxN pg 0) (⟨M,Rf⟩:PM).got).got)) hS) Y
   refine Z 4 J (zO [0,1,3,7,0,0,48,112,0,368,1008,0,4095] [([0,1,2,3,4,5,8,11],[3],some 6),([7],[3,7],some 9),([10],[3,7,10],some 12),([],[],none)] (by kernel_rfl) ?_)
   refine z4 (ZK 2 J (zj J Y (ye J Y J (ZK 4 J (z5 ⟨(y6 J Y J J J z6),?_⟩)))))
   refine Z2 (Yj _ _ _ _ ({ S with tables:=S.tables++ [((PM.got ⟨M,Rf⟩:Nat):Int)] } :zm) hS _ _ pg (by omega)) J Y Y (zF (z4 (vN rfl (fun _=>zC rfl rfl rfl (uG (VT (zA.last_bd _ _ _)))) ?_)))
   refine z5 ⟨(y6 J Y J J J (vF rfl (fun _=>zC rfl rfl rfl (uG (VT (zA.last_bd _ _ _)))) rfl rfl (z3 _ rfl) z6)),?_⟩
   refine Z0 (vR _ pg 2 (by omega) (by decide)) J (zF (z4 (vN rfl (fun _=>zC rfl rfl rfl (vj (Vb (zA.last_bd _ _ _) (qV _ _)))) ?_)))
   refine z5 ⟨(y6 J Y J J J (vF rfl (fun _=>zC rfl rfl rfl (uG (VT (zA.last_bd _ _ _)))) rfl rfl (z3 _ rfl) (vF rfl (fun _=>zC rfl rfl rfl (vj (Vb (zA.last_bd _ _ _) (qV _ _)))) rfl rfl (z3 _ rfl) z6))),?_⟩
   refine Z1 (jT _ _ _ _ (Vb (zA.last_bd _ _ _) (qV _ _)).2 x hx) J Y (zF (z4 (z5 ⟨z6,?_⟩)))
   refine OX 5 J (zE J J J ?_)
   have em:uM ⟨M,Rf⟩ S pg=true:=by { unfold uM;rw [decide_eq_true h12,decide_eq_true (show((zA.need M S.kernel [(pg:Int)]:Nat):Int)≤(M.left:Nat)by omega)];rfl }
   have e1:VR (⟨M,Rf⟩:PM) S pg=(((((⟨M,Rf⟩:PM).take 1 S.owner).link S.kernel (idxN pg 0) (⟨M,Rf⟩:PM).got).link S.user (idxN pg 0) (⟨M,Rf⟩:PM).got),(S.grown (⟨M,Rf⟩:PM).got)):=if_pos h37
   have e2:xz ((((⟨M,Rf⟩:PM).take 1 S.owner).link S.kernel (idxN pg 0) (⟨M,Rf⟩:PM).got).link S.user (idxN pg 0) (⟨M,Rf⟩:PM).got) (S.grown (⟨M,Rf⟩:PM).got) pg=(((((⟨M,Rf⟩:PM).take 1 S.owner).link S.kernel (idxN pg 0) (⟨M,Rf⟩:PM).got).link S.user (idxN pg 0) (⟨M,Rf⟩:PM).got),(S.grown (⟨M,Rf⟩:PM).got)):=if_neg h67
   have e3:PM.setPage (⟨M,Rf⟩:PM) S pg x=(((((⟨M,Rf⟩:PM).take 1 S.owner).link S.kernel (idxN pg 0) (⟨M,Rf⟩:PM).got).link S.user (idxN pg 0) (⟨M,Rf⟩:PM).got).write (8*((((⟨M,Rf⟩:PM).take 1 S.owner).link S.kernel (idxN pg 0) (⟨M,Rf⟩:PM).got).link S.user (idxN pg 0) (⟨M,Rf⟩:PM).got).M.last S.kernel pg+(idxN pg 2:Nat)) x,(S.grown (⟨M,Rf⟩:PM).got)):=by { unfold PM.setPage;rw [if_pos em];unfold da;rw [Int.toNat_natCast,e1];simp only [e2] }
   rw [em,e3]
   refine⟨_,⟨rfl,rfl⟩,?_⟩
   exact Sub.mk2 (qG (S:=(S.grown (⟨M,Rf⟩:PM).got)) hS) Y
  refine Z 9 J (fa J Y (ld J Y J (Z 1 J (Z2 (gJ _ _ _ _ S _ _ _ _ (kb hk) (by omega)) J Y Y (Z 7 J (Z2 (gJ _ _ _ _ S _ _ _ _ (zA.below_bd _ _ _) (by omega)) J Y Y (Z 1 J (z0 (fun h67=> ?_) (fun h67=> ?_)))))))))
  ·refine Z 7 J (uL (qD m _) fun hM1=> ?_)
   refine je (Yk _ _ _ _ S _ _ _ (by omega)) rfl (fun _=>rfl) ?_
   rintro _ _ ⟨tw72,rfl,rfl⟩
   refine Z2 (Vw _ _ _ _ { S with tables:=_ } _ _ _ _ _ (G4 hM1) (zA.below_bd _ _ _) (by omega)) J Y Y (Z 2 J (zO [0,1,3,7,0,0,48,112,0,368,1008,0,4095] [([0,1,2,3,4,5,8,11],[3],some 6),([7],[3,7],some 9),([10],[3,7,10],some 12),([],[],none)] (by kernel_rfl) ?_))
   refine z4 (ZK 2 J (zj J Y (ye J Y J (ZK 4 J (z5 ⟨(y6 J Y J J J z6),?_⟩)))))
   refine Z2 (Yj _ _ _ _ { S with tables:=_ } hS _ _ pg (by omega)) J Y Y (zF (z4 (vN rfl (fun _=>zC rfl rfl rfl (uG (VT (zA.last_bd _ _ _)))) ?_)))
   refine z5 ⟨(y6 J Y J J J (vF rfl (fun _=>zC rfl rfl rfl (uG (VT (zA.last_bd _ _ _)))) rfl rfl (z3 _ rfl) z6)),?_⟩
   refine Z0 (vR _ pg 2 (by omega) (by decide)) J (zF (z4 (vN rfl (fun _=>zC rfl rfl rfl (vj (Vb (zA.last_bd _ _ _) (qV _ _)))) ?_)))
   refine z5 ⟨(y6 J Y J J J (vF rfl (fun _=>zC rfl rfl rfl (uG (VT (zA.last_bd _ _ _)))) rfl rfl (z3 _ rfl) (vF rfl (fun _=>zC rfl rfl rfl (vj (Vb (zA.last_bd _ _ _) (qV _ _)))) rfl rfl (z3 _ rfl) z6))),?_⟩
   refine Z1 (jT _ _ _ _ (Vb (zA.last_bd _ _ _) (qV _ _)).2 x hx) J Y (zF (z4 (z5 ⟨z6,?_⟩)))
   refine OX 5 J (zE J J J ?_)
   have em:uM ⟨M,Rf⟩ S pg=true:=by { unfold uM;rw [decide_eq_true h12,decide_eq_true (show((zA.need M S.kernel [(pg:Int)]:Nat):Int)≤(M.left:Nat)by omega)];rfl }
   have e1:VR (⟨M,Rf⟩:PM) S pg=((⟨M,Rf⟩:PM),S):=if_neg h37
   have e2:xz (⟨M,Rf⟩:PM) S pg=((((⟨M,Rf⟩:PM).take 1 S.owner).link ((⟨M,Rf⟩:PM).M.below S.kernel (idxN pg 0)) (idxN pg 1) (⟨M,Rf⟩:PM).got),(S.grown (⟨M,Rf⟩:PM).got)):=if_pos h67
   have e3:PM.setPage (⟨M,Rf⟩:PM) S pg x=((((⟨M,Rf⟩:PM).take 1 S.owner).link ((⟨M,Rf⟩:PM).M.below S.kernel (idxN pg 0)) (idxN pg 1) (⟨M,Rf⟩:PM).got).write (8*(((⟨M,Rf⟩:PM).take 1 S.owner).link ((⟨M,Rf⟩:PM).M.below S.kernel (idxN pg 0)) (idxN pg 1) (⟨M,Rf⟩:PM).got).M.last S.kernel pg+(idxN pg 2:Nat)) x,(S.grown (⟨M,Rf⟩:PM).got)):=by { unfold PM.setPage;rw [if_pos em];unfold da;rw [Int.toNat_natCast,e1];simp only [e2] }
   rw [em,e3]
   refine⟨_,⟨rfl,rfl⟩,?_⟩
   exact Sub.mk2 (qG (S:=(S.grown (⟨M,Rf⟩:PM).got)) hS) Y
  refine Z 4 J (zO [0,1,3,7,0,0,48,112,0,368,1008,0,4095] [([0,1,2,3,4,5,8,11],[3],some 6),([7],[3,7],some 9),([10],[3,7,10],some 12),([],[],none)] (by kernel_rfl) ?_)
  refine z4 (ZK 2 J (zj J Y (ye J Y J (ZK 4 J (z5 ⟨(y6 J Y J J J z6),?_⟩)))))
  refine Z2 (Yj _ _ _ _ S hS _ _ pg (by omega)) J Y Y (zF (z4 (vN rfl (fun _=>zC rfl rfl rfl (uG (VT (zA.last_bd _ _ _)))) ?_)))
  refine z5 ⟨(y6 J Y J J J (vF rfl (fun _=>zC rfl rfl rfl (uG (VT (zA.last_bd _ _ _)))) rfl rfl (z3 _ rfl) z6)),?_⟩
  refine Z0 (vR _ pg 2 (by omega) (by decide)) J (zF (z4 (vN rfl (fun _=>zC rfl rfl rfl (vj (Vb (zA.last_bd _ _ _) (qV _ _)))) ?_)))
  refine z5 ⟨(y6 J Y J J J (vF rfl (fun _=>zC rfl rfl rfl (uG (VT (zA.last_bd _ _ _)))) rfl rfl (z3 _ rfl) (vF rfl (fun _=>zC rfl rfl rfl (vj (Vb (zA.last_bd _ _ _) (qV _ _)))) rfl rfl (z3 _ rfl) z6))),?_⟩
  refine Z1 (jT _ _ _ _ (Vb (zA.last_bd _ _ _) (qV _ _)).2 x hx) J Y (zF (z4 (z5 ⟨z6,?_⟩)))
  refine OX 5 J (zE J J J ?_)
  have em:uM ⟨M,Rf⟩ S pg=true:=by { unfold uM;rw [decide_eq_true h12,decide_eq_true (show((zA.need M S.kernel [(pg:Int)]:Nat):Int)≤(M.left:Nat)by omega)];rfl }
  have e1:VR (⟨M,Rf⟩:PM) S pg=((⟨M,Rf⟩:PM),S):=if_neg h37
  have e2:xz (⟨M,Rf⟩:PM) S pg=((⟨M,Rf⟩:PM),S):=if_neg h67
  have e3:PM.setPage (⟨M,Rf⟩:PM) S pg x=((⟨M,Rf⟩:PM).write (8*(⟨M,Rf⟩:PM).M.last S.kernel pg+(idxN pg 2:Nat)) x,S):=by { unfold PM.setPage;rw [if_pos em];unfold da;rw [Int.toNat_natCast,e1];simp only [e2] }
  rw [em,e3]
  refine⟨_,⟨rfl,rfl⟩,?_⟩
  exact Sub.mk2 (qG (S:=S) hS) Y
 refine zF (z4 (ZK 9 J (z5 ⟨(zx rfl z6),?_⟩)))
 refine gW rfl (zF (z4 (z5 ⟨(zx rfl z6),?_⟩)))
 refine gW rfl (zF (z4 (ZK 2 J (z5 ⟨(zx rfl z6),?_⟩))))
 refine OX 6 J (zE J J J ?_)
 have e:uM ⟨M,Rf⟩ S page=false:=by { unfold uM;rw [decide_eq_false h12];rfl }
 have e2:PM.setPage ⟨M,Rf⟩ S page x=(⟨M,Rf⟩,S):=if_neg (by rw [e];nofun)
 rw [e,e2]
 exact⟨_,⟨rfl,rfl⟩,Sub.mk2 (qG hS) Y⟩
abbrev jW (fr cpus:Int) (kpti inv:Bool):List AVal:= [vi fr,vi cpus,.bool kpti,.bool inv]
def jU (M:zA) (g:Nat) (rs:List Int):zA:=rs.foldl (fun M r=>M.write (8*r+(7:Nat)) (qq true true false g)) M
theorem Gp {M:zA} {g c:Nat} {rs:List Int} {z:Int} (hz:rs[c]? =some z):jU M g (rs.take (c+1))=(jU M g (rs.take c)).write (8*z+(7:Nat)) (qq true true false g):=qK _ _ _ _ _ hz
def PM.space (s:PM) (kpti:Bool) (mp g:Nat) (owner:Int):Option (PM×zm):=
 if s.M.left<(if kpti then 2 else 1)then none else
  if kpti then
   let s1:=s.take 1 owner
   let s2:=s1.take 1 owner
   some (⟨jU (s2.M.write (8*((s.got:Nat):Int)+(4:Nat)) (qq true false false mp)) g [((s.got:Nat):Int),((s1.got:Nat):Int)],s2.R⟩,⟨owner,s.got,s1.got,[((s.got:Nat):Int),((s1.got:Nat):Int)]⟩)
  else
   let s1:=s.take 1 owner
   some (⟨jU (s1.M.write (8*((s.got:Nat):Int)+(4:Nat)) (qq true false false mp)) g [((s.got:Nat):Int),((s.got:Nat):Int)],s1.R⟩,⟨owner,s.got,s.got,[((s.got:Nat):Int)]⟩)
theorem oJ (R:List SP) (m p:Nat) (M:zA) (Rf:List (Int×Int)) (fr cpus:Int) (kpti inv:Bool) (mp g:Nat) (hmp:mp<1099511627776) (hgt:g<1099511627776) (owner:Int):zy 107 [.agg (jW fr cpus kpti inv),.agg [vi (mp:Nat),vi (g:Nat)],vp m 0,vp p 0,vi owner] (ent zX p ⟨m,Rf⟩::ent zQ m M::R) fun v L=>match PM.space ⟨M,Rf⟩ kpti mp g owner with
 |some (s,S)=> ∃a,v= .tuple [vp a 0,.bool true]∧L=ent qs a ⟨m,p,S⟩::ent zX p ⟨m,s.R⟩::ent zQ m s.M::R
 |none=>v= .tuple [.ptr none,.bool false]∧L=ent zX p ⟨m,Rf⟩::ent zQ m M::R:=by
 refine yQ (qD m M) fun hM=> ?_
 have hn:=hM.2.1
 refine SW.intro rfl Tryz.func107 rfl ?_
 refine O0 2 J (yW rfl rfl rfl rfl fun i5=> ?_)
 refine yW rfl rfl rfl rfl fun i6=> ?_
 refine Z 10 J (fa J Y (ld J Y J (zN (fun h17=> ?_) (fun h17=> ?_))))
 ·subst h17
  refine Z 9 J (Z2 (UX _ _ _ _ _) J Y Y (Z 2 J (z0 (fun h21=> ?_) (fun h21=> ?_))))
  ·refine Z 8 J (qO J J J J ?_)
   have e:PM.space ⟨M,Rf⟩ true mp g owner=none:=if_pos (by show M.left<2;omega)
   rw [e]
   exact fq
  refine Z 8 J (bu [_,_,_,_,_,_] J Y Y J (yW rfl rfl rfl rfl fun i26=> ?_))
  refine Z 6 J (zR (M:=ent z8 i26 (GK m p ⟨owner,0,0,[]⟩ (.slice none 0 (some 0) 0))::ent (zP yK 1) (.slice none 0 (some 0) 0) ([]:List Int)::ent zX p ⟨m,Rf⟩::ent zQ m M::ent z8 i6 [vi (mp:Nat),vi (g:Nat)]::ent z8 i5 (jW fr cpus true inv)::R) ((Sub.nilE (α:=Int) (en:=yK) (es:=1) (fun _=>rfl) (by decide) 0 _).trans (show Sub _ (ent z8 i26 (AVal.agg [vp m 0,vp p 0,vi owner,.int .i64 (.lit 0),.int .i64 (.lit 0),.slice none 0 (some 0) 0]).cells::ent (zP yK 1) (.slice none 0 (some 0) 0) ([]:List Int)::ent zX p ⟨m,Rf⟩::ent zQ m M::ent z8 i6 (AVal.agg [vi (mp:Nat),vi (g:Nat)]).cells::ent z8 i5 (AVal.agg (jW fr cpus true inv)).cells::R)from Y)) ?_)
  refine je (Yk _ _ _ _ ⟨owner,0,0,[]⟩ _ M Rf (by show 0≤1000000;omega)) rfl (fun _=>rfl) ?_
  rintro _ _ ⟨tw29,rfl,rfl⟩
  refine yn (w:=vi ((PM.got ⟨M,Rf⟩:Nat):Int)) rfl ?_
  refine AQ (M:=ent z8 i26 (GK m p ⟨owner,0,0,[((PM.got ⟨M,Rf⟩:Nat):Int)]⟩ tw29)::ent (zP yK 1) tw29 [((PM.got ⟨M,Rf⟩:Nat):Int)]::ent zX p ⟨m,(PM.take ⟨M,Rf⟩ 1 owner).R⟩::ent zQ m (PM.take ⟨M,Rf⟩ 1 owner).M::ent z8 i6 [vi (mp:Nat),vi (g:Nat)]::ent z8 i5 (jW fr cpus true inv)::R) rfl ?_
  refine Z 1 J (fa J Y (sO J Y J J J (Z 6 J (fa J Y (ld J Y J (Z 1 J (fa J Y (sO J Y J J J (Z 4 J (fa J Y (ld J Y J (Z 5 J (uL (qD m _) fun hMt=> ?_)))))))))))))
  refine je (Yk _ _ _ _ ⟨owner,PM.got ⟨M,Rf⟩,PM.got ⟨M,Rf⟩,[((PM.got ⟨M,Rf⟩:Nat):Int)]⟩ _ _ _ (by show 1≤1000000;omega)) rfl (fun _=>rfl) ?_
  rintro _ _ ⟨tw43,rfl,rfl⟩
  refine yn (w:=vi ((PM.got (PM.take ⟨M,Rf⟩ 1 owner):Nat):Int)) rfl ?_
  refine AQ (M:=ent z8 i26 (GK m p ⟨owner,PM.got ⟨M,Rf⟩,PM.got ⟨M,Rf⟩,[((PM.got ⟨M,Rf⟩:Nat):Int),((PM.got (PM.take ⟨M,Rf⟩ 1 owner):Nat):Int)]⟩ tw43)::ent (zP yK 1) tw43 [((PM.got ⟨M,Rf⟩:Nat):Int),((PM.got (PM.take ⟨M,Rf⟩ 1 owner):Nat):Int)]::ent zX p ⟨m,(PM.take (PM.take ⟨M,Rf⟩ 1 owner) 1 owner).R⟩::ent zQ m (PM.take (PM.take ⟨M,Rf⟩ 1 owner) 1 owner).M::ent z8 i6 [vi (mp:Nat),vi (g:Nat)]::ent z8 i5 (jW fr cpus true inv)::R) rfl ?_
  refine Z 1 J (fa J Y (sO J Y J J J (Z 2 J (zO [0,0,2,6,14,0,32,96,255] [([0,1,2,3,4,5,6,7],[4,6],some 8),([],[],none)] (by kernel_rfl) ?_))))
  refine z4 (ZK 3 J (zj J Y (ye J Y J (zj J Y (ye J Y J (p7 [_,_,_,_,_] J Y Y J (z5 ⟨(y6 J Y J J J (y6 J Y J J J z6)),?_⟩)))))))
  refine Z1 (ZN _ _ _ _ 4 _ _ _ _ mp hmp (gk hM) (by omega)) J Y (zF (z4 (z5 ⟨z6,?_⟩)))
  refine OX 2 J (zO [0,1,3,7,0,16,48,112,255,511,0] [([0,1,2,3,4,5,6,7,8,9,10],[3,7,9],none)] (by kernel_rfl) ?_)
  refine z4 (ZK 2 J (zj J Y (ye J Y J (ZK 2 J (zj J Y (ye J Y J (va (cs:= [_,_]) rfl rfl rfl (by decide) rfl fun i63=> ?_)))))))
  refine ot (Sub.one (K:=z8) (a:=i63) (x:= [vi ((PM.got ⟨M,Rf⟩:Nat):Int),vi ((PM.got (PM.take ⟨M,Rf⟩ 1 owner):Nat):Int)]) (K2:=zP yK 1) (a2:= .slice (some (i63,0)) 2 (some 2) 1) (x2:= [((PM.got ⟨M,Rf⟩:Nat):Int),((PM.got (PM.take ⟨M,Rf⟩ 1 owner):Nat):Int)]) fun f hf=>Zf (en:=yK) (es:=1) (xs:= [((PM.got ⟨M,Rf⟩:Nat):Int),((PM.got (PM.take ⟨M,Rf⟩ 1 owner):Nat):Int)]) (fun _=>rfl) (by decide) f hf) ?_
  refine uW rfl (fun _ h=>y0 rfl rfl rfl rfl rfl h) ?_
  refine ZK 1 J (z5 ⟨(y6 J Y J J J (y6 J Y J J J (wV rfl (fun _ h=>y0 rfl rfl rfl rfl rfl h) rfl rfl (z3 _ rfl) z6))),?_⟩)
  refine OX 1 J (zl (fun j T L=> ∃(c:Nat),(c≤2)∧j=2-c∧T.len=5∧Tm.get 2 T=some (vp m 0)∧Tm.get 6 T=some (vp i6 0)∧Tm.get 13 T=some (vp i26 0)∧Tm.get 63 T=some (.slice (some (i63,0)) 2 (some 2) 1)∧Tm.get 64 T=some (vi (2:Nat))∧Tm.get 65 T=some (vi (c:Nat))∧Sub L (ent zQ m (jU ((PM.take (PM.take ⟨M,Rf⟩ 1 owner) 1 owner).M.write (8*((PM.got ⟨M,Rf⟩:Nat):Int)+(4:Nat)) (qq true false false mp)) g ([((PM.got ⟨M,Rf⟩:Nat):Int),((PM.got (PM.take ⟨M,Rf⟩ 1 owner):Nat):Int)].take c))::ent (zP yK 1) (.slice (some (i63,0)) 2 (some 2) 1) [((PM.got ⟨M,Rf⟩:Nat):Int),((PM.got (PM.take ⟨M,Rf⟩ 1 owner):Nat):Int)]::ent z8 i6 [vi (mp:Nat),vi (g:Nat)]::ent z8 i26 (GK m p ⟨owner,PM.got ⟨M,Rf⟩,(PM.got (PM.take ⟨M,Rf⟩ 1 owner):Nat),[((PM.got ⟨M,Rf⟩:Nat):Int),((PM.got (PM.take ⟨M,Rf⟩ 1 owner):Nat):Int)]⟩ tw43)::ent (zP yK 1) tw43 [((PM.got ⟨M,Rf⟩:Nat):Int),((PM.got (PM.take ⟨M,Rf⟩ 1 owner):Nat):Int)]::ent zX p ⟨m,(PM.take (PM.take ⟨M,Rf⟩ 1 owner) 1 owner).R⟩::R)) (2) ⟨0,by omega,by omega,rfl,rfl,rfl,rfl,rfl,rfl,rfl,(show Sub _ (ent zQ m ((PM.take (PM.take ⟨M,Rf⟩ 1 owner) 1 owner).M.write (8*((PM.got ⟨M,Rf⟩:Nat):Int)+(4:Nat)) (qq true false false mp))::ent (zP yK 1) (.slice (some (i63,0)) 2 (some 2) 1) [((PM.got ⟨M,Rf⟩:Nat):Int),((PM.got (PM.take ⟨M,Rf⟩ 1 owner):Nat):Int)]::ent z8 i6 [vi (mp:Nat),vi (g:Nat)]::ent z8 i26 [vp m 0,vp p 0,vi owner,vi ((PM.got ⟨M,Rf⟩:Nat):Int),vi ((PM.got (PM.take ⟨M,Rf⟩ 1 owner):Nat):Int),tw43]::ent (zP yK 1) tw43 [((PM.got ⟨M,Rf⟩:Nat):Int),((PM.got (PM.take ⟨M,Rf⟩ 1 owner):Nat):Int)]::ent zX p ⟨m,(PM.take (PM.take ⟨M,Rf⟩ 1 owner) 1 owner).R⟩::R)from Y)⟩ ?_)
  rintro j T L0 ⟨c,hc,rfl,hl,g2,g6,g13,g63,g64,g65,hsb⟩
  obtain⟨tg,rfl⟩:=oC hl g2 g6 g13 g63 g64 g65
  clear hl g2 g6 g13 g63 g64 g65
  refine zu hsb ?_
  clear hsb L0
  refine O0 3 J (z0 (fun h66=> ?_) (fun h66=> ?_))
  ·refine Z 8 J ?_
   obtain⟨z,hz⟩: ∃z,([((PM.got ⟨M,Rf⟩:Nat):Int),((PM.got (PM.take ⟨M,Rf⟩ 1 owner):Nat):Int)]:List Int)[c]? =some z:=⟨([((PM.got ⟨M,Rf⟩:Nat):Int),((PM.got (PM.take ⟨M,Rf⟩ 1 owner):Nat):Int)]:List Int)[c]'(by show c<2;omega),List.getElem?_eq_getElem (by show c<2;omega)⟩
   have hzb: -1≤z∧z<1099511627776:=by { rcases(by omega:c=0∨c=1)with rfl|rfl;cases hz;exact gk hM;cases hz;exact gk hMt }
   refine yo rfl (fun _ h=>yM rfl rfl rfl (by omega) (by show(c:Int)<(2:Nat);omega) h) ?_
   refine lE 0 J Y J hz J (Z 5 J (fa J Y (ld J Y J (bu [_,_,_,_,_] J Y Y J (Z1 (ZN _ _ _ z 7 _ _ _ _ g hgt hzb (by omega)) J Y (Z 2 J (ad J (Z 2 J ?_))))))))
   exact Or.inl ⟨rfl,_,by omega,c+1,by omega,rfl,rfl,rfl,rfl,rfl,rfl,rfl,rfl,(by rw [Gp hz];exact Y)⟩
  refine Z 4 J (Or.inr ⟨nofun,?_⟩)
  refine OX 7 J (qO J J J J ?_)
  have hc2:c=2:=by omega
  subst hc2
  have e:PM.space ⟨M,Rf⟩ true mp g owner=some (⟨jU ((PM.take (PM.take ⟨M,Rf⟩ 1 owner) 1 owner).M.write (8*((PM.got ⟨M,Rf⟩:Nat):Int)+(4:Nat)) (qq true false false mp)) g [((PM.got ⟨M,Rf⟩:Nat):Int),((PM.got (PM.take ⟨M,Rf⟩ 1 owner):Nat):Int)],(PM.take (PM.take ⟨M,Rf⟩ 1 owner) 1 owner).R⟩,⟨owner,PM.got ⟨M,Rf⟩,(PM.got (PM.take ⟨M,Rf⟩ 1 owner):Nat),[((PM.got ⟨M,Rf⟩:Nat):Int),((PM.got (PM.take ⟨M,Rf⟩ 1 owner):Nat):Int)]⟩):=(if_neg (by show¬M.left<2;omega)).trans (if_pos rfl)
  rw [e]
  rw [show([((PM.got ⟨M,Rf⟩:Nat):Int),((PM.got (PM.take ⟨M,Rf⟩ 1 owner):Nat):Int)]:List Int).take 2= [((PM.got ⟨M,Rf⟩:Nat):Int),((PM.got (PM.take ⟨M,Rf⟩ 1 owner):Nat):Int)]from rfl]
  have hg1:PM.got ⟨M,Rf⟩≤M.n:=PM.got_le _
  have hg2:=PM.got_le (PM.take ⟨M,Rf⟩ 1 owner)
  rw [PM.take_n]at hg2
  have hg2:PM.got (PM.take ⟨M,Rf⟩ 1 owner)≤M.n:=hg2
  exact⟨_,⟨i26,rfl,rfl⟩,Sub.mk2 (qG (S:=⟨owner,PM.got ⟨M,Rf⟩,(PM.got (PM.take ⟨M,Rf⟩ 1 owner):Nat),[((PM.got ⟨M,Rf⟩:Nat):Int),((PM.got (PM.take ⟨M,Rf⟩ 1 owner):Nat):Int)]⟩) ⟨by show PM.got ⟨M,Rf⟩≤64;omega,by show(PM.got (PM.take ⟨M,Rf⟩ 1 owner):Nat)≤64;omega⟩) Y⟩
 subst h17
 refine Z 7 J (Z2 (UX _ _ _ _ _) J Y Y (Z 2 J (z0 (fun h21=> ?_) (fun h21=> ?_))))
 ·refine Z 8 J (qO J J J J ?_)
  have e:PM.space ⟨M,Rf⟩ false mp g owner=none:=if_pos (by show M.left<1;omega)
  rw [e]
  exact fq
 refine Z 8 J (bu [_,_,_,_,_,_] J Y Y J (yW rfl rfl rfl rfl fun i26=> ?_))
 refine Z 6 J (zR (M:=ent z8 i26 (GK m p ⟨owner,0,0,[]⟩ (.slice none 0 (some 0) 0))::ent (zP yK 1) (.slice none 0 (some 0) 0) ([]:List Int)::ent zX p ⟨m,Rf⟩::ent zQ m M::ent z8 i6 [vi (mp:Nat),vi (g:Nat)]::ent z8 i5 (jW fr cpus false inv)::R) ((Sub.nilE (α:=Int) (en:=yK) (es:=1) (fun _=>rfl) (by decide) 0 _).trans (show Sub _ (ent z8 i26 (AVal.agg [vp m 0,vp p 0,vi owner,.int .i64 (.lit 0),.int .i64 (.lit 0),.slice none 0 (some 0) 0]).cells::ent (zP yK 1) (.slice none 0 (some 0) 0) ([]:List Int)::ent zX p ⟨m,Rf⟩::ent zQ m M::ent z8 i6 (AVal.agg [vi (mp:Nat),vi (g:Nat)]).cells::ent z8 i5 (AVal.agg (jW fr cpus false inv)).cells::R)from Y)) ?_)
 refine je (Yk _ _ _ _ ⟨owner,0,0,[]⟩ _ M Rf (by show 0≤1000000;omega)) rfl (fun _=>rfl) ?_
 rintro _ _ ⟨tw29,rfl,rfl⟩
 refine yn (w:=vi ((PM.got ⟨M,Rf⟩:Nat):Int)) rfl ?_
 refine AQ (M:=ent z8 i26 (GK m p ⟨owner,0,0,[((PM.got ⟨M,Rf⟩:Nat):Int)]⟩ tw29)::ent (zP yK 1) tw29 [((PM.got ⟨M,Rf⟩:Nat):Int)]::ent zX p ⟨m,(PM.take ⟨M,Rf⟩ 1 owner).R⟩::ent zQ m (PM.take ⟨M,Rf⟩ 1 owner).M::ent z8 i6 [vi (mp:Nat),vi (g:Nat)]::ent z8 i5 (jW fr cpus false inv)::R) rfl ?_
 refine Z 1 J (fa J Y (sO J Y J J J (Z 6 J (fa J Y (ld J Y J (Z 1 J (fa J Y (sO J Y J J J (Z 4 J (fa J Y (ld J Y J (Z 4 J (zO [0,0,2,6,14,0,32,96,255] [([0,1,2,3,4,5,6,7],[4,6],some 8),([],[],none)] (by kernel_rfl) ?_)))))))))))))
 refine z4 (ZK 3 J (zj J Y (ye J Y J (zj J Y (ye J Y J (p7 [_,_,_,_,_] J Y Y J (z5 ⟨(y6 J Y J J J (y6 J Y J J J z6)),?_⟩)))))))
 refine Z1 (ZN _ _ _ _ 4 _ _ _ _ mp hmp (gk hM) (by omega)) J Y (zF (z4 (z5 ⟨z6,?_⟩)))
 refine OX 2 J (zO [0,1,3,7,0,16,48,112,255,511,0] [([0,1,2,3,4,5,6,7,8,9,10],[3,7,9],none)] (by kernel_rfl) ?_)
 refine z4 (ZK 2 J (zj J Y (ye J Y J (ZK 2 J (zj J Y (ye J Y J (va (cs:= [_,_]) rfl rfl rfl (by decide) rfl fun i63=> ?_)))))))
 refine ot (Sub.one (K:=z8) (a:=i63) (x:= [vi ((PM.got ⟨M,Rf⟩:Nat):Int),vi ((PM.got ⟨M,Rf⟩:Nat):Int)]) (K2:=zP yK 1) (a2:= .slice (some (i63,0)) 2 (some 2) 1) (x2:= [((PM.got ⟨M,Rf⟩:Nat):Int),((PM.got ⟨M,Rf⟩:Nat):Int)]) fun f hf=>Zf (en:=yK) (es:=1) (xs:= [((PM.got ⟨M,Rf⟩:Nat):Int),((PM.got ⟨M,Rf⟩:Nat):Int)]) (fun _=>rfl) (by decide) f hf) ?_
 refine uW rfl (fun _ h=>y0 rfl rfl rfl rfl rfl h) ?_
 refine ZK 1 J (z5 ⟨(y6 J Y J J J (y6 J Y J J J (wV rfl (fun _ h=>y0 rfl rfl rfl rfl rfl h) rfl rfl (z3 _ rfl) z6))),?_⟩)
 refine OX 1 J (zl (fun j T L=> ∃(c:Nat),(c≤2)∧j=2-c∧T.len=5∧Tm.get 2 T=some (vp m 0)∧Tm.get 6 T=some (vp i6 0)∧Tm.get 13 T=some (vp i26 0)∧Tm.get 63 T=some (.slice (some (i63,0)) 2 (some 2) 1)∧Tm.get 64 T=some (vi (2:Nat))∧Tm.get 65 T=some (vi (c:Nat))∧Sub L (ent zQ m (jU ((PM.take ⟨M,Rf⟩ 1 owner).M.write (8*((PM.got ⟨M,Rf⟩:Nat):Int)+(4:Nat)) (qq true false false mp)) g ([((PM.got ⟨M,Rf⟩:Nat):Int),((PM.got ⟨M,Rf⟩:Nat):Int)].take c))::ent (zP yK 1) (.slice (some (i63,0)) 2 (some 2) 1) [((PM.got ⟨M,Rf⟩:Nat):Int),((PM.got ⟨M,Rf⟩:Nat):Int)]::ent z8 i6 [vi (mp:Nat),vi (g:Nat)]::ent z8 i26 (GK m p ⟨owner,PM.got ⟨M,Rf⟩,(PM.got ⟨M,Rf⟩:Nat),[((PM.got ⟨M,Rf⟩:Nat):Int)]⟩ tw29)::ent (zP yK 1) tw29 [((PM.got ⟨M,Rf⟩:Nat):Int)]::ent zX p ⟨m,(PM.take ⟨M,Rf⟩ 1 owner).R⟩::R)) (2) ⟨0,by omega,by omega,rfl,rfl,rfl,rfl,rfl,rfl,rfl,(show Sub _ (ent zQ m ((PM.take ⟨M,Rf⟩ 1 owner).M.write (8*((PM.got ⟨M,Rf⟩:Nat):Int)+(4:Nat)) (qq true false false mp))::ent (zP yK 1) (.slice (some (i63,0)) 2 (some 2) 1) [((PM.got ⟨M,Rf⟩:Nat):Int),((PM.got ⟨M,Rf⟩:Nat):Int)]::ent z8 i6 [vi (mp:Nat),vi (g:Nat)]::ent z8 i26 [vp m 0,vp p 0,vi owner,vi ((PM.got ⟨M,Rf⟩:Nat):Int),vi ((PM.got ⟨M,Rf⟩:Nat):Int),tw29]::ent (zP yK 1) tw29 [((PM.got ⟨M,Rf⟩:Nat):Int)]::ent zX p ⟨m,(PM.take ⟨M,Rf⟩ 1 owner).R⟩::R)from Y)⟩ ?_)
 rintro j T L0 ⟨c,hc,rfl,hl,g2,g6,g13,g63,g64,g65,hsb⟩
 obtain⟨tg,rfl⟩:=oC hl g2 g6 g13 g63 g64 g65
 clear hl g2 g6 g13 g63 g64 g65
 refine zu hsb ?_
 clear hsb L0
 refine O0 3 J (z0 (fun h66=> ?_) (fun h66=> ?_))
 ·refine Z 8 J ?_
  obtain⟨z,hz⟩: ∃z,([((PM.got ⟨M,Rf⟩:Nat):Int),((PM.got ⟨M,Rf⟩:Nat):Int)]:List Int)[c]? =some z:=⟨([((PM.got ⟨M,Rf⟩:Nat):Int),((PM.got ⟨M,Rf⟩:Nat):Int)]:List Int)[c]'(by show c<2;omega),List.getElem?_eq_getElem (by show c<2;omega)⟩
  have hzb: -1≤z∧z<1099511627776:=by { rcases(by omega:c=0∨c=1)with rfl|rfl;cases hz;exact gk hM;cases hz;exact gk hM }
  refine yo rfl (fun _ h=>yM rfl rfl rfl (by omega) (by show(c:Int)<(2:Nat);omega) h) ?_
  refine lE 0 J Y J hz J (Z 5 J (fa J Y (ld J Y J (bu [_,_,_,_,_] J Y Y J (Z1 (ZN _ _ _ z 7 _ _ _ _ g hgt hzb (by omega)) J Y (Z 2 J (ad J (Z 2 J ?_))))))))
  exact Or.inl ⟨rfl,_,by omega,c+1,by omega,rfl,rfl,rfl,rfl,rfl,rfl,rfl,rfl,(by rw [Gp hz];exact Y)⟩
 refine Z 4 J (Or.inr ⟨nofun,?_⟩)
 refine OX 7 J (qO J J J J ?_)
 have hc2:c=2:=by omega
 subst hc2
 have e:PM.space ⟨M,Rf⟩ false mp g owner=some (⟨jU ((PM.take ⟨M,Rf⟩ 1 owner).M.write (8*((PM.got ⟨M,Rf⟩:Nat):Int)+(4:Nat)) (qq true false false mp)) g [((PM.got ⟨M,Rf⟩:Nat):Int),((PM.got ⟨M,Rf⟩:Nat):Int)],(PM.take ⟨M,Rf⟩ 1 owner).R⟩,⟨owner,PM.got ⟨M,Rf⟩,(PM.got ⟨M,Rf⟩:Nat),[((PM.got ⟨M,Rf⟩:Nat):Int)]⟩):=(if_neg (by show¬M.left<1;omega)).trans (if_neg nofun)
 rw [e]
 rw [show([((PM.got ⟨M,Rf⟩:Nat):Int),((PM.got ⟨M,Rf⟩:Nat):Int)]:List Int).take 2= [((PM.got ⟨M,Rf⟩:Nat):Int),((PM.got ⟨M,Rf⟩:Nat):Int)]from rfl]
 have hg1:PM.got ⟨M,Rf⟩≤M.n:=PM.got_le _
 exact⟨_,⟨i26,rfl,rfl⟩,Sub.mk2 (qG (S:=⟨owner,PM.got ⟨M,Rf⟩,(PM.got ⟨M,Rf⟩:Nat),[((PM.got ⟨M,Rf⟩:Nat):Int)]⟩) ⟨by show PM.got ⟨M,Rf⟩≤64;omega,by show(PM.got ⟨M,Rf⟩:Nat)≤64;omega⟩) Y⟩
def qE (M:zA) (c:Int) (f:Nat):Nat→zA
 |0=>M
 |k+1=>(qE M c f k).mark ((f+k:Nat):Int) c (-1)
def jl (M:zA) (kp:Bool) (j:Nat):Nat→zA
 |0=>M
 |k+1=>if 8*j+k<(jl M kp j k).n then(jl M kp j k).write (8*(4+(j:Int))+(k:Nat)) (qq true false (!kp) (8*j+k))else jl M kp j k
def j8 (M:zA) (kp:Bool):Nat→zA
 |0=>M
 |q+1=>jl ((j8 M kp q).write (8*3+(q:Nat)) (qq true false false (4+q))) kp q 8
def JK (M:zA) (kp:Bool):zA:=((j8 ((qE (qE (M.mark 0 5 (-1)) 4 1 2) 1 3 12).mark 12 3 (-1)) kp 8).write (8*13+(0:Nat)) (qq true true false 14)).write (8*14+(0:Nat)) (qq false true true 12)
def uV (M:zA) (fr cpus:Int):Bool:=decide (24≤fr∧fr≤64∧fr=M.n∧1≤cpus∧cpus≤2)
theorem ek (R:List SP) (m:Nat) (M:zA) (fr cpus:Int) (kpti inv:Bool):zy 98 [.agg (jW fr cpus kpti inv),vp m 0] (ent zQ m M::R) fun v L=>v= .tuple [.agg [vi (if uV M fr cpus then 3 else 0),vi (if uV M fr cpus then 13 else 0)],.bool (uV M fr cpus)]∧L=ent zQ m (if uV M fr cpus then JK M kpti else M)::R:=by
 refine SW.intro rfl Tryz.func98 rfl ?_
 refine O0 2 J (yW rfl rfl rfl rfl fun i2=> ?_)
 refine zd rfl rfl rfl fun i4=> ?_
 refine Z 4 J (zO [0,1,3,7,15,31,63,127,255,511,1023,511,2559,8191,16383,32767,65535,131071,262143,524287,1048575,2097151,4194303,8388607,16777215] [([0,1,2,3,4,5,6,7,8,9,10,11],[1,2,5,6,10],some 12),([13,14,15,16,17,18,19,20,21,22,23,24],[10,13,17,18,22,23],none)] (by kernel_rfl) ?_)
 refine z4 (zj J Y (ye J Y J (ZK 1 J (qJ (fun h13=> ?_) (fun h13=> ?_)))))
 ·refine ZK 9 J (z5 ⟨(y6 J Y J J J (gv J J J (by rw [decide_eq_true h13];rfl) (zx rfl (zx rfl (zx rfl z6))))),?_⟩)
  refine gW rfl (zF (z4 (ZK 12 J (z5 ⟨(zx rfl (zx rfl (zx rfl (zx rfl (zx rfl (zx rfl z6)))))),?_⟩))))
  refine OX 3 J (bu [_,_] J Y Y J (sN J Y Y J J J (Z 3 J (⟨.inr rfl,_,fun _ h=>(zi (y8 rfl (yS rfl (Nat.le_of_ble_eq_true rfl) h)) (zi (za rfl) q7)),?_⟩))))
  have e:uV M fr cpus=false:=decide_eq_false (by omega)
  rw [e]
  simp only [Bool.false_eq_true,if_false]
  exact fq
 refine ZK 1 J (zj J Y (ye J Y J (ZK 1 J (qJ (fun h17=> ?_) (fun h17=> ?_)))))
 ·refine ZK 5 J (z5 ⟨(y6 J Y J J J (gv J J J (by rw [decide_eq_false h13];rfl) (y6 J Y J J J (gv J J J (by rw [decide_eq_true h17];rfl) (zx rfl z6))))),?_⟩)
  refine gW rfl (zF (z4 (ZK 12 J (z5 ⟨(zx rfl (zx rfl (zx rfl (zx rfl (zx rfl (zx rfl z6)))))),?_⟩))))
  refine OX 3 J (bu [_,_] J Y Y J (sN J Y Y J J J (Z 3 J (⟨.inr rfl,_,fun _ h=>(zi (y8 rfl (yS rfl (Nat.le_of_ble_eq_true rfl) h)) (zi (za rfl) q7)),?_⟩))))
  have e:uV M fr cpus=false:=decide_eq_false (by omega)
  rw [e]
  simp only [Bool.false_eq_true,if_false]
  exact fq
 refine ZK 2 J (zj J Y (ye J Y J (ZK 1 J (z5 ⟨(y6 J Y J J J (gv J J J (by rw [decide_eq_false h13];rfl) (y6 J Y J J J (gv J J J (by rw [decide_eq_false h17];rfl) (y6 J Y J J J z6))))),?_⟩))))
 refine Z1 (vk _ _ _) J Y (zF (z4 (ZK 1 J (qJ (fun h24=> ?_) (fun h24=> ?_)))))
 ·refine ZK 11 J (z5 ⟨(y6 J Y J J J (gv J J J (by rw [decide_eq_true h24];rfl) (zx rfl (zx rfl (zx rfl (zx rfl z6)))))),?_⟩)
  refine OX 3 J (bu [_,_] J Y Y J (sN J Y Y J J J (Z 3 J (⟨.inr rfl,_,fun _ h=>(zi (y8 rfl (yS rfl (Nat.le_of_ble_eq_true rfl) h)) (zi (za rfl) q7)),?_⟩))))
  have e:uV M fr cpus=false:=decide_eq_false (by omega)
  rw [e]
  simp only [Bool.false_eq_true,if_false]
  exact fq
 refine ZK 2 J (zj J Y (ye J Y J (ZK 1 J (qJ (fun h29=> ?_) (fun h29=> ?_)))))
 ·refine ZK 6 J (z5 ⟨(y6 J Y J J J (gv J J J (by rw [decide_eq_false h24];rfl) (y6 J Y J J J (gv J J J (by rw [decide_eq_true h29];rfl) (zx rfl (zx rfl z6)))))),?_⟩)
  refine OX 3 J (bu [_,_] J Y Y J (sN J Y Y J J J (Z 3 J (⟨.inr rfl,_,fun _ h=>(zi (y8 rfl (yS rfl (Nat.le_of_ble_eq_true rfl) h)) (zi (za rfl) q7)),?_⟩))))
  have e:uV M fr cpus=false:=decide_eq_false (by omega)
  rw [e]
  simp only [Bool.false_eq_true,if_false]
  exact fq
 refine ZK 2 J (zj J Y (ye J Y J (ZK 1 J (qJ (fun h34=> ?_) (fun h34=> ?_)))))
 ·refine ZK 1 J (z5 ⟨(y6 J Y J J J (gv J J J (by rw [decide_eq_false h24];rfl) (y6 J Y J J J (gv J J J (by rw [decide_eq_false h29];rfl) (y6 J Y J J J (gv J J J (by rw [decide_eq_true h34];rfl) z6)))))),?_⟩)
  refine OX 3 J (bu [_,_] J Y Y J (sN J Y Y J J J (Z 3 J (⟨.inr rfl,_,fun _ h=>(zi (y8 rfl (yS rfl (Nat.le_of_ble_eq_true rfl) h)) (zi (za rfl) q7)),?_⟩))))
  have e:uV M fr cpus=false:=decide_eq_false (by omega)
  rw [e]
  simp only [Bool.false_eq_true,if_false]
  exact fq
 refine ZK 1 J (z5 ⟨(y6 J Y J J J (gv J J J (by rw [decide_eq_false h24];rfl) (y6 J Y J J J (gv J J J (by rw [decide_eq_false h29];rfl) (y6 J Y J J J (gv J J J (by rw [decide_eq_false h34];rfl) z6)))))),?_⟩)
 refine OX 5 J (Z1 (QA _ _ M 0 5 (-1)) J Y (Z 7 J (zl (fun j T L=> ∃(k:Nat),(k≤2)∧j=2-k∧T.len=6∧Tm.get 1 T=some (vp m 0)∧Tm.get 2 T=some (vp i2 0)∧Tm.get 4 T=some (vp i4 0)∧Tm.get 39 T=some (vi (k:Nat))∧Sub L (ent zQ m (qE (M.mark 0 5 (-1)) 4 1 k)::ent z8 i4 [vi 0,vi 0]::ent z8 i2 (jW fr cpus kpti inv)::R)) (2) ⟨0,by omega,by omega,rfl,rfl,rfl,rfl,rfl,(show Sub _ (ent zQ m (M.mark 0 5 (-1))::ent z8 i4 (AVal.agg [.int .i64 (.lit 0),.int .i64 (.lit 0)]).cells::ent z8 i2 (AVal.agg (jW fr cpus kpti inv)).cells::R)from Y)⟩ ?_)))
 rintro j T L0 ⟨k,hk,rfl,hl,g1,g2,g4,g39,hsb⟩
 obtain⟨tg,rfl⟩:=W7 hl g1 g2 g4 g39
 clear hl g1 g2 g4 g39
 refine zu hsb ?_
 clear hsb L0
 refine O0 3 J (z0 (fun h40=> ?_) (fun h40=> ?_))
 ·refine Z 14 J (ad J (yn (w:=vi ((1+k:Nat):Int)) (by congr 2) ?_))
  refine Z1 (QA _ _ _ _ _ _) J Y (Z 2 J (ad J (Z 2 J ?_)))
  exact Or.inl ⟨rfl,_,by omega,k+1,by omega,rfl,rfl,rfl,rfl,rfl,rfl,(show Sub _ (ent zQ m ((qE (M.mark 0 5 (-1)) 4 1 k).mark ((1+k:Nat):Int) 4 (-1))::ent z8 i4 [vi 0,vi 0]::ent z8 i2 (jW fr cpus kpti inv)::R)from Y)⟩
 refine Z 4 J (Or.inr ⟨nofun,?_⟩)
 refine OX 6 J ?_
 have e2:k=2:=by omega
 subst e2
 refine zl (fun j T L=> ∃(k:Nat),(k≤12)∧j=12-k∧T.len=6∧Tm.get 1 T=some (vp m 0)∧Tm.get 2 T=some (vp i2 0)∧Tm.get 4 T=some (vp i4 0)∧Tm.get 7 T=some (vi ((3+k:Nat):Int))∧Sub L (ent zQ m (qE (qE (M.mark 0 5 (-1)) 4 1 2) 1 3 k)::ent z8 i4 [vi 0,vi 0]::ent z8 i2 (jW fr cpus kpti inv)::R)) (12) ⟨0,by omega,by omega,rfl,rfl,rfl,rfl,rfl,(show Sub _ (ent zQ m (qE (M.mark 0 5 (-1)) 4 1 2)::ent z8 i4 [vi 0,vi 0]::ent z8 i2 (jW fr cpus kpti inv)::R)from Y)⟩ ?_
 rintro j T L0 ⟨k,hk,rfl,hl,g1,g2,g4,g7,hsb⟩
 obtain⟨tg,rfl⟩:=W7 hl g1 g2 g4 g7
 clear hl g1 g2 g4 g7
 refine zu hsb ?_
 clear hsb L0
 refine O0 5 J (z0 (fun h48=> ?_) (fun h48=> ?_))
 ·refine Z 8 J (Z1 (QA _ _ _ _ _ _) J Y (Z 3 J (ad J (Z 2 J ?_))))
  exact Or.inl ⟨rfl,_,by omega,k+1,by omega,rfl,rfl,rfl,rfl,rfl,rfl,(show Sub _ (ent zQ m ((qE (qE (M.mark 0 5 (-1)) 4 1 2) 1 3 k).mark ((3+k:Nat):Int) 1 (-1))::ent z8 i4 [vi 0,vi 0]::ent z8 i2 (jW fr cpus kpti inv)::R)from Y)⟩
 refine Z 3 J (Or.inr ⟨nofun,?_⟩)
 refine OX 3 J (Z1 (QA _ _ _ _ _ _) J Y (Z 7 J ?_))
 have e2:k=12:=by omega
 subst e2
 refine zl (fun j T L=> ∃(q:Nat),(q≤8)∧j=8-q∧T.len=6∧Tm.get 1 T=some (vp m 0)∧Tm.get 2 T=some (vp i2 0)∧Tm.get 4 T=some (vp i4 0)∧Tm.get 56 T=some (vi (q:Nat))∧Sub L (ent zQ m (j8 ((qE (qE (M.mark 0 5 (-1)) 4 1 2) 1 3 12).mark 12 3 (-1)) kpti q)::ent z8 i4 [vi 0,vi 0]::ent z8 i2 (jW fr cpus kpti inv)::R)) (8) ⟨0,by omega,by omega,rfl,rfl,rfl,rfl,rfl,(show Sub _ (ent zQ m ((qE (qE (M.mark 0 5 (-1)) 4 1 2) 1 3 12).mark 12 3 (-1))::ent z8 i4 [vi 0,vi 0]::ent z8 i2 (jW fr cpus kpti inv)::R)from Y)⟩ ?_
 rintro j T L0 ⟨q,hj,rfl,hl,g1,g2,g4,g56,hsb⟩
 obtain⟨tg,rfl⟩:=W7 hl g1 g2 g4 g56
 clear hl g1 g2 g4 g56
 refine zu hsb ?_
 clear hsb L0
 refine O0 3 J (z0 (fun h57=> ?_) (fun h57=> ?_))
 ·refine Z 16 J (ad J (yn (w:=vi ((4+q:Nat):Int)) (by congr 2) ?_))
  refine bu [_,_,_,_,_] J Y Y J (Z1 (ZN _ _ _ 3 q _ _ _ _ (4+q) (by omega) (by omega) (by omega)) J Y (Z 6 J (zl (fun j T L=> ∃(k:Nat),(k≤8)∧j=8-k∧T.len=6∧Tm.get 1 T=some (vp m 0)∧Tm.get 2 T=some (vp i2 0)∧Tm.get 4 T=some (vp i4 0)∧Tm.get 8 T=some (vi (q:Nat))∧Tm.get 56 T=some (vi (q:Nat))∧Tm.get 65 T=some (vi (k:Nat))∧Sub L (ent zQ m (jl ((j8 ((qE (qE (M.mark 0 5 (-1)) 4 1 2) 1 3 12).mark 12 3 (-1)) kpti q).write (8*3+(q:Nat)) (qq true false false (4+q))) kpti q k)::ent z8 i4 [vi 0,vi 0]::ent z8 i2 (jW fr cpus kpti inv)::R)) (8) ⟨0,by omega,by omega,rfl,rfl,rfl,rfl,rfl,rfl,rfl,(show Sub _ (ent zQ m ((j8 ((qE (qE (M.mark 0 5 (-1)) 4 1 2) 1 3 12).mark 12 3 (-1)) kpti q).write (8*3+(q:Nat)) (qq true false false (4+q)))::ent z8 i4 [vi 0,vi 0]::ent z8 i2 (jW fr cpus kpti inv)::R)from Y)⟩ ?_)))
  rintro j T L0 ⟨k,hk,rfl,hl,g1,g2,g4,g8,g56,g65,hsb⟩
  obtain⟨tg,rfl⟩:=oC hl g1 g2 g4 g8 g56 g65
  clear hl g1 g2 g4 g8 g56 g65
  refine zu hsb ?_
  clear hsb L0
  refine O0 3 J (z0 (fun h66=> ?_) (fun h66=> ?_))
  ·refine Z 14 J (ml J (Z 1 J (ad J (yn (w:=vi ((8*q+k:Nat):Int)) (by congr 2) ?_))))
   refine Z 6 J (Z1 (vk _ _ _) J Y (Z 1 J (z0 (fun h75=> ?_) (fun h75=> ?_))))
   ·refine Z 5 J (ad J (Z 1 J (fa J Y (ld J Y J (Z 2 J (bu [_,_,_,_,_] J Y Y J (Z1 (ZN _ _ _ (4+(q:Int)) k _ _ _ _ (8*q+k) (by omega) (by omega) (by omega)) J Y (Z 2 J (ad J (Z 2 J ?_))))))))))
    have e1:jl ((j8 ((qE (qE (M.mark 0 5 (-1)) 4 1 2) 1 3 12).mark 12 3 (-1)) kpti q).write (8*3+(q:Nat)) (qq true false false (4+q))) kpti q (k+1)=(jl ((j8 ((qE (qE (M.mark 0 5 (-1)) 4 1 2) 1 3 12).mark 12 3 (-1)) kpti q).write (8*3+(q:Nat)) (qq true false false (4+q))) kpti q k).write (8*(4+(q:Int))+(k:Nat)) (qq true false (!kpti) (8*q+k)):=if_pos (by omega)
    exact Or.inl ⟨rfl,_,by omega,k+1,by omega,rfl,rfl,rfl,rfl,rfl,rfl,rfl,rfl,(by rw [e1];exact Y)⟩
   refine Z 4 J (ad J (Z 2 J ?_))
   have e1:jl ((j8 ((qE (qE (M.mark 0 5 (-1)) 4 1 2) 1 3 12).mark 12 3 (-1)) kpti q).write (8*3+(q:Nat)) (qq true false false (4+q))) kpti q (k+1)=jl ((j8 ((qE (qE (M.mark 0 5 (-1)) 4 1 2) 1 3 12).mark 12 3 (-1)) kpti q).write (8*3+(q:Nat)) (qq true false false (4+q))) kpti q k:=if_neg (by omega)
   exact Or.inl ⟨rfl,_,by omega,k+1,by omega,rfl,rfl,rfl,rfl,rfl,rfl,rfl,rfl,(by rw [e1];exact Y)⟩
  refine Z 4 J (Or.inr ⟨nofun,?_⟩)
  refine OX 1 J (ad J (Z 2 J ?_))
  have e2:k=8:=by omega
  subst e2
  exact Or.inl ⟨rfl,_,by omega,q+1,by omega,rfl,rfl,rfl,rfl,rfl,rfl,(show Sub _ (ent zQ m (jl ((j8 ((qE (qE (M.mark 0 5 (-1)) 4 1 2) 1 3 12).mark 12 3 (-1)) kpti q).write (8*3+(q:Nat)) (qq true false false (4+q))) kpti q 8)::ent z8 i4 [vi 0,vi 0]::ent z8 i2 (jW fr cpus kpti inv)::R)from Y)⟩
 refine Z 4 J (Or.inr ⟨nofun,?_⟩)
 refine OX 3 J (bu [_,_,_,_,_] J Y Y J (Z1 (ZN _ _ _ 13 0 _ _ _ _ 14 (by omega) (by omega) (by omega)) J Y (Z 4 J (bu [_,_,_,_,_] J Y Y J (Z1 (ZN _ _ _ 14 0 _ _ _ _ 12 (by omega) (by omega) (by omega)) J Y (Z 3 J (bu [_,_] J Y Y J (sN J Y Y J J J (Z 3 J (⟨.inr rfl,_,fun _ h=>(zi (y8 rfl (yS rfl (Nat.le_of_ble_eq_true rfl) h)) (zi (za rfl) q7)),?_⟩))))))))))
 have e2:q=8:=by omega
 subst e2
 have e:uV M fr cpus=true:=decide_eq_true (by omega)
 rw [e]
 simp only [if_true]
 exact⟨_,⟨rfl,rfl⟩,(show Sub _ (ent zQ m (JK M kpti)::R)from(show Sub _ (ent zQ m (((j8 ((qE (qE (M.mark 0 5 (-1)) 4 1 2) 1 3 12).mark 12 3 (-1)) kpti 8).write (8*13+(0:Nat)) (qq true true false 14)).write (8*14+(0:Nat)) (qq false true true 12))::R)from Y))⟩
abbrev rA (x:Nat):List AVal:= [vu x]
def gZ (ws:List Nat):Bool:=ws.all fun x=>decide (x≤4611686018427387904)
def br (ws:List Nat):List Int:=if gZ ws then ws.map fun x:Nat=>(x:Int)else List.replicate ws.length 0
def zM (f n:Int):List Int:=(List.range n.toNat).map fun i:Nat=>f+i
theorem nk {ws:List Nat} {q x:Nat} (hx:ws[q]? =some x) (h:4611686018427387904<x):gZ ws=false:=by
 unfold gZ
 rw [List.all_eq_false]
 exact⟨x,List.mem_iff_getElem?.2 ⟨q,hx⟩,by simp;omega⟩
theorem nB {ws:List Nat} (h: ∀(k x:Nat),ws[k]? =some x→x≤4611686018427387904):gZ ws=true:=by
 unfold gZ
 rw [List.all_eq_true]
 intro x hx
 obtain⟨k,hk⟩:=List.mem_iff_getElem?.1 hx
 simpa using h k x hk
theorem tq (v:AVal) (n:Nat): ∀o,zY (fun _=>v) o n=List.replicate n v:=by
 intro o
 apply List.ext_getElem?
 intro j
 by_cases hj:j<n
 ·rw [zq _ _ _ _ hj,List.getElem?_replicate,if_pos hj]
 rw [List.getElem?_eq_none (by rw [zo];omega),List.getElem?_replicate,if_neg hj]
theorem l9 (n:Nat):(List.replicate n (0:Int)).flatMap yK=List.replicate n (vi 0):=by
 induction n with
 |zero=>rfl
 |succ n ih=>rw [List.replicate_succ,List.flatMap_cons,ih,List.replicate_succ];rfl
theorem r7 {i n:Nat} : ∀h,zI i (n*1,fun _=>vi 0) h→zP yK 1 (.slice (some (i,0)) n (some n) 1) (List.replicate n 0) h:=
 el_close (en:=yK) (es:=1) (fun _=>rfl) (by decide) (by simp) ⟨by omega,fun k hk=>by cases hk;exact⟨by omega,Nat.le_refl _⟩⟩ (by rw [tq,l9,Nat.mul_one])
theorem tp {α β:Type} (f:α→β) {ws:List α} {q:Nat} {x:α} (hx:ws[q]? =some x):(ws.take q).map f++ [f x]=(ws.take (q+1)).map f:=by rw [List.take_add_one,hx];simp
theorem dP {β:Type} (f:Nat→β) (q:Nat):(List.range q).map f++ [f q]=(List.range (q+1)).map f:=by rw [List.range_succ];simp
theorem JN (R:List SP) (r:Int) (hr:r=0∨r=1∨r=3):zy 233 [vi r] (R) fun v L=>v= .bool (decide (r=3))∧L=R:=by
 refine SW.intro rfl Tryz.func233 rfl ?_
 refine O0 7 J ?_
 rcases hr with rfl|rfl|rfl
 ·refine zf rfl (fun _=>zC (v:=vi 0) rfl rfl rfl rfl) ?_
  exact Z 4 J (zE J J J fq)
 ·refine zf rfl (fun _=>zC (v:=vi 0) rfl rfl rfl rfl) ?_
  exact Z 4 J (zE J J J fq)
 refine zf rfl (fun _=>zC (v:=vi 2) rfl rfl rfl rfl) ?_
 exact Z 4 J (zE J J J fq)
theorem G9 (R:List SP) (f n:Int) (hf:0≤f∧f≤1000000) (hn:n≤1000000):zy 219 [vi f,vi n] (R) fun v L=>L=ent (zP yK 1) v (zM f n)::R:=by
 refine SW.intro rfl Tryz.func219 rfl ?_
 refine O0 15 J (zl (fun j T L=> ∃(q:Nat) (u:AVal),(q≤n.toNat)∧j=n.toNat-q∧T.len=2∧Tm.get 0 T=some (vi f)∧Tm.get 5 T=some (u)∧Tm.get 7 T=some (vi n)∧Tm.get 8 T=some (vi (q:Nat))∧Sub L (ent (zP yK 1) u ((List.range q).map fun i:Nat=>f+i)::R)) (n.toNat) ⟨0,.slice none 0 (some 0) 0,by omega,by omega,rfl,rfl,rfl,rfl,rfl,(Sub.nilE (α:=Int) (en:=yK) (es:=1) (fun _=>rfl) (by decide) 0 _)⟩ ?_)
 rintro j T L0 ⟨q,u,hq,rfl,hl,g0,g5,g7,g8,hsb⟩
 obtain⟨tg,rfl⟩:=W7 hl g0 g5 g7 g8
 clear hl g0 g5 g7 g8
 refine zu hsb ?_
 clear hsb L0
 have hl:((List.range q).map fun i:Nat=>f+(i:Int)).length=q:=by simp
 refine O0 3 J (z0 (fun h9=> ?_) (fun h9=> ?_))
 ·refine Z 15 J (ad J (zT (cs:= [_]) rfl rfl rfl (by decide) rfl fun i15=> ?_))
  refine gV rfl rfl rfl rfl rfl rfl rfl ([f+(q:Int)]) rfl rfl (by simp) (by show _+1≤_;omega) rfl fun i16 q16 c16=> ?_
  refine Z 3 J (ad J (Z 2 J ?_))
  exact Or.inl ⟨rfl,_,by omega,q+1,.slice (some (i16,q16)) (((List.range q).map fun i:Nat=>f+(i:Int)).length+1) c16 1,by omega,rfl,rfl,rfl,rfl,rfl,rfl,(by rw [←dP];exact Y)⟩
 refine Z 4 J (Or.inr ⟨nofun,?_⟩)
 refine OX 6 J (zE J J J ?_)
 have e:q=n.toNat:=by omega
 subst e
 exact⟨_,rfl,Sub.refl _⟩
theorem Jw (R:List SP) (pv:AVal) (ws:List Nat) (hw: ∀x,x ∈ ws→x≤18446744073709551615) (hl:ws.length≤1000):zy 216 [pv] (ent (zP rA 1) pv ws::R) fun v L=> ∃u,v= .tuple [u,.bool (gZ ws)]∧L=ent (zP yK 1) u (br ws)::ent (zP rA 1) pv ws::R:=by
 refine SW.intro rfl Tryz.func216 rfl ?_
 refine O0 13 J (yo rfl (fun _ h=>y0 rfl rfl rfl rfl rfl h) ?_)
 refine Z 3 J (zl (fun j T L=> ∃(q:Nat) (u:AVal),(q≤ws.length)∧(∀(k x:Nat),k<q→ws[k]? =some x→x≤4611686018427387904)∧j=ws.length-q∧T.len=2∧Tm.get 0 T=some (pv)∧Tm.get 4 T=some (u)∧Tm.get 7 T=some (pv)∧Tm.get 8 T=some (vi (ws.length:Nat))∧Tm.get 9 T=some (vi (q:Nat))∧Sub L (ent (zP yK 1) u ((ws.take q).map fun x:Nat=>(x:Int))::ent (zP rA 1) pv ws::R)) (ws.length) ⟨0,.slice none 0 (some 0) 0,by omega,fun k x h=>absurd h (Nat.not_lt_zero k),by omega,rfl,rfl,rfl,rfl,rfl,rfl,(Sub.nilE (α:=Int) (en:=yK) (es:=1) (fun _=>rfl) (by decide) 0 _)⟩ ?_)
 rintro j T L0 ⟨q,u,hq,hno,rfl,hl,g0,g4,g7,g8,g9,hsb⟩
 obtain⟨tg,rfl⟩:=ef hl g0 g4 g7 g8 g9
 clear hl g0 g4 g7 g8 g9
 refine zu hsb ?_
 clear hsb L0
 have hl2:((ws.take q).map fun x:Nat=>(x:Int)).length=q:=by simp;omega
 refine O0 3 J (z0 (fun h10=> ?_) (fun h10=> ?_))
 ·refine Z 8 J ?_
  obtain⟨x,hx⟩: ∃x,ws[q]? =some x:=⟨ws[q]'(by omega),List.getElem?_eq_getElem (by omega)⟩
  have hxb:=hw x (List.mem_iff_getElem?.2 ⟨_,hx⟩)
  refine yo rfl (fun _ h=>yM rfl rfl rfl (by omega) (by omega) h) ?_
  refine lE 0 J Y J hx J (Z 7 J (z0 (fun h14=> ?_) (fun h14=> ?_)))
  ·refine Z 5 J (yo rfl (fun _ h=>y0 rfl rfl rfl rfl rfl h) ?_)
   refine US (n:=ws.length) (vi 0) (by simp [AVal.cells]) rfl rfl rfl rfl (by omega) (by omega) (by omega) fun i17=> ?_
   refine Z 4 J (Or.inr ⟨nofun,?_⟩)
   refine qO J J J J ?_
   have e:gZ ws=false:=nk hx (by omega)
   have e2:br ws=List.replicate ws.length 0:=if_neg (by rw [e];nofun)
   rw [e,e2]
   exact⟨_,⟨_,rfl,rfl⟩,(Sub.one (K:=zI) (a:=i17) (K2:=zP yK 1) (a2:= .slice (some (i17,0)) ws.length (some ws.length) 1) (x2:=List.replicate ws.length 0) fun f hf=>r7 _ hf).trans Y⟩
  refine Z 6 J (zf rfl (fun _=>qT rfl rfl (wi (by omega))) ?_)
  refine zT (cs:= [_]) rfl rfl rfl (by decide) rfl fun i21=> ?_
  refine gV rfl rfl rfl rfl rfl rfl rfl ([(x:Int)]) rfl rfl (by simp) (by show _+1≤_;omega) rfl fun i22 q22 c22=> ?_
  refine Z 3 J (ad J (Z 2 J ?_))
  exact Or.inl ⟨rfl,_,by omega,q+1,.slice (some (i22,q22)) (((ws.take q).map fun x:Nat=>(x:Int)).length+1) c22 1,by omega,fun k y hk hy=>by { rcases Nat.lt_succ_iff_lt_or_eq.1 hk with hk|rfl;exact hno k y hk hy;rw [hx]at hy;cases hy;omega },rfl,rfl,rfl,rfl,rfl,rfl,rfl,(by rw [←tp _ hx];exact Y)⟩
 refine Z 4 J (Or.inr ⟨nofun,?_⟩)
 refine OX 7 J (qO J J J J ?_)
 have e0:q=ws.length:=by omega
 subst e0
 have e:gZ ws=true:=nB fun k x hk=>hno k x (List.getElem?_eq_some_iff.1 hk).1 hk
 have e2:br ws=ws.map fun x:Nat=>(x:Int):=if_pos e
 rw [List.take_length,e,e2]
 exact⟨_,⟨_,rfl,rfl⟩,Y⟩
structure Wd where
 fr:Int
 cpus:Int
 kpti:Bool
 inv:Bool
 m:Nat
 p:Nat
 sw:Nat
 mp:Nat
 gate:Nat
abbrev J1 (W:Wd) (owner:Int) (a s i j:Nat):List AVal:= [vi W.fr,vi W.cpus,.bool W.kpti,.bool W.inv,vp W.m 0,vp W.p 0,vp W.sw 0,vi (W.mp:Nat),vi (W.gate:Nat),vi owner,vp a 0,vp s 0,.map (some i),.map (some j)]
def jQ (l:List (Int×Int)):Prop:= ∀p,p ∈ l→0≤p.2∧p.2≤64
theorem o4 {l:List (Int×Int)} {z v:Int} (h:ym l z=some v):(z,v) ∈ l:=by
 induction l with
 |nil=>cases h
 |cons p l ih=>
  simp only [ym]at h
  by_cases e:p.1=z
  ·rw [if_pos e]at h;cases h;subst e;exact List.mem_cons_self
  rw [if_neg e]at h;exact List.mem_cons_of_mem _ (ih h)
theorem cg {l:List (Int×Int)} {z v:Int} {p:Int×Int} (h:p ∈ insi l z v):p=(z,v)∨p ∈ l:=by
 induction l with
 |nil=>simp only [insi,List.mem_singleton]at h;exact .inl h
 |cons q l ih=>
  simp only [insi]at h
  split at h
  ·rcases List.mem_cons.1 h with h|h
   ·exact .inl h
   exact .inr (List.mem_cons_of_mem _ h)
  rcases List.mem_cons.1 h with h|h
  ·exact .inr (h▸List.mem_cons_self)
  rcases ih h with h|h
  ·exact .inl h
  exact .inr (List.mem_cons_of_mem _ h)
theorem cQ {l:List (Int×Int)} {z:Int} {p:Int×Int} (h:p ∈ Zy l z):p ∈ l:=by
 induction l with
 |nil=>exact h
 |cons q l ih=>
  simp only [Zy]at h
  split at h
  ·exact List.mem_cons_of_mem _ h
  rcases List.mem_cons.1 h with h|h
  ·exact h▸List.mem_cons_self
  exact List.mem_cons_of_mem _ (ih h)
theorem jQ.at {l:List (Int×Int)} (h:jQ l) (z:Int):0≤(ym l z).getD 0∧(ym l z).getD 0≤64:=by
 cases e:ym l z with
 |none=>exact⟨Int.le_refl _,by show(0:Int)≤64;omega⟩
 |some v=>exact h _ (o4 e)
def mAt (l:List (Int×Int)) (z:Int):Nat:=((ym l z).getD 0).toNat
theorem jQ.eq {l:List (Int×Int)} (h:jQ l) (z:Int):(ym l z).getD 0=(mAt l z:Nat):=(Int.toNat_of_nonneg (h.at z).1).symm
theorem jQ.le {l:List (Int×Int)} (h:jQ l) (z:Int):mAt l z≤64:=by have:=h.at z;unfold mAt;omega
theorem Y8 {A:Nat→Int} (h:dc A) (z:Int):y7 A z=0∨y7 A z=1∨y7 A z=3:=by
 unfold y7
 split
 ·split
  ·exact .inl rfl
  rcases h z.toNat with h|h|h|h
  ·contradiction
  ·exact .inl h
  ·exact .inr (.inl h)
  exact .inr (.inr h)
 exact .inl rfl
instance (A:Nat→Int) (z:Int):Decidable (WT A z):=by unfold WT;infer_instance
def wm (A:Nat→Int) (fm sm Rf:List (Int×Int)) (inv:Bool) (page:Int):Nat:=
 if WT A page then(if(ym sm page).isSome then YR (mAt sm page) inv else if y7 A page=0 then YR (mAt fm page) inv else qq (decide (y7 A page=3) && decide (vr Rf (mAt fm page:Nat)=1)) true false (mAt fm page))else 0
theorem nP {A:Nat→Int} {fm sm:List (Int×Int)} (hf:jQ fm) (Rf:List (Int×Int)) (inv:Bool) (page:Int):wm A fm sm Rf inv page≤18446744073709551615:=by
 have:=hf.le page
 unfold wm
 split
 ·split
  ·exact UA _ _
  split
  ·exact UA _ _
  exact xS _ _ _ _ (by omega)
 exact Nat.zero_le _
theorem rW (R:List SP) (v:Nat) (W:Wd) (o:Int) (a s i j:Nat) (A:Nat→Int) (fm sm Rf:List (Int×Int)) (hf:jQ fm) (hs:jQ sm) (page:Int):zy 257 [vp v 0,vi page] (ent z8 v (J1 W o a s i j)::ent qY a A::ent gP i fm::ent gP j sm::ent zX W.p ⟨W.m,Rf⟩::R) fun w L=>w=vu (wm A fm sm Rf W.inv page)∧L=ent z8 v (J1 W o a s i j)::ent qY a A::ent gP i fm::ent gP j sm::ent zX W.p ⟨W.m,Rf⟩::R:=by
 refine yQ (xO a A) fun hA=> ?_
 have hr3:=Y8 hA page
 have hfl:=hf.le page
 have hsl:=hs.le page
 refine SW.intro rfl Tryz.func257 rfl ?_
 refine O0 8 J (fa J Y (ld J Y J (Z 1 J (Z1 (xG _ _ _ _) J Y (Z 3 J (z0 (fun h20=> ?_) (fun h20=> ?_)))))))
 ·refine Z 16 J (fa J Y (ld J Y J (Z 1 J (yo rfl (fun _ h=>jh rfl rfl rfl h) ?_))))
  refine Z 2 J (yn (congrArg vi (hs.eq page)) ?_)
  refine Z 1 J (zN (fun h31=> ?_) (fun h31=> ?_))
  ·refine Z 13 J (fa J Y (fa J Y (fa J Y (ld J Y J (Z0 (xj _ (mAt sm page) _ (by omega)) J (Z 3 J (zE J J J ?_)))))))
   have e:wm A fm sm Rf W.inv page=YR (mAt sm page) W.inv:=(if_pos h20).trans (if_pos h31)
   rw [e]
   exact fq
  refine Z 13 J (fa J Y (ld J Y J (Z 1 J (yo rfl (fun _ h=>ua rfl rfl rfl h) ?_))))
  refine yn (congrArg vi (hf.eq page)) ?_
  refine Z 7 J (z0 (fun h48=> ?_) (fun h48=> ?_))
  ·refine Z 7 J (fa J Y (fa J Y (fa J Y (ld J Y J (Z0 (xj _ (mAt fm page) _ (by omega)) J (Z 3 J (zE J J J ?_)))))))
   have e:wm A fm sm Rf W.inv page=YR (mAt fm page) W.inv:=(if_pos h20).trans ((if_neg (by rw [h31];nofun)).trans (if_pos h48))
   rw [e]
   exact fq
  refine Z 6 J (Z0 (JN _ _ (by assumption)) J (z0 (fun h59=> ?_) (fun h59=> ?_)))
  ·refine Z 3 J (fa J Y (fa J Y (ld J Y J (Z 1 J (Z1 (JU _ _ _ _ _) J Y (Z 3 J (bu [_,_,_,_,_] J Y Y J (Z0 (dO _ _ _ _ (mAt fm page) (by omega)) J (Z 12 J (zE J J J ?_))))))))))
   have e:wm A fm sm Rf W.inv page=qq (decide (vr Rf (mAt fm page:Nat)=1)) true false (mAt fm page):=(if_pos h20).trans ((if_neg (by rw [h31];nofun)).trans ((if_neg h48).trans (by rw [decide_eq_true h59,Bool.true_and])))
   rw [e]
   exact fq
  refine Z 11 J (bu [_,_,_,_,_] J Y Y J (Z0 (dO _ _ _ _ (mAt fm page) (by omega)) J (Z 12 J (zE J J J ?_))))
  have e:wm A fm sm Rf W.inv page=qq false true false (mAt fm page):=(if_pos h20).trans ((if_neg (by rw [h31];nofun)).trans ((if_neg h48).trans (by rw [decide_eq_false h59,Bool.false_and])))
  rw [e]
  exact fq
 refine Z 15 J (zE J J J ?_)
 have e:wm A fm sm Rf W.inv page=0:=if_neg h20
 rw [e]
 exact fq
theorem vX (R:List SP) (v:Nat) (W:Wd) (o:Int) (a s i j:Nat) (A:Nat→Int) (fm sm Rf:List (Int×Int)) (hf:jQ fm) (hs:jQ sm) (M:zA) (S:zm) (hT:S.tables.length≤900000) (page:Int):zy 221 [vp v 0,vi page] (ent z8 v (J1 W o a s i j)::ent qY a A::ent gP i fm::ent gP j sm::ent zX W.p ⟨W.m,Rf⟩::ent qs s ⟨W.m,W.p,S⟩::ent zQ W.m M::R) fun w L=>w= .tuple []∧L=ent z8 v (J1 W o a s i j)::ent qY a A::ent gP i fm::ent gP j sm::ent zX W.p ⟨W.m,(PM.setPage ⟨M,Rf⟩ S page (wm A fm sm Rf W.inv page)).1.R⟩::ent qs s ⟨W.m,W.p,(PM.setPage ⟨M,Rf⟩ S page (wm A fm sm Rf W.inv page)).2⟩::ent zQ W.m (PM.setPage ⟨M,Rf⟩ S page (wm A fm sm Rf W.inv page)).1.M::R:=by
 refine SW.intro rfl Tryz.func221 rfl ?_
 refine zO [0,1,3,7,0,0,0,96,255] [([0,1,2,3,4,5,6],[3],some 7),([],[3],some 8),([],[],none)] (by kernel_rfl) ?_
 refine z4 (ZK 2 J (zj J Y (ye J Y J (ZK 3 J (z5 ⟨(y6 J Y J J J z6),?_⟩)))))
 refine Z5 (rW _ _ W _ _ _ _ _ A fm sm Rf hf hs _) J Y Y Y Y Y (zF (z4 (z5 ⟨(y6 J Y J J J z6),?_⟩)))
 refine Z3 (B7 _ _ _ _ S M Rf page _ (nP hf Rf W.inv page) hT) J Y Y Y (zF (z4 (z5 ⟨z6,?_⟩)))
 exact qz J J fq
structure GJ where
 fm:List (Int×Int)
 sm:List (Int×Int)
 s:PM
 w:jt
def GJ.loose (x:GJ) (page:Int):GJ:=if(ym x.sm page).isSome then { x with sm:=Zy x.sm page,w:=WE x.w (mAt x.sm page:Nat) } else { x with fm:=Zy x.fm page,s:=x.s.give (mAt x.fm page:Nat) }
theorem Uf (R:List SP) (v:Nat) (W:Wd) (o:Int) (a s i j:Nat) (fm sm Rf:List (Int×Int)) (hf:jQ fm) (hs:jQ sm) (M:zA) (Ws:jt) (page:Int):zy 176 [vp v 0,vi page] (ent z8 v (J1 W o a s i j)::ent gP i fm::ent gP j sm::ent zX W.p ⟨W.m,Rf⟩::ent zQ W.m M::ent y5 W.sw Ws::R) fun w L=>w= .tuple []∧L=ent z8 v (J1 W o a s i j)::ent gP i (GJ.loose ⟨fm,sm,⟨M,Rf⟩,Ws⟩ page).fm::ent gP j (GJ.loose ⟨fm,sm,⟨M,Rf⟩,Ws⟩ page).sm::ent zX W.p ⟨W.m,(GJ.loose ⟨fm,sm,⟨M,Rf⟩,Ws⟩ page).s.R⟩::ent zQ W.m (GJ.loose ⟨fm,sm,⟨M,Rf⟩,Ws⟩ page).s.M::ent y5 W.sw (GJ.loose ⟨fm,sm,⟨M,Rf⟩,Ws⟩ page).w::R:=by
 refine SW.intro rfl Tryz.func176 rfl ?_
 refine O0 5 J (fa J Y (ld J Y J (Z 1 J (yo rfl (fun _ h=>jh rfl rfl rfl h) ?_))))
 refine Z 2 J (yn (congrArg vi (hs.eq page)) ?_)
 refine Z 1 J (zN (fun h14=> ?_) (fun h14=> ?_))
 ·refine Z 12 J (fa J Y (fa J Y (ld J Y J (Z 1 J (Z1 (co _ _ _ _) J Y (Z 5 J (fa J Y (ld J Y J (Z 1 J (kA rfl rfl rfl rfl rfl rfl rfl ?_))))))))))
  refine Z 2 J (qz J J ?_)
  have e:(GJ.loose ⟨fm,sm,⟨M,Rf⟩,Ws⟩ page)=⟨fm,Zy sm page,⟨M,Rf⟩,WE Ws (mAt sm page:Nat)⟩:=if_pos h14
  rw [e]
  exact fq
 refine Z 10 J (zO [0,1,3,7,15,0,32,96,224,0,992,2047] [([0,1,2,3,4,5,6,7,8,9,10],[4,8,10],some 11),([],[],none)] (by kernel_rfl) ?_)
 refine z4 (ZK 2 J (zj J Y (zj J Y (ye J Y J (ZK 2 J (zj J Y (ye J Y J (ZK 1 J (uW rfl (fun _ h=>ua rfl rfl rfl h) ?_)))))))))
 refine js (congrArg vi (hf.eq page)) ?_
 refine z5 ⟨(y6 J Y J J J (y6 J Y J J J (wV rfl (fun _ h=>ua rfl rfl rfl h) rfl rfl (by rw [hf.eq page];exact z3 _ rfl) z6))),?_⟩
 refine Z2 (dT _ _ _ _ _ _) J Y Y (zF (z4 (z5 ⟨z6,?_⟩)))
 refine OX 3 J (fa J Y (ld J Y J (Z 1 J (kA rfl rfl rfl rfl rfl rfl rfl ?_))))
 refine Z 1 J (qz J J ?_)
 have e:(GJ.loose ⟨fm,sm,⟨M,Rf⟩,Ws⟩ page)=⟨Zy fm page,sm,PM.give ⟨M,Rf⟩ (mAt fm page:Nat),Ws⟩:=if_neg (by rw [h14];nofun)
 rw [e]
 exact fq
def Yv (W:jt) (M:zA) (z f:Int):Bool×jt×zA:=if(VX W z).isSome=true∧0≤f∧f<M.n then(true,WE W z,M.fill f ((VX W z).getD fun _=>0) 8)else(false,W,M)
theorem o8 (R:List SP) (s m:Nat) (W:jt) (M:zA) (z f:Int) (hz: ¬((VX W z).isSome=true∧0≤f∧f<M.n)):zy 261 [vp s 0,vp m 0,vi z,vi f] (ent y5 s W::ent zQ m M::R) fun v L=>v= .bool false∧L=ent y5 s W::ent zQ m M::R:=by
 refine yQ (p:=M.Ok) (qD m M) fun hM=> ?_
 have hM1:=hM.1
 have hM2:=hM.2.1
 refine zS (Za s W) fun i hW=> ?_
 dsimp only [Gt,List.cons_append,List.nil_append]
 refine SW.intro rfl Tryz.func261 rfl ?_
 refine O0 8 J (fa J Y (ld J Y J (Z 1 J (yo rfl (fun _ h=>kc (e:=e8) (fun _=>0) rfl rfl rfl rfl h) ?_))))
 refine Z 3 J (zN (fun h21=> ?_) (fun h21=> ?_))
 ·refine zd rfl rfl rfl fun i9=> ?_
  refine sN J Y Y J J J (Z 10 J (z0 (fun h26=> ?_) (fun h26=> ?_)))
  ·exact Z 14 J (zE J J J ⟨_,⟨rfl,rfl⟩,Sub.mk2 (qy hW) Y⟩)
  refine Z 4 J (Z1 (vk _ _ _) J Y (zf rfl (fun _=>zC rfl rfl rfl (JL rfl)) (GM ((by rcases Decidable.em ((M.n:Int)≤f)with h|h;exact h;exact absurd ⟨h21,by omega,by omega⟩ hz)) ?_)))
  exact Z 8 J (zE J J J ⟨_,⟨rfl,rfl⟩,Sub.mk2 (qy hW) Y⟩)
 refine zd rfl rfl rfl fun i9=> ?_
 exact sN J Y Y J J J (Z 24 J (zE J J J ⟨_,⟨rfl,rfl⟩,Sub.mk2 (qy hW) Y⟩))
theorem sQ (R:List SP) (s m:Nat) (W:jt) (M:zA) (z f:Int):zy 261 [vp s 0,vp m 0,vi z,vi f] (ent y5 s W::ent zQ m M::R) fun v L=>v= .bool (Yv W M z f).1∧L=ent y5 s (Yv W M z f).2.1::ent zQ m (Yv W M z f).2.2::R:=by
 by_cases h:(VX W z).isSome=true∧0≤f∧f<M.n
 ·have e:Yv W M z f=(true,WE W z,M.fill f ((VX W z).getD fun _=>0) 8):=if_pos h
  rw [e];exact Av R s m W M z f h.2 h.1
 have e:Yv W M z f=(false,W,M):=if_neg h
 rw [e];exact o8 R s m W M z f h
structure z7 where
 A:Nat→Int
 fm:List (Int×Int)
 sm:List (Int×Int)
 S:zm
 s:PM
 w:jt
abbrev z7.tell (x:z7) (inv:Bool) (page:Int):z7:= { x with s:=(x.s.setPage x.S page (wm x.A x.fm x.sm x.s.R inv page)).1,S:=(x.s.setPage x.S page (wm x.A x.fm x.sm x.s.R inv page)).2 }
abbrev z7.loose (x:z7) (page:Int):z7:= { x with fm:=(GJ.loose ⟨x.fm,x.sm,x.s,x.w⟩ page).fm,sm:=(GJ.loose ⟨x.fm,x.sm,x.s,x.w⟩ page).sm,s:=(GJ.loose ⟨x.fm,x.sm,x.s,x.w⟩ page).s,w:=(GJ.loose ⟨x.fm,x.sm,x.s,x.w⟩ page).w }
abbrev z7.bring (x:z7) (inv:Bool) (o page slot:Int):Bool×z7:=if x.s.M.first.isSome then
 (true,({ x with fm:=insi x.fm page (x.s.got:Nat),sm:=Zy x.sm page,s:=⟨(Yv x.w (x.s.take 2 o).M slot (x.s.got:Nat)).2.2,(x.s.take 2 o).R⟩,w:=(Yv x.w (x.s.take 2 o).M slot (x.s.got:Nat)).2.1 } :z7).tell inv page)else(false,x)
def vJ (fm:List (Int×Int)) (s:PM) (o page:Int):Bool×List (Int×Int)×PM:=if s.M.first.isSome then
 (true,insi fm page (s.got:Nat),PM.give ⟨(s.take 2 o).M.copy (mAt fm page:Nat) (s.got:Nat),(s.take 2 o).R⟩ (mAt fm page:Nat))else(false,fm,s)
abbrev z7.part (x:z7) (o page:Int):Bool×z7:=((vJ x.fm x.s o page).1,{ x with fm:=(vJ x.fm x.s o page).2.1,s:=(vJ x.fm x.s o page).2.2 })
theorem jQ.ins {l:List (Int×Int)} (h:jQ l) (z:Int) {v:Int} (hv:0≤v∧v≤64):jQ (insi l z v):=fun p hp=>by
 rcases cg hp with rfl|hp
 ·exact hv
 exact h p hp
theorem jQ.del {l:List (Int×Int)} (h:jQ l) (z:Int):jQ (Zy l z):=fun p hp=>h p (cQ hp)
theorem Gn {s:PM} (h:s.M.first.isSome=false) (c w:Int):s.take c w=s:=by
 unfold PM.take
 cases e:s.M.first with
 |none=>rfl
 |some f=>rw [e]at h;cases h
theorem mY (R:List SP) (v:Nat) (W:Wd) (o:Int) (a s i j:Nat) (fm Rf:List (Int×Int)) (hf:jQ fm) (M:zA) (page:Int):zy 235 [vp v 0,vi page] (ent z8 v (J1 W o a s i j)::ent gP i fm::ent zX W.p ⟨W.m,Rf⟩::ent zQ W.m M::R) fun w L=>w= .bool (vJ fm ⟨M,Rf⟩ o page).1∧L=ent z8 v (J1 W o a s i j)::ent gP i (vJ fm ⟨M,Rf⟩ o page).2.1::ent zX W.p ⟨W.m,(vJ fm ⟨M,Rf⟩ o page).2.2.R⟩::ent zQ W.m (vJ fm ⟨M,Rf⟩ o page).2.2.M::R:=by
 refine SW.intro rfl Tryz.func235 rfl ?_
 refine O0 8 J (fa J Y (ld J Y J (Z 1 J (yo rfl (fun _ h=>ua rfl rfl rfl h) ?_))))
 refine yn (congrArg vi (hf.eq page)) ?_
 refine Z 3 J (zO [0,1,3,7,15,0,32,96,224,511,1023,2047,2047,4095,16383] [([0,1,2,3,4,5,6,7,8],[4,8],some 9),([10,11,12,13,14],[],none)] (by kernel_rfl) ?_)
 refine z4 (ZK 2 J (zj J Y (zj J Y (ye J Y J (ZK 2 J (zj J Y (ye J Y J (z5 ⟨(y6 J Y J J J (y6 J Y J J J z6)),?_⟩))))))))
 refine Z2 (Jq _ _ _ _ _ _ _ (by omega)) J Y Y (zF (z4 (ZK 3 J (uT (fun h26=> ?_) (fun h26=> ?_)))))
 ·refine ZK 2 J (z5 ⟨z6,?_⟩)
  refine OX 12 J (fa J Y (fa J Y (ld J Y J (Z 2 J (Z1 (BB _ _ _ _ _) J Y (Z 5 J (fa J Y (fa J Y (ld J Y J (Z 1 J (Z2 (dT _ _ _ _ _ _) J Y Y (Z 5 J (fa J Y (ld J Y J (Z 2 J (ge rfl rfl rfl rfl rfl ?_))))))))))))))))
  refine Z 6 J (zE J J J ?_)
  have e:(vJ fm ⟨M,Rf⟩ o page)=(true,insi fm page (PM.got ⟨M,Rf⟩:Nat),PM.give ⟨(PM.take ⟨M,Rf⟩ 2 o).M.copy (mAt fm page:Nat) (PM.got ⟨M,Rf⟩:Nat),(PM.take ⟨M,Rf⟩ 2 o).R⟩ (mAt fm page:Nat)):=if_pos h26
  rw [e]
  exact fq
 refine ZK 2 J (z5 ⟨z6,?_⟩)
 refine OX 12 J (zE J J J ?_)
 have e2:=Gn (s:=⟨M,Rf⟩) h26 2 o
 have e:(vJ fm ⟨M,Rf⟩ o page)=(false,fm,⟨M,Rf⟩):=if_neg (by show¬M.first.isSome=true;rw [h26];nofun)
 rw [e,e2]
 exact fq
theorem xK (R:List SP) (v:Nat) (W:Wd) (o:Int) (a s i j:Nat) (A:Nat→Int) (fm sm Rf:List (Int×Int)) (hf:jQ fm) (hs:jQ sm) (M:zA) (S:zm) (hT:S.tables.length≤900000) (Ws:jt) (page slot:Int):zy 234 [vp v 0,vi page,vi slot] (ent z8 v (J1 W o a s i j)::ent qY a A::ent gP i fm::ent gP j sm::ent zX W.p ⟨W.m,Rf⟩::ent qs s ⟨W.m,W.p,S⟩::ent zQ W.m M::ent y5 W.sw Ws::R) fun w L=>w= .bool (z7.bring ⟨A,fm,sm,S,⟨M,Rf⟩,Ws⟩ W.inv o page slot).1∧L=ent z8 v (J1 W o a s i j)::ent qY a (z7.bring ⟨A,fm,sm,S,⟨M,Rf⟩,Ws⟩ W.inv o page slot).2.A::ent gP i (z7.bring ⟨A,fm,sm,S,⟨M,Rf⟩,Ws⟩ W.inv o page slot).2.fm::ent gP j (z7.bring ⟨A,fm,sm,S,⟨M,Rf⟩,Ws⟩ W.inv o page slot).2.sm::ent zX W.p ⟨W.m,(z7.bring ⟨A,fm,sm,S,⟨M,Rf⟩,Ws⟩ W.inv o page slot).2.s.R⟩::ent qs s ⟨W.m,W.p,(z7.bring ⟨A,fm,sm,S,⟨M,Rf⟩,Ws⟩ W.inv o page slot).2.S⟩::ent zQ W.m (z7.bring ⟨A,fm,sm,S,⟨M,Rf⟩,Ws⟩ W.inv o page slot).2.s.M::ent y5 W.sw (z7.bring ⟨A,fm,sm,S,⟨M,Rf⟩,Ws⟩ W.inv o page slot).2.w::R:=by
 refine yQ (qD W.m M) fun hM=> ?_
 have hg:PM.got ⟨M,Rf⟩≤M.n:=PM.got_le _
 have hn:=hM.2.1
 have hf2:jQ (insi fm page (PM.got ⟨M,Rf⟩:Nat)):=hf.ins page (by omega)
 have hs2:jQ (Zy sm page):=hs.del page
 refine SW.intro rfl Tryz.func234 rfl ?_
 refine O0 5 J (zO [0,1,3,7,15,0,32,96,224,511,1023,2047,2047,4095,16383] [([0,1,2,3,4,5,6,7,8],[4,8],some 9),([10,11,12,13,14],[],none)] (by kernel_rfl) ?_)
 refine z4 (ZK 2 J (zj J Y (zj J Y (ye J Y J (ZK 2 J (zj J Y (ye J Y J (z5 ⟨(y6 J Y J J J (y6 J Y J J J z6)),?_⟩))))))))
 refine Z2 (Jq _ _ _ _ _ _ _ (by omega)) J Y Y (zF (z4 (ZK 3 J (uT (fun h21=> ?_) (fun h21=> ?_)))))
 ·refine ZK 2 J (z5 ⟨z6,?_⟩)
  refine OX 9 J (zO [0,1,3,7,15,0,32,96,224,480,0,0,4095] [([0,1,2,3,4,5,6,7,8,9,10,11],[4,9],some 12),([],[],none)] (by kernel_rfl) ?_)
  refine z4 (ZK 2 J (zj J Y (zj J Y (ye J Y J (ZK 2 J (zj J Y (zj J Y (ye J Y J (ZK 2 J (z5 ⟨(y6 J Y J J J (y6 J Y J J J z6)),?_⟩))))))))))
  refine Z2 (sQ _ _ _ _ _ _ _) J Y Y (zF (z4 (z5 ⟨z6,?_⟩)))
  refine OX 4 J (fa J Y (ld J Y J (Z 1 J (kA rfl rfl rfl rfl rfl rfl rfl ?_))))
  refine Z 5 J (fa J Y (ld J Y J (Z 2 J (ge rfl rfl rfl rfl rfl ?_))))
  refine Z 5 J (Z7 (vX _ _ W _ _ _ _ _ A (insi fm page (PM.got ⟨M,Rf⟩:Nat)) (Zy sm page) (PM.take ⟨M,Rf⟩ 2 o).R hf2 hs2 _ S hT page) J Y Y Y Y Y Y Y (Z 6 J (zE J J J ?_)))
  have e:z7.bring ⟨A,fm,sm,S,⟨M,Rf⟩,Ws⟩ W.inv o page slot=(true,({ A:=A,fm:=insi fm page (PM.got ⟨M,Rf⟩:Nat),sm:=Zy sm page,S:=S,s:=⟨(Yv Ws (PM.take ⟨M,Rf⟩ 2 o).M slot (PM.got ⟨M,Rf⟩:Nat)).2.2,(PM.take ⟨M,Rf⟩ 2 o).R⟩,w:=(Yv Ws (PM.take ⟨M,Rf⟩ 2 o).M slot (PM.got ⟨M,Rf⟩:Nat)).2.1 } :z7).tell W.inv page):=if_pos h21
  rw [e]
  exact fq
 refine ZK 2 J (z5 ⟨z6,?_⟩)
 refine OX 12 J (zE J J J ?_)
 have e:z7.bring ⟨A,fm,sm,S,⟨M,Rf⟩,Ws⟩ W.inv o page slot=(false,⟨A,fm,sm,S,⟨M,Rf⟩,Ws⟩):=if_neg (by show¬M.first.isSome=true;rw [h21];nofun)
 have e2:=Gn (s:=⟨M,Rf⟩) h21 2 o
 rw [e,e2]
 exact fq
theorem jb (s:PM) (S:zm) (page:Int) (x:Nat):(s.setPage S page x).2.tables.length≤S.tables.length+2∧(s.setPage S page x).2.owner=S.owner∧(s.setPage S page x).2.kernel=S.kernel∧(s.setPage S page x).2.user=S.user:=by
 unfold PM.setPage
 split
 ·have h1:=rM s S page.toNat
  have h2:=ry (VR s S page.toNat).1 (VR s S page.toNat).2 page.toNat
  refine⟨?_,h2.1.trans h1.1,h2.2.1.trans h1.2.1,h2.2.2.1.trans h1.2.2.1⟩
  show(xz (VR s S page.toNat).1 (VR s S page.toNat).2 page.toNat).2.tables.length≤_
  have:=h1.2.2.2;have:=h2.2.2.2;omega
 exact⟨by show S.tables.length≤_;omega,rfl,rfl,rfl⟩
theorem write_n (M:zA) (z:Int) (x:Nat):(M.write z x).n=M.n:=by unfold zA.write;split<;>rfl
theorem Gu (s:PM) (S:zm) (page:Int) (x:Nat):(s.setPage S page x).1.M.n=s.M.n:=by
 have h1: ∀(s:PM) (S:zm) page,(VR s S page).1.M.n=s.M.n:=fun s S page=>by
  unfold VR;split
  ·show((((s.take 1 S.owner).M.write _ _)).write _ _).n=_;rw [write_n,write_n,PM.take_n]
  rfl
 have h2: ∀(s:PM) (S:zm) page,(xz s S page).1.M.n=s.M.n:=fun s S page=>by
  unfold xz;split
  ·show((s.take 1 S.owner).M.write _ _).n=_;rw [write_n,PM.take_n]
  rfl
 unfold PM.setPage
 split
 ·show((xz (VR s S page.toNat).1 (VR s S page.toNat).2 page.toNat).1.M.write _ _).n=_
  rw [write_n,h2,h1]
 rfl
def z7.fix3 (x:z7) (inv:Bool) (o page:Int) (write:Bool):Int×z7:=
 let p:=if write=true∧1<vr x.s.R ((ym x.fm page).getD 0)then x.part o page else(true,x)
 if p.1=false then(5,p.2)else(0,p.2.tell inv page)
def z7.fix2 (x:z7) (inv:Bool) (o page:Int) (write:Bool):Int×z7:=
 let b:=if(ym x.sm page).isSome then x.bring inv o page ((ym x.sm page).getD 0)else(true,x)
 if b.1=false then(5,b.2)else b.2.fix3 inv o page write
def z7.fix (x:z7) (inv:Bool) (o page:Int) (write:Bool):Int×z7:=
 if¬WT x.A page then(1,x)else
 if y7 x.A page=0∨(write=true∧y7 x.A page≠3)then(2,x)else x.fix2 inv o page write
section
variable {x:z7} {inv:Bool} {o page:Int} {write:Bool}
theorem Vr (h: ¬(write=true∧1<vr x.s.R ((ym x.fm page).getD 0))):x.fix3 inv o page write=(0,x.tell inv page):=by
 unfold z7.fix3;rw [if_neg h];exact if_neg nofun
theorem xZ (h:write=true∧1<vr x.s.R ((ym x.fm page).getD 0)) (hp:(vJ x.fm x.s o page).1=false):x.fix3 inv o page write=(5,(x.part o page).2):=by
 unfold z7.fix3;rw [if_pos h];exact if_pos hp
theorem md (h:write=true∧1<vr x.s.R ((ym x.fm page).getD 0)) (hp:(vJ x.fm x.s o page).1=true):x.fix3 inv o page write=(0,(x.part o page).2.tell inv page):=by
 unfold z7.fix3;rw [if_pos h];exact if_neg (fun e=>by rw [show(x.part o page).1=(vJ x.fm x.s o page).1 from rfl,hp]at e;cases e)
theorem Vj (h:(ym x.sm page).isSome=false):x.fix2 inv o page write=x.fix3 inv o page write:=by
 unfold z7.fix2;rw [h];exact if_neg nofun
theorem dI (h:(ym x.sm page).isSome=true) (hb:(x.bring inv o page ((ym x.sm page).getD 0)).1=false):x.fix2 inv o page write=(5,(x.bring inv o page ((ym x.sm page).getD 0)).2):=by
 unfold z7.fix2;rw [h];exact if_pos hb
theorem Vs (h:(ym x.sm page).isSome=true) (hb:(x.bring inv o page ((ym x.sm page).getD 0)).1=true):x.fix2 inv o page write=(x.bring inv o page ((ym x.sm page).getD 0)).2.fix3 inv o page write:=by
 unfold z7.fix2;rw [h];exact if_neg (fun e=>by rw [if_pos rfl,hb]at e;cases e)
theorem uq (h:WT x.A page) (hr: ¬(y7 x.A page=0∨(write=true∧y7 x.A page≠3))):x.fix inv o page write=x.fix2 inv o page write:=by
 unfold z7.fix;rw [if_neg (fun k=>k h),if_neg hr]
end
structure z7.Ok (x:z7):Prop where
 f:jQ x.fm
 s:jQ x.sm
 n:x.s.M.n≤64
theorem z7.Ok.tell {x:z7} (h:x.Ok) (inv:Bool) (page:Int):(x.tell inv page).Ok:=⟨h.f,h.s,by show(PM.setPage _ _ _ _).1.M.n≤64;rw [Gu];exact h.n⟩
theorem B3 (W:jt) (M:zA) (z f:Int):(Yv W M z f).2.2.n=M.n:=by
 unfold Yv;split
 ·exact zA.fill_n _ _ _ _
 rfl
theorem z7.Ok.bring {x:z7} (h:x.Ok) (inv:Bool) (o page slot:Int):(x.bring inv o page slot).2.Ok:=by
 have hg:=PM.got_le x.s
 have hn:=h.n
 unfold z7.bring
 split
 ·refine z7.Ok.tell ⟨h.f.ins page (by omega),h.s.del page,?_⟩ inv page
  show(Yv _ _ _ _).2.2.n≤64
  rw [B3,PM.take_n];exact hn
 exact h
theorem copy_n (M:zA) (f t:Int):(M.copy f t).n=M.n:=by unfold zA.copy;split<;>rfl
theorem jp {fm:List (Int×Int)} {s:PM} (hf:jQ fm) (hn:s.M.n≤64) (o page:Int):jQ (vJ fm s o page).2.1∧(vJ fm s o page).2.2.M.n≤64:=by
 have hg:=PM.got_le s
 unfold vJ
 split
 ·refine⟨hf.ins page (by omega),?_⟩
  show(PM.give _ _).M.n≤64
  rw [PM.give_n]
  show((s.take 2 o).M.copy _ _).n≤64
  rw [copy_n,PM.take_n];exact hn
 exact⟨hf,hn⟩
theorem Wh (x:z7) (inv:Bool) (o page slot:Int):(x.bring inv o page slot).2.S.tables.length≤x.S.tables.length+2:=by
 unfold z7.bring
 split
 ·exact(jb _ _ _ _).1
 show x.S.tables.length≤_;omega
def vB.of (x:vB) (pcid page:Int):Bool:=decide (x.page=page) && (decide (x.pcid=pcid)||x.glob)
def dy:vB:=⟨0,0,0,false,false,false⟩
def jN (xs:List vB) (x:vB):List vB:=let l:=(xs.filter fun y=> !y.of x.pcid x.page)++ [x];if 8<l.length then l.drop 1 else l
def uz (a:Nat) (xs:List vB):SP:=fun h=> ∃v,xs.length≤8∧yd [ent z8 a [v],ent (zP u6 6) v xs] h
abbrev tX (a:Nat) (xs:List vB) (v:AVal):List SP:= [ent z8 a [v],ent (zP u6 6) v xs]
theorem ju (a:Nat) (xs:List vB): ∀h,uz a xs h→ ∃v,xs.length≤8∧yd (tX a xs v) h:=fun _ h=>h
theorem wP {a:Nat} {xs:List vB} {v:AVal} (hx:xs.length≤8): ∀h,yd [ent z8 a [v],ent (zP u6 6) v xs] h→uz a xs h:=fun _ x=>⟨v,hx,x⟩
theorem oE (a:Nat) (xs:List vB): ∀h,uz a xs h→xs.length≤8:=fun _ ⟨_,h,_⟩=>h
theorem J2 {xs:List vB} (h:xs.length≤8) (x:vB):(jN xs x).length≤8:=by
 have:=List.length_filter_le (fun y:vB=> !y.of x.pcid x.page) xs
 unfold jN
 simp only
 split
 ·rw [List.length_drop,List.length_append];simp only [List.length_singleton];omega
 rw [List.length_append]at*;simp only [List.length_singleton]at*;omega
theorem oW (R:List SP) (x:vB) (pcid page:Int):zy 239 [.agg (u6 x),vi pcid,vi page] (R) fun w L=>w= .bool (x.of pcid page)∧L=R:=by
 refine SW.intro rfl Tryz.func239 rfl ?_
 refine O0 2 J (yW rfl rfl rfl rfl fun i3=> ?_)
 refine Z 4 J (fa J Y (ld J Y J (Z 2 J (z0 (fun h10=> ?_) (fun h10=> ?_)))))
 ·refine Z 1 J (fa J Y (ld J Y J (Z 2 J (z0 (fun h15=> ?_) (fun h15=> ?_)))))
  ·refine Z 8 J (zE J J J (⟨_,⟨congrArg AVal.bool ?_,rfl⟩,Y⟩))
   unfold vB.of
   rw [decide_eq_true h10,decide_eq_true h15];rfl
  refine Z 1 J (fa J Y (ld J Y J (Z 5 J (zE J J J (⟨_,⟨congrArg AVal.bool ?_,rfl⟩,Y⟩)))))
  unfold vB.of
  rw [decide_eq_true h10,decide_eq_false h15];rfl
 refine Z 13 J (zE J J J (⟨_,⟨congrArg AVal.bool ?_,rfl⟩,Y⟩))
 unfold vB.of
 rw [decide_eq_false h10];rfl
theorem cr (R:List SP) (i j:Nat) (x:vB) (pcid page:Int):zy 238 [.agg (u6 x),vp i 0,vp j 0] (ent z8 i [vi pcid]::ent z8 j [vi page]::R) fun w L=>w= .bool (x.of pcid page)∧L=ent z8 i [vi pcid]::ent z8 j [vi page]::R:=by
 refine SW.intro rfl Tryz.func238 rfl ?_
 refine O0 2 J (yW rfl rfl rfl rfl fun i3=> ?_)
 exact Z 4 J (lN J Y Y J J (ld J Y J (ld J Y J (Z0 (oW _ _ _ _) J (Z 3 J (zE J J J fq))))))
theorem aF (R:List SP) (i j:Nat) (x:vB) (pcid page:Int):zy 266 [.agg (u6 x),vp i 0,vp j 0] (ent z8 i [vi pcid]::ent z8 j [vi page]::R) fun w L=>w= .bool (!x.of pcid page)∧L=ent z8 i [vi pcid]::ent z8 j [vi page]::R:=by
 refine SW.intro rfl Tryz.func266 rfl ?_
 refine O0 2 J (yW rfl rfl rfl rfl fun i3=> ?_)
 exact Z 4 J (lN J Y Y J J (ld J Y J (ld J Y J (Z0 (oW _ _ _ _) J (Z 4 J (zE J J J fq))))))
theorem oF (R:List SP) (i:Nat) (x:vB) (pcid:Int):zy 205 [.agg (u6 x),vp i 0] (ent z8 i [vi pcid]::R) fun w L=>w= .bool (decide (x.pcid≠pcid)||x.glob)∧L=ent z8 i [vi pcid]::R:=by
 refine SW.intro rfl Tryz.func205 rfl ?_
 refine O0 2 J (yW rfl rfl rfl rfl fun i2=> ?_)
 refine Z 4 J (fa J Y (ld J Y J (ld J Y J (Z 1 J (z0 (fun h7=> ?_) (fun h7=> ?_))))))
 ·refine Z 7 J (zE J J J (⟨_,⟨congrArg AVal.bool ?_,rfl⟩,Y⟩))
  rw [decide_eq_true h7];rfl
 refine Z 1 J (fa J Y (ld J Y J (Z 4 J (zE J J J (⟨_,⟨congrArg AVal.bool ?_,rfl⟩,Y⟩)))))
 rw [decide_eq_false h7];rfl
theorem eS {α:Type} {p:α→Bool} {xs:List α} {c:Nat} {x:α} (hx:xs[c]? =some x) (hp:p x=true) (h: ∀(k:Nat) (y:α),k<c→xs[k]? =some y→p y=false):xs.find? p=some x:=by
 induction xs generalizing c with
 |nil=>simp at hx
 |cons y ys ih=>
  cases c with
  |zero=>simp at hx;subst hx;rw [List.find?_cons_of_pos hp]
  |succ c=>
   have hy:=h 0 y (Nat.succ_pos c) rfl
   rw [List.find?_cons_of_neg (by rw [hy];nofun)]
   exact ih (c:=c) (by simpa using hx) fun k z hk hz=>h (k+1) z (by omega) (by simpa using hz)
theorem my (R:List SP) (a:Nat) (xs:List vB) (pcid page:Int):zy 198 [vp a 0,vi pcid,vi page] (ent uz a xs::R) fun w L=>w= .tuple [.agg (u6 ((xs.find? fun x=>x.of pcid page).getD dy)),.bool (xs.find? fun x=>x.of pcid page).isSome]∧L=ent uz a xs::R:=by
 refine zS (ju a xs) fun v hx=> ?_
 dsimp only [tX,List.cons_append,List.nil_append]
 refine SW.intro rfl Tryz.func198 rfl ?_
 refine O0 2 J (yW rfl rfl rfl rfl fun i4=> ?_)
 refine yW rfl rfl rfl rfl fun i5=> ?_
 refine zd rfl rfl rfl fun i6=> ?_
 refine Z 6 J (fa J Y (ld J Y J (Z 1 J (zR (M:=ent (zP u6 6) v xs::ent z8 i4 (vi pcid).cells::ent z8 i5 (vi page).cells::ent z8 i6 (AVal.agg [vi 0,vi 0,vi 0,.bool false,.bool false,.bool false]).cells::ent z8 a [v]::R) Y ?_))))
 refine Z0 (xf [ent z8 i4 [vi pcid],ent z8 i5 [vi page]] _ v xs (by omega) (fun x=>x.of pcid page) 238 [] [vp i4 0,vp i5 0] (fun x _ R2=>cr R2 i4 i5 x pcid page)) J ?_
 dsimp only [List.cons_append,List.nil_append]
 refine Z 7 J (z0 (fun h16=> ?_) (fun h16=> ?_))
 ·refine Z 4 J (bu [_,_,_,_,_,_] J Y Y J (sN J Y Y J J J (Z 3 J (⟨.inr rfl,_,fun _ h=>(zi (y8 rfl (yS rfl (Nat.le_of_ble_eq_true rfl) h)) (zi (za rfl) q7)),?_⟩))))
  have e:(xs.find? fun x=>x.of pcid page)=none:=List.find?_eq_none.2 fun x hx2=>by
   rcases u5 (fun x:vB=>x.of pcid page) xs with⟨_,h2⟩|⟨c,x0,hc0,_⟩
   ·rw [h2 x hx2];nofun
   omega
  rw [e]
  exact⟨_,⟨rfl,rfl⟩,Sub.mk2 (wP hx) Y⟩
 obtain⟨c,x0,hc0,hcl,hx0,hp0,hno0⟩:=(u5 (fun x:vB=>x.of pcid page) xs).resolve_left (fun e=>by have:=e.1;omega)
 rw [hc0]at h16 ⊢
 refine Z 7 J (fa J Y (ld J Y J (Z 1 J (yo rfl (fun _ h=>yM rfl rfl rfl (by omega) (by omega) h) ?_))))
 refine yo rfl (fun _ h=>Wo rfl rfl rfl hx0 h) ?_
 refine sN J Y Y J J J (Z 3 J (⟨.inr rfl,_,fun _ h=>(zi (y8 rfl (yS rfl (Nat.le_of_ble_eq_true rfl) h)) (zi (za rfl) q7)),?_⟩))
 have e:(xs.find? fun x=>x.of pcid page)=some x0:=eS hx0 hp0 hno0
 rw [e]
 exact⟨_,⟨rfl,rfl⟩,Sub.mk2 (wP hx) Y⟩
theorem cD (E R:List SP) (i:Nat) (x:vB) (s:vB→Bool) (f:FuncId) (c d:List AVal) (hf: ∀x R2,zy f (c++ [.agg (u6 x)]++d) (E++R2) fun w L=>w= .bool (s x)∧L=E++R2):zy 246 [.agg (u6 x),vp i 0] (ent z8 i [.func f c d]::(E++R)) fun w L=>w= .bool (!s x)∧L=ent z8 i [.func f c d]::(E++R):=by
 refine SW.intro rfl Tryz.func246 rfl ?_
 refine O0 2 J (yW rfl rfl rfl rfl fun i2=> ?_)
 refine Z 4 J (ld J Y J (lN J Y Y J J (zR (tC _ _ E R) ?_)))
 refine Z0 (hf x _) J (zR (bE _ _ E R) ?_)
 exact Z 4 J (zE J J J fq)
theorem tL (E R:List SP) (a:Nat) (xs:List vB) (s:vB→Bool) (f:FuncId) (c d:List AVal) (hf: ∀x R2,zy f (c++ [.agg (u6 x)]++d) (E++R2) fun w L=>w= .bool (s x)∧L=E++R2):zy 204 [vp a 0,.func f c d] (ent uz a xs::(E++R)) fun w L=>w= .tuple []∧L=ent uz a (xs.filter s)::(E++R):=by
 refine zS (ju a xs) fun v hx=> ?_
 dsimp only [tX,List.cons_append,List.nil_append]
 refine SW.intro rfl Tryz.func204 rfl ?_
 refine O0 2 J (yW rfl rfl rfl rfl fun i3=> ?_)
 refine Z 5 J (fa J Y (ld J Y J (yG (rj _ _ _ (by omega)) rfl (fun _=>rfl) ?_)))
 rintro u9 _ rfl
 refine Z 1 J (zR (M:=ent (zP u6 6) u9 xs::((ent z8 i3 [.func f c d]::E)++(ent z8 a [v]::R))) (Sub.get rfl (Sub.get rfl ((show Sub (ent (zP u6 6) v xs::ent z8 a [v]::(E++R)) (ent z8 a [v]::(E++R))from Y).trans (jn _ E R)))) ?_)
 refine o_call (rP (ent z8 i3 [.func f c d]::E) _ u9 xs (by omega) (fun x=> !s x) 246 [] [vp i3 0] (fun x _ R2=>cD E R2 i3 x s f c d hf)) rfl (fun _=>rfl) ?_
 rintro u11 _ rfl
 refine zR (M:=ent (zP u6 6) u11 (xs.filter s)::ent z8 a [v]::(E++R)) (by simp only [Bool.not_not];exact Sub.keep (Sub.drop (uu _ E R))) ?_
 refine yD (v:=u11) fun a2 c2 e2 hv2 _=> ?_
 subst hv2
 exact Z 1 J (fa J Y (sO J Y J J J (Z 1 J (qz J J ⟨_,⟨rfl,rfl⟩,Sub.mk2 (wP (by have:=List.length_filter_le s xs;omega)) Y⟩))))
theorem AY (R:List SP) (a:Nat) (xs:List vB) (pcid page:Int):zy 260 [vp a 0,vi pcid,vi page] (ent uz a xs::R) fun w L=>w= .tuple []∧L=ent uz a (xs.filter fun y=> !y.of pcid page)::R:=by
 refine SW.intro rfl Tryz.func260 rfl ?_
 refine O0 2 J (yW rfl rfl rfl rfl fun i4=> ?_)
 refine yW rfl rfl rfl rfl fun i5=> ?_
 refine Z 4 J (zR (M:=ent uz a xs::ent z8 i4 (vi pcid).cells::ent z8 i5 (vi page).cells::R) Y ?_)
 refine Z0 (tL [ent z8 i4 [vi pcid],ent z8 i5 [vi page]] R a xs (fun y=> !y.of pcid page) 266 [] [vp i4 0,vp i5 0] (fun x R2=>aF R2 i4 i5 x pcid page)) J ?_
 dsimp only [List.cons_append,List.nil_append]
 exact Z 1 J (qz J J fq)
theorem cZ (R:List SP) (a:Nat) (xs:List vB) (pcid:Int):zy 160 [vp a 0,vi pcid] (ent uz a xs::R) fun w L=>w= .tuple []∧L=ent uz a (xs.filter fun y=>decide (y.pcid≠pcid)||y.glob)::R:=by
 refine SW.intro rfl Tryz.func160 rfl ?_
 refine O0 2 J (yW rfl rfl rfl rfl fun i3=> ?_)
 refine Z 4 J (zR (M:=ent uz a xs::ent z8 i3 (vi pcid).cells::R) Y ?_)
 refine Z0 (tL [ent z8 i3 [vi pcid]] R a xs (fun y=>decide (y.pcid≠pcid)||y.glob) 205 [] [vp i3 0] (fun x R2=>oF R2 i3 x pcid)) J ?_
 dsimp only [List.cons_append,List.nil_append]
 exact Z 1 J (qz J J fq)
theorem aI (R:List SP) (a:Nat) (xs:List vB):zy 114 [vp a 0] (ent uz a xs::R) fun w L=>w= .tuple []∧L=ent uz a []::R:=by
 refine zS (ju a xs) fun v hx=> ?_
 dsimp only [tX,List.cons_append,List.nil_append]
 refine SW.intro rfl Tryz.func114 rfl ?_
 refine O0 3 J (fa J Y (sO J Y J J J (Z 1 J (qz J J (⟨_,⟨rfl,rfl⟩,(Sub.nilE (α:=vB) (en:=u6) (es:=6) (fun _=>rfl) (by decide) 0 _).trans ?_⟩)))))
 exact Sub.mk2 (wP (by show 0≤8;omega)) Y
theorem BE (R:List SP):zy 156 [] (R) fun w L=> ∃a,w=vp a 0∧L=ent uz a []::R:=by
 refine SW.intro rfl Tryz.func156 rfl ?_
 refine O0 6 J (bu [_] J Y Y J (yW rfl rfl rfl rfl fun i2=> ?_))
 refine Z 3 J (zE J J J (⟨_,⟨i2,rfl,rfl⟩,(Sub.nilE (α:=vB) (en:=u6) (es:=6) (fun _=>rfl) (by decide) 0 _).trans ?_⟩))
 exact Sub.mk2 (wP (by show 0≤8;omega)) Y
theorem Jy (R:List SP) (a:Nat) (xs:List vB) (x:vB):zy 231 [vp a 0,.agg (u6 x)] (ent uz a xs::R) fun w L=>w= .tuple []∧L=ent uz a (jN xs x)::R:=by
 refine yQ (oE a xs) fun hx0=> ?_
 refine SW.intro rfl Tryz.func231 rfl ?_
 refine O0 2 J (yW rfl rfl rfl rfl fun i3=> ?_)
 refine Z 4 J (fa J Y (ld J Y J (fa J Y (ld J Y J (Z1 (AY _ _ _ _ _) J Y ?_)))))
 have hfl:=List.length_filter_le (fun y:vB=> !y.of x.pcid x.page) xs
 refine qw (ju a (xs.filter fun y=> !y.of x.pcid x.page)) fun v hx=> ?_
 dsimp only [tX,List.cons_append,List.nil_append]
 refine yD (v:=v) fun a1 c1 e1 hv1 hz1=> ?_
 subst hv1
 refine Z 2 J (zO [0,0,2,6,14,0,32,126,255,511,1023] [([0,1,2,3,4,5,6],[4,5],some 7),([8,9],[],some 10),([],[],none)] (by kernel_rfl) ?_)
 refine z4 (ZK 3 J (zj J Y (ye J Y J (Vl J Y Y J J (va (cs:= [_,_,_,_,_,_]) rfl rfl rfl (by decide) rfl fun i16=> ?_)))))
 refine z5 ⟨(wV rfl (fun _ h=>Zp rfl rfl rfl h) rfl rfl (Jl fun h=>(hz1 h).2) (YC J Y Y J J J (z3 _ rfl) z6)),?_⟩
 refine gV rfl rfl rfl rfl rfl rfl rfl ([x]) rfl rfl (by simp) (by show _+1≤_;omega) rfl fun i17 q17 c17=> ?_
 refine zF (z4 (ZK 1 J (zj J Y (z5 ⟨z6,?_⟩))))
 refine sO J Y J J J (zF (z4 (z5 ⟨z6,?_⟩)))
 refine OX 4 J (fa J Y (ld J Y J (yo rfl (fun _ h=>y0 rfl rfl rfl rfl rfl h) ?_)))
 have hl:((xs.filter fun y=> !y.of x.pcid x.page)++ [x]).length=(xs.filter fun y=> !y.of x.pcid x.page).length+1:=by rw [List.length_append];rfl
 have hl2: [x].length=1:=rfl
 refine Z 1 J (z0 (fun h25=> ?_) (fun h25=> ?_))
 ·refine Z 6 J (fa J Y (ld J Y J (tK rfl rfl rfl rfl (by omega) (by omega) fun w31=> ?_)))
  refine yD (v:=w31) fun a2 c2 e2 hv2 _=> ?_
  subst hv2
  refine Z 1 J (fa J Y (sO J Y J J J (Z 1 J (qz J J ?_))))
  have e:jN xs x=((xs.filter fun y=> !y.of x.pcid x.page)++ [x]).drop 1:=if_pos (by omega)
  have hle:=J2 hx0 x
  rw [e]at hle ⊢
  exact⟨_,⟨rfl,rfl⟩,Sub.mk2 (wP hle) Y⟩
 refine Z 3 J (qz J J ?_)
 have e:jN xs x=(xs.filter fun y=> !y.of x.pcid x.page)++ [x]:=if_neg (by omega)
 have hle:=J2 hx0 x
 rw [e]at hle ⊢
 exact⟨_,⟨rfl,rfl⟩,Sub.mk2 (wP hle) Y⟩
theorem nt {f:Nat→AVal} {k:Nat} {v w:AVal} :vK (vK f k v) k w=vK f k w:=by
 funext j;unfold vK;split<;>rfl
theorem Qm {f:Nat→AVal} {k:Nat} {v:AVal} :vK f k v k=v:=if_pos rfl
structure vM where
 n:Nat
 ways:Nat
 ls:Nat→List Int
def vM.Ok (S:vM):Prop:=1≤S.n∧S.n≤8∧S.ways≤4∧ ∀s,(S.ls s).length≤S.ways
abbrev setX (x:AVal×List Int):SP:=ent (zP yK 1) x.1 x.2
abbrev lF (a:Nat) (S:vM) (b:Nat) (vs:Nat→AVal):List SP:= [ent z8 a [.slice (some (b,0)) S.n (some S.n) 1,vi S.ways],ent zI b (S.n,vs),ent (zG setX) b (List.range S.n,fun s=>(vs s,S.ls s))]
def wn (a:Nat) (S:vM):SP:=fun h=> ∃y:Nat×(Nat→AVal),S.Ok∧yd (lF a S y.1 y.2) h
theorem WI (a:Nat) (S:vM): ∀h,wn a S h→ ∃y:Nat×(Nat→AVal),S.Ok∧yd (lF a S y.1 y.2) h:=fun _ h=>h
theorem t9 (a:Nat) (S:vM): ∀h,wn a S h→S.Ok:=fun _ ⟨_,h,_⟩=>h
theorem ZZ {a b:Nat} {S:vM} {vs:Nat→AVal} (hS:S.Ok): ∀h,yd [ent z8 a [.slice (some (b,0)) S.n (some S.n) 1,vi S.ways],ent zI b (S.n,vs),ent (zG setX) b (List.range S.n,fun s=>(vs s,S.ls s))] h→wn a S h:=fun _ x=>⟨(b,vs),hS,x⟩
def vM.at (S:vM) (line:Int):Nat:=(line%(S.n:Int)).toNat
theorem vM.at_lt {S:vM} (h:S.Ok) (line:Int):S.at line<S.n:=by
 have h1:=h.1
 have:=Int.emod_lt_of_pos line (show(0:Int)<S.n by omega)
 have:=Int.emod_nonneg line (show(S.n:Int)≠0 by omega)
 unfold vM.at;omega
def vM.has (S:vM) (line:Int):Bool:=decide (0≤line) && (S.ls (S.at line)).any fun x=>decide (x=line)
abbrev vM.set (S:vM) (k:Nat) (l:List Int):vM:= { S with ls:=fun s=>if s=k then l else S.ls s }
def vM.touch (S:vM) (line:Int):vM:=if S.has line then S else
 let l:=S.ls (S.at line)++ [line]
 S.set (S.at line) (if S.ways<l.length then l.drop 1 else l)
def vM.drop (S:vM) (line:Int):vM:=if S.has line then S.set (S.at line) ((S.ls (S.at line)).filter fun x=> !decide (x=line))else S
theorem vM.Ok.set {S:vM} (h:S.Ok) (k:Nat) {l:List Int} (hl:l.length≤S.ways):(S.set k l).Ok:=⟨h.1,h.2.1,h.2.2.1,fun s=>by
 show(if s=k then l else S.ls s).length≤_
 split
 ·exact hl
 exact h.2.2.2 s⟩
theorem vM.Ok.touch {S:vM} (h:S.Ok) (line:Int):(S.touch line).Ok:=by
 unfold vM.touch
 split
 ·exact h
 have:=h.2.2.2 (S.at line)
 have hl:(S.ls (S.at line)++ [line]).length=(S.ls (S.at line)).length+1:=by rw [List.length_append];rfl
 refine h.set _ ?_
 split
 ·rw [List.length_drop];omega
 omega
theorem vM.Ok.drop {S:vM} (h:S.Ok) (line:Int):(S.drop line).Ok:=by
 unfold vM.drop
 split
 ·have:=h.2.2.2 (S.at line)
  have:=List.length_filter_le (fun x=> !decide (x=line)) (S.ls (S.at line))
  exact h.set _ (by omega)
 exact h
theorem vM.touch_n (S:vM) (line:Int):(S.touch line).n=S.n:=by unfold vM.touch;split<;>rfl
theorem vM.drop_n (S:vM) (line:Int):(S.drop line).n=S.n:=by unfold vM.drop;split<;>rfl
theorem lw {b:Nat} {S:vM} {vs:Nat→AVal} {k:Nat} {v:AVal} {l:List Int} {R:List SP} (hk:k<S.n):Sub (ent (zP yK 1) v l::ent (zG setX) b ((List.range S.n).erase k,fun s=>(vs s,S.ls s))::R) (ent (zG setX) b (List.range (S.set k l).n,fun s=>(vK vs k v s,(S.set k l).ls s))::R):=by
 have:=star_put (K:=setX) (b:=b) (f:=fun s=>(vs s,S.ls s)) (g:=fun s=>(vK vs k v s,(S.set k l).ls s)) (R:=R) (qc hk) List.nodup_range (fun j _ hj=>by
  show(vK vs k v j,if j=k then l else S.ls j)=_
  unfold vK;rw [if_neg hj,if_neg hj])
 have e:(vK vs k v k,(S.set k l).ls k)=(v,l):=by
  show(vK vs k v k,if k=k then l else S.ls k)=_
  unfold vK;rw [if_pos rfl,if_pos rfl]
 have e1:setX (vK vs k v k,(S.set k l).ls k)=ent (zP yK 1) v l:=by rw [e]
 rw [←e1];exact this
theorem Ur {a b:Nat} {S:vM} {vs:Nat→AVal} {k:Nat} {v:AVal} {l:List Int} {R:List SP} (hS:S.Ok) (hk:k<S.n) (hl:l.length≤S.ways):
 Sub (ent (zP yK 1) v l::ent (zG setX) b ((List.range S.n).erase k,fun s=>(vs s,S.ls s))::ent zI b (S.n,vK vs k v)::ent z8 a [.slice (some (b,0)) S.n (some S.n) 1,vi S.ways]::R) (ent wn a (S.set k l)::R):=
 (lw (v:=v) (l:=l) hk).trans ((show Sub _ (ent z8 a [.slice (some (b,0)) (S.set k l).n (some (S.set k l).n) 1,vi (S.set k l).ways]::ent zI b ((S.set k l).n,vK vs k v)::ent (zG setX) b (List.range (S.set k l).n,fun s=>(vK vs k v s,(S.set k l).ls s))::R)from Y).trans (Sub.mk3 (ZZ (hS.set k hl)) Y))
theorem xP (b:Nat) (R:List SP): ∀n,Sub R (ent (zG setX) b (List.range n,fun _=>(.slice none 0 (some 0) 0,[]))::R)
 |0=>jq
 |n+1=>((xP b R n).trans (Sub.nilE (α:=Int) (en:=yK) (es:=1) (fun _=>rfl) (by decide) 0 _)).trans (gt (K:=setX) (g:=fun _=>(.slice none 0 (some 0) 0,[])) fun _ _=>rfl)
theorem UE (R:List SP) (n w:Nat) (hn:1≤n∧n≤8) (hw:w≤4):zy 105 [vi n,vi w] (R) fun v L=> ∃a,v=vp a 0∧L=ent wn a ⟨n,w,fun _=> []⟩::R:=by
 refine SW.intro rfl Tryz.func105 rfl ?_
 refine O0 7 J (US (n:=n) (.slice none 0 (some 0) 0) (by simp [AVal.cells]) rfl rfl rfl rfl (by omega) (by omega) (by omega) fun i6=> ?_)
 refine Z 1 J (bu [_,_] J Y Y J (yW rfl rfl rfl rfl fun i9=> ?_))
 refine Z 3 J (zE J J J (⟨_,⟨i9,rfl,rfl⟩,?_⟩))
 rw [Nat.mul_one]
 refine(xP i6 _ n).trans ?_
 exact Sub.mk3 (ZZ (S:=⟨n,w,fun _=> []⟩) (vs:=fun _=> .slice none 0 (some 0) 0) ⟨hn.1,hn.2,hw,fun _=>Nat.zero_le _⟩) Y
theorem dt (R:List SP) (a b:Nat) (S:vM) (hS:S.Ok) (line:Int) (hl:0≤line):zy 143 [vp a 0,vi line] (ent z8 a [.slice (some (b,0)) S.n (some S.n) 1,vi S.ways]::R) fun v L=>v=vp b (S.at line)∧L=ent z8 a [.slice (some (b,0)) S.n (some S.n) 1,vi S.ways]::R:=by
 have h1:=hS.1
 have h2:=hS.2.1
 have hlt:=Int.emod_lt_of_pos line (show(0:Int)<S.n by omega)
 have hge:=Int.emod_nonneg line (show(S.n:Int)≠0 by omega)
 refine SW.intro rfl Tryz.func143 rfl ?_
 refine O0 5 J (zO [0,1,3,7,0,0,32,96,224,480,1008,2047,4095] [([0,1,2,3,4,5,6,7,8,9,10,11,12],[3,8,9,10],none)] (by kernel_rfl) ?_)
 refine z4 (ZK 2 J (zj J Y (ye J Y J (ZK 3 J (zj J Y (ye J Y J (vN rfl (fun _=>wD rfl rfl rfl rfl rfl) ?_)))))))
 refine vN rfl (fun _=>zC rfl rfl rfl (bF (by omega) (by omega))) ?_
 refine vN rfl (fun _=>ug rfl rfl rfl (by omega) (by omega)) ?_
 refine ZK 1 J (z5 ⟨(y6 J Y J J J (y6 J Y J J J (vF rfl (fun _=>wD rfl rfl rfl rfl rfl) rfl rfl (z3 _ rfl) (vF rfl (fun _=>zC rfl rfl rfl (bF (by omega) (by omega))) rfl rfl (z3 _ rfl) z6)))),?_⟩)
 exact OX 1 J (zE J J J fq)
theorem pP (R:List SP) (a:Nat) (S:vM) (line:Int):zy 142 [vp a 0,vi line] (ent wn a S::R) fun v L=>v= .bool (S.has line)∧L=ent wn a S::R:=by
 refine zS (WI a S) fun y hS=> ?_
 obtain⟨b,vs⟩:=y
 dsimp only [lF,List.cons_append,List.nil_append]
 have h1:=hS.1
 have h2:=hS.2.1
 have hlt:=S.at_lt hS line
 have hle:=hS.2.2.2 (S.at line)
 have hw:=hS.2.2.1
 refine SW.intro rfl Tryz.func142 rfl ?_
 refine O0 8 J (z0 (fun h6=> ?_) (fun h6=> ?_))
 ·refine Z 3 J (Z1 (dt _ _ b S hS _ (by omega)) J Y (Z 1 J (lf J Y rfl (Z 1 J (zR (M:=ent (zP yK 1) (vs (S.at line)) (S.ls (S.at line))::ent (zG setX) b ((List.range S.n).erase (S.at line),fun s=>(vs s,S.ls s))::ent zI b (S.n,vs)::ent z8 a [.slice (some (b,0)) S.n (some S.n) 1,vi S.ways]::R) ((show Sub _ (ent (zG setX) b (List.range S.n,fun s=>(vs s,S.ls s))::ent zI b (S.n,vs)::ent z8 a [.slice (some (b,0)) S.n (some S.n) 1,vi S.ways]::R)from Y).trans (star_pick (qc hlt))) ?_)))))
  refine Z1 (fl _ _ _ (by omega) _) J Y (zR (M:=ent (zG setX) b (List.range S.n,fun s=>(vs s,S.ls s))::ent zI b (S.n,vs)::ent z8 a [.slice (some (b,0)) S.n (some S.n) 1,vi S.ways]::R) (star_put (K:=setX) (g:=fun s=>(vs s,S.ls s)) (qc hlt) List.nodup_range fun _ _ _=>rfl) ?_)
  refine Z 4 J (zE J J J (⟨_,⟨congrArg AVal.bool ?_,rfl⟩,Sub.mk3 (ZZ hS) Y⟩))
  unfold vM.has
  rw [decide_eq_true h6];rfl
 refine Z 12 J (zE J J J (⟨_,⟨congrArg AVal.bool ?_,rfl⟩,Sub.mk3 (ZZ hS) Y⟩))
 unfold vM.has
 rw [decide_eq_false h6];rfl
theorem kz (R:List SP) (a:Nat) (S:vM) (line:Int) (hl:0≤line):zy 193 [vp a 0,vi line] (ent wn a S::R) fun v L=>v= .tuple []∧L=ent wn a (S.touch line)::R:=by
 refine yQ (t9 a S) fun hS0=> ?_
 refine SW.intro rfl Tryz.func193 rfl ?_
 refine O0 5 J (Z1 (pP _ _ S _) J Y (zN (fun h7=> ?_) (fun h7=> ?_)))
 ·refine Z 3 J (qz J J ?_)
  have e:S.touch line=S:=if_pos h7
  rw [e]
  exact fq
 refine qw (WI a S) fun y hS=> ?_
 obtain⟨b,vs⟩:=y
 dsimp only [lF,List.cons_append,List.nil_append]
 have h1:=hS.1
 have h2:=hS.2.1
 have hlt:=S.at_lt hS line
 have hle:=hS.2.2.2 (S.at line)
 have hw:=hS.2.2.1
 refine Z 7 J (Z1 (dt _ _ b S hS _ (by omega)) J Y (Z 7 J (zR (M:=ent (zP yK 1) (vs (S.at line)) (S.ls (S.at line))::ent (zG setX) b ((List.range S.n).erase (S.at line),fun s=>(vs s,S.ls s))::ent zI b (S.n,vs)::ent z8 a [.slice (some (b,0)) S.n (some S.n) 1,vi S.ways]::R) ((show Sub _ (ent (zG setX) b (List.range S.n,fun s=>(vs s,S.ls s))::ent zI b (S.n,vs)::ent z8 a [.slice (some (b,0)) S.n (some S.n) 1,vi S.ways]::R)from Y).trans (star_pick (qc hlt))) ?_)))
 refine lf J Y rfl (Z 1 J (zT (cs:= [_]) rfl rfl rfl (by decide) rfl fun i16=> ?_))
 refine gV rfl rfl rfl rfl rfl rfl rfl ([line]) rfl rfl (by simp) (by show _+1≤_;omega) rfl fun i17 q17 c17=> ?_
 refine Z 1 J (sF J Y J J (Z 2 J (zO [0,1,3,7,0,16,48,112,255] [([0,1,2,3,4,5,6,7,8],[2,3,7,8],none)] (by kernel_rfl) ?_)))
 refine z4 (ZK 2 J (jS J Y Qm (uW rfl (fun _ h=>y0 rfl rfl rfl rfl rfl h) ?_)))
 refine ZK 2 J (zj J Y (ye J Y J (ZK 1 J (qJ (fun h27=> ?_) (fun h27=> ?_)))))
 ·refine z5 ⟨(uY J Y Qm J (z3 _ rfl) (wV rfl (fun _ h=>y0 rfl rfl rfl rfl rfl h) rfl rfl (z3 _ rfl) (y6 J Y J J J (gv J J J (by rw [decide_eq_true h27];rfl) z6)))),?_⟩
  refine OX 5 J (lf J Y Qm (tK rfl rfl rfl rfl (by omega) (by omega) fun w32=> ?_))
  refine yD (v:=w32) fun aw32 cw32 ew32 hvw32 _=> ?_
  subst hvw32
  refine Z 1 J (sF J Y J J (Z 1 J (qz J J ?_)))
  have hl1:((S.ls (S.at line))++ [line]).length=(S.ls (S.at line)).length+1:=by rw [List.length_append];rfl
  have hl2: [line].length=1:=rfl
  have e:S.touch line=S.set (S.at line) (((S.ls (S.at line))++ [line]).drop 1):=(if_neg (by rw [h7];nofun)).trans (congrArg (S.set (S.at line)) (if_pos (by omega)))
  rw [e]
  refine⟨_,⟨rfl,rfl⟩,?_⟩
  rw [nt]
  have hl3:(([line].length:Nat):Int).toNat=1:=rfl
  exact(show Sub _ _ from Y).trans (Ur (b:=b) (vs:=vs) (v:= .slice aw32 (((S.ls (S.at line))++ [line]).drop ((1:Int)).toNat).length cw32 ew32) (l:=((S.ls (S.at line))++ [line]).drop ((1:Int)).toNat) hS hlt (by rw [List.length_drop];omega))
 refine z5 ⟨(uY J Y Qm J (z3 _ rfl) (wV rfl (fun _ h=>y0 rfl rfl rfl rfl rfl h) rfl rfl (z3 _ rfl) (y6 J Y J J J (gv J J J (by rw [decide_eq_false h27];rfl) z6)))),?_⟩
 refine OX 2 J (qz J J ?_)
 have hl1:((S.ls (S.at line))++ [line]).length=(S.ls (S.at line)).length+1:=by rw [List.length_append];rfl
 have hl2: [line].length=1:=rfl
 have e:S.touch line=S.set (S.at line) ((S.ls (S.at line))++ [line]):=(if_neg (by rw [h7];nofun)).trans (congrArg (S.set (S.at line)) (if_neg (by omega)))
 rw [e]
 refine⟨_,⟨rfl,rfl⟩,?_⟩
 exact(show Sub _ _ from Y).trans (Ur (b:=b) (vs:=vs) (v:= .slice (some (i17,q17)) ((S.ls (S.at line)).length+1) c17 1) (l:=(S.ls (S.at line))++ [line]) hS hlt (by omega))
theorem rY (R:List SP) (i:Nat) (x line:Int):zy 146 [vi x,vp i 0] (ent z8 i [vi line]::R) fun w L=>w= .bool (decide (x=line))∧L=ent z8 i [vi line]::R:=by
 refine SW.intro rfl Tryz.func146 rfl ?_
 exact O0 7 J (ld J Y J (Z 4 J (zE J J J fq)))
theorem Jm (R:List SP) (a:Nat) (S:vM) (line:Int):zy 93 [vp a 0,vi line] (ent wn a S::R) fun v L=>v= .bool (S.has line)∧L=ent wn a (S.drop line)::R:=by
 refine yQ (t9 a S) fun hS0=> ?_
 refine SW.intro rfl Tryz.func93 rfl ?_
 refine O0 2 J (yW rfl rfl rfl rfl fun i3=> ?_)
 refine Z 6 J (ld J Y J (Z1 (pP _ _ S _) J Y (zN (fun h8=> ?_) (fun h8=> ?_))))
 ·have hl:0≤line:=by { unfold vM.has at h8;by_cases h:0≤line;exact h;rw [decide_eq_false h]at h8;cases h8 }
  refine qw (WI a S) fun y hS=> ?_
  obtain⟨b,vs⟩:=y
  dsimp only [lF,List.cons_append,List.nil_append]
  have h1:=hS.1
  have h2:=hS.2.1
  have hlt:=S.at_lt hS line
  have hle:=hS.2.2.2 (S.at line)
  have hw:=hS.2.2.1
  refine Z 7 J (ld J Y J (Z1 (dt _ _ b S hS _ (by omega)) J Y (Z 7 J (lf J Y rfl (zR (M:=ent (zP yK 1) (vs (S.at line)) (S.ls (S.at line))::ent (zG setX) b ((List.range S.n).erase (S.at line),fun s=>(vs s,S.ls s))::ent zI b (S.n,vs)::ent z8 a [.slice (some (b,0)) S.n (some S.n) 1,vi S.ways]::ent z8 i3 (vi line).cells::R) ((show Sub _ (ent (zG setX) b (List.range S.n,fun s=>(vs s,S.ls s))::ent zI b (S.n,vs)::ent z8 a [.slice (some (b,0)) S.n (some S.n) 1,vi S.ways]::ent z8 i3 (vi line).cells::R)from Y).trans (star_pick (qc hlt))) ?_)))))
  refine yG (l0 _ _ _ (by omega)) rfl (fun _=>rfl) ?_
  rintro u17 _ rfl
  refine Z 1 J (zR (M:=ent (zP yK 1) u17 (S.ls (S.at line))::ent z8 i3 (vi line).cells::ent (zP yK 1) (vs (S.at line)) (S.ls (S.at line))::ent (zG setX) b ((List.range S.n).erase (S.at line),fun s=>(vs s,S.ls s))::ent zI b (S.n,vs)::ent z8 a [.slice (some (b,0)) S.n (some S.n) 1,vi S.ways]::R) Y ?_)
  refine o_call (li [ent z8 i3 [vi line]] _ u17 (S.ls (S.at line)) (by omega) (fun x=>decide (x=line)) 146 [] [vp i3 0] (fun x _ R2=>rY R2 i3 x line)) rfl (fun _=>rfl) ?_
  rintro u19 _ rfl
  dsimp only [List.cons_append,List.nil_append]
  refine yD (v:=u19) fun au19 cu19 eu19 hvu19 _=> ?_
  subst hvu19
  refine Z 1 J (sF J Y J J (Z 6 J (zE J J J ?_)))
  have e:S.drop line=S.set (S.at line) ((S.ls (S.at line)).filter fun x=> !decide (x=line)):=if_pos h8
  rw [e,h8]
  have hl3:=List.length_filter_le (fun x=> !decide (x=line)) (S.ls (S.at line))
  refine⟨_,⟨rfl,rfl⟩,?_⟩
  exact(show Sub _ _ from Y).trans (Ur (b:=b) (vs:=vs) (v:= .slice au19 ((S.ls (S.at line)).filter fun x=> !decide (x=line)).length cu19 eu19) (l:=(S.ls (S.at line)).filter fun x=> !decide (x=line)) hS hlt (by omega))
 refine Z 8 J (zE J J J ?_)
 have e:S.drop line=S:=if_neg (by rw [h8];nofun)
 rw [e,h8]
 exact fq
structure zw where
 n:Nat
 first:Nat→vM
 all:vM
def zw.Ok (C:zw):Prop:=1≤C.n∧C.n≤2∧(∀i,(C.first i).n=4∧(C.first i).ways=2)∧C.all.n=8∧C.all.ways=4
abbrev uJ (p:Nat):List AVal:= [vp p 0]
abbrev WW (x:Nat×vM):SP:=ent wn x.1 x.2
abbrev nL (a:Nat) (C:zw) (v:AVal) (ps:Nat→Nat) (d:Nat):List SP:= [ent z8 a [v,vp d 0],ent (zP uJ 1) v ((List.range C.n).map ps),ent (zG WW) a (List.range C.n,fun i=>(ps i,C.first i)),ent wn d C.all]
def qI (a:Nat) (C:zw):SP:=fun h=> ∃y:AVal×(Nat→Nat)×Nat,C.Ok∧yd (nL a C y.1 y.2.1 y.2.2) h
theorem Ya (a:Nat) (C:zw): ∀h,qI a C h→ ∃y:AVal×(Nat→Nat)×Nat,C.Ok∧yd (nL a C y.1 y.2.1 y.2.2) h:=fun _ h=>h
theorem we {a d:Nat} {C:zw} {v:AVal} {ps:Nat→Nat} (hC:C.Ok): ∀h,yd [ent z8 a [v,vp d 0],ent (zP uJ 1) v ((List.range C.n).map ps),ent (zG WW) a (List.range C.n,fun i=>(ps i,C.first i)),ent wn d C.all] h→qI a C h:=fun _ x=>⟨(v,ps,d),hC,x⟩
theorem vw {α:Type} {n k:Nat} (f:Nat→α) (h:k<n):((List.range n).map f)[k]? =some (f k):=by rw [List.getElem?_map,List.getElem?_range h];rfl
def zw.is (C:zw) (cpu:Int):Bool:=decide (0≤cpu∧cpu<C.n)
abbrev zw.put (C:zw) (k:Nat) (s:vM):zw:= { C with first:=fun i=>if i=k then s else C.first i }
def zw.touch (C:zw) (cpu line:Int):Bool×zw:=if C.is cpu && decide (0≤line)then(true,{ C.put cpu.toNat ((C.first cpu.toNat).touch line)with all:=C.all.touch line })else(false,C)
def zw.near (C:zw) (cpu line:Int):Bool:=C.is cpu && (C.first cpu.toNat).has line
def zw.evict (C:zw) (cpu line:Int):Bool×zw:=if C.is cpu then((C.first cpu.toNat).has line,C.put cpu.toNat ((C.first cpu.toNat).drop line))else(false,C)
def zw.dropTo (C:zw) (line:Int) (c:Nat):zw:= { C with first:=fun i=>if i<c then(C.first i).drop line else C.first i }
def UL (C:zw) (line:Int):Nat→Bool
 |0=>false
 |c+1=>(C.first c).has line||UL C line c
def zw.clear (C:zw) (line:Int):Bool×zw:=(UL C line C.n||C.all.has line,{ C.dropTo line C.n with all:=C.all.drop line })
theorem vM.touch_w (S:vM) (line:Int):(S.touch line).ways=S.ways:=by unfold vM.touch;split<;>rfl
theorem vM.drop_w (S:vM) (line:Int):(S.drop line).ways=S.ways:=by unfold vM.drop;split<;>rfl
theorem zw.Ok.put {C:zw} (h:C.Ok) (k:Nat) {s:vM} (hs:s.n=4∧s.ways=2):(C.put k s).Ok:=⟨h.1,h.2.1,fun i=>by
 show(if i=k then s else C.first i).n=4∧(if i=k then s else C.first i).ways=2
 split
 ·exact hs
 exact h.2.2.1 i,h.2.2.2⟩
theorem zw.Ok.all {C:zw} (h:C.Ok) {s:vM} (hs:s.n=8∧s.ways=4):({ C with all:=s } :zw).Ok:=⟨h.1,h.2.1,h.2.2.1,hs⟩
theorem zw.Ok.dropTo {C:zw} (h:C.Ok) (line:Int) (c:Nat):(C.dropTo line c).Ok:=⟨h.1,h.2.1,fun i=>by
 show(if i<c then(C.first i).drop line else C.first i).n=4∧(if i<c then(C.first i).drop line else C.first i).ways=2
 split
 ·rw [vM.drop_n,vM.drop_w];exact h.2.2.1 i
 exact h.2.2.1 i,h.2.2.2⟩
theorem zw.dropTo_zero (C:zw) (line:Int):C.dropTo line 0=C:=by
 unfold zw.dropTo
 have:(fun i=>if i<0 then(C.first i).drop line else C.first i)=C.first:=by funext i;rw [if_neg (by omega)]
 rw [this]
theorem Vz {a n k:Nat} {ps:Nat→Nat} {F:Nat→vM} {s:vM} {R:List SP} (hk:k<n):Sub (ent wn (ps k) s::ent (zG WW) a ((List.range n).erase k,fun i=>(ps i,F i))::R) (ent (zG WW) a (List.range n,fun i=>(ps i,if i=k then s else F i))::R):=by
 have:=star_put (K:=WW) (b:=a) (f:=fun i=>(ps i,F i)) (g:=fun i=>(ps i,if i=k then s else F i)) (R:=R) (qc hk) List.nodup_range (fun j _ hj=>by show(ps j,if j=k then s else F j)=_;rw [if_neg hj])
 have e:(if k=k then s else F k)=s:=if_pos rfl
 have e1:WW (ps k,if k=k then s else F k)=ent wn (ps k) s:=by rw [e]
 rw [←e1];exact this
theorem fV (R:List SP) (a:Nat) (C:zw) (v x:AVal) (ps:Nat→Nat) (cpu:Int) (hC:C.Ok):zy 92 [vp a 0,vi cpu] (ent z8 a [v,x]::ent (zP uJ 1) v ((List.range C.n).map ps)::R) fun w L=>w= .bool (C.is cpu)∧L=ent z8 a [v,x]::ent (zP uJ 1) v ((List.range C.n).map ps)::R:=by
 have hl:((List.range C.n).map ps).length=C.n:=by simp
 refine SW.intro rfl Tryz.func92 rfl ?_
 refine O0 8 J (z0 (fun h6=> ?_) (fun h6=> ?_))
 ·refine Z 4 J (fa J Y (ld J Y J (yo rfl (fun _ h=>y0 rfl rfl rfl rfl rfl h) ?_)))
  refine Z 5 J (zE J J J (⟨_,⟨yC ?_,rfl⟩,Y⟩))
  simp;omega
 refine Z 12 J (zE J J J (⟨_,⟨yC ?_,rfl⟩,Y⟩))
 simp;omega
theorem eH (R:List SP) (a:Nat) (C:zw) (cpu line:Int):zy 149 [vp a 0,vi cpu,vi line] (ent qI a C::R) fun w L=>w= .bool (C.near cpu line)∧L=ent qI a C::R:=by
 refine zS (Ya a C) fun y hC=> ?_
 obtain⟨v,ps,d⟩:=y
 dsimp only [nL,List.cons_append,List.nil_append]
 have h1:=hC.1
 have h2:=hC.2.1
 have hl:((List.range C.n).map ps).length=C.n:=by simp
 refine SW.intro rfl Tryz.func149 rfl ?_
 refine O0 8 J (Z2 (fV _ _ C _ _ ps _ hC) J Y Y (zN (fun h9=> ?_) (fun h9=> ?_)))
 ·have hi:0≤cpu∧cpu<C.n:=of_decide_eq_true h9
  have hk:cpu.toNat<C.n:=by omega
  have hx:=vw ps hk
  have hs:=hC.2.2.1 cpu.toNat
  refine Z 3 J (fa J Y (ld J Y J (Z 1 J (yo rfl (fun _ h=>yM rfl rfl rfl (by omega) (by omega) h) ?_))))
  refine lE 0 J Y J hx J (Z 1 J (zR (M:=ent wn (ps cpu.toNat) (C.first cpu.toNat)::ent (zG WW) a ((List.range C.n).erase cpu.toNat,fun i=>(ps i,C.first i))::ent z8 a [v,vp d 0]::ent (zP uJ 1) v ((List.range C.n).map ps)::ent wn d C.all::R) ((show Sub _ (ent (zG WW) a (List.range C.n,fun i=>(ps i,C.first i))::ent z8 a [v,vp d 0]::ent (zP uJ 1) v ((List.range C.n).map ps)::ent wn d C.all::R)from Y).trans (star_pick (qc hk))) ?_))
  refine Z1 (pP _ _ (C.first cpu.toNat) _) J Y (zR (M:=ent (zG WW) a (List.range C.n,fun i=>(ps i,C.first i))::ent z8 a [v,vp d 0]::ent (zP uJ 1) v ((List.range C.n).map ps)::ent wn d C.all::R) (star_put (K:=WW) (g:=fun i=>(ps i,C.first i)) (qc hk) List.nodup_range fun _ _ _=>rfl) ?_)
  refine Z 4 J (zE J J J (⟨_,⟨congrArg AVal.bool ?_,rfl⟩,Sub.mk4 (we hC) Y⟩))
  unfold zw.near
  rw [h9];rfl
 refine Z 14 J (zE J J J (⟨_,⟨congrArg AVal.bool ?_,rfl⟩,Sub.mk4 (we hC) Y⟩))
 unfold zw.near
 rw [h9];rfl
theorem rL (R:List SP) (a:Nat) (C:zw) (cpu line:Int):zy 55 [vp a 0,vi cpu,vi line] (ent qI a C::R) fun w L=>w= .bool (C.evict cpu line).1∧L=ent qI a (C.evict cpu line).2::R:=by
 refine zS (Ya a C) fun y hC=> ?_
 obtain⟨v,ps,d⟩:=y
 dsimp only [nL,List.cons_append,List.nil_append]
 have h1:=hC.1
 have h2:=hC.2.1
 have hl:((List.range C.n).map ps).length=C.n:=by simp
 refine SW.intro rfl Tryz.func55 rfl ?_
 refine O0 8 J (Z2 (fV _ _ C _ _ ps _ hC) J Y Y (zN (fun h9=> ?_) (fun h9=> ?_)))
 ·have hi:0≤cpu∧cpu<C.n:=of_decide_eq_true h9
  have hk:cpu.toNat<C.n:=by omega
  have hx:=vw ps hk
  have hs:=hC.2.2.1 cpu.toNat
  refine Z 3 J (fa J Y (ld J Y J (Z 1 J (yo rfl (fun _ h=>yM rfl rfl rfl (by omega) (by omega) h) ?_))))
  refine lE 0 J Y J hx J (Z 1 J (zR (M:=ent wn (ps cpu.toNat) (C.first cpu.toNat)::ent (zG WW) a ((List.range C.n).erase cpu.toNat,fun i=>(ps i,C.first i))::ent z8 a [v,vp d 0]::ent (zP uJ 1) v ((List.range C.n).map ps)::ent wn d C.all::R) ((show Sub _ (ent (zG WW) a (List.range C.n,fun i=>(ps i,C.first i))::ent z8 a [v,vp d 0]::ent (zP uJ 1) v ((List.range C.n).map ps)::ent wn d C.all::R)from Y).trans (star_pick (qc hk))) ?_))
  refine Z1 (Jm _ _ (C.first cpu.toNat) _) J Y (Z 4 J (zE J J J ?_))
  have e:C.evict cpu line=((C.first cpu.toNat).has line,C.put cpu.toNat ((C.first cpu.toNat).drop line)):=if_pos h9
  rw [e]
  refine⟨_,⟨rfl,rfl⟩,?_⟩
  exact(Vz hk).trans (Sub.mk4 (we (C:=C.put cpu.toNat ((C.first cpu.toNat).drop line)) (hC.put _ (by rw [vM.drop_n,vM.drop_w];exact hs))) Y)
 refine Z 14 J (zE J J J ?_)
 have e:C.evict cpu line=(false,C):=if_neg (by rw [h9];nofun)
 rw [e]
 exact⟨_,⟨rfl,rfl⟩,Sub.mk4 (we hC) Y⟩
theorem uD (R:List SP) (a:Nat) (C:zw) (cpu line:Int):zy 138 [vp a 0,vi cpu,vi line] (ent qI a C::R) fun w L=>w= .bool (C.touch cpu line).1∧L=ent qI a (C.touch cpu line).2::R:=by
 refine zS (Ya a C) fun y hC=> ?_
 obtain⟨v,ps,d⟩:=y
 dsimp only [nL,List.cons_append,List.nil_append]
 have h1:=hC.1
 have h2:=hC.2.1
 have hl:((List.range C.n).map ps).length=C.n:=by simp
 refine SW.intro rfl Tryz.func138 rfl ?_
 refine O0 9 J (Z2 (fV _ _ C _ _ ps _ hC) J Y Y (zN (fun h9=> ?_) (fun h9=> ?_)))
 ·have hi:0≤cpu∧cpu<C.n:=of_decide_eq_true h9
  have hk:cpu.toNat<C.n:=by omega
  have hx:=vw ps hk
  have hs:=hC.2.2.1 cpu.toNat
  refine Z 4 J (z0 (fun h13=> ?_) (fun h13=> ?_))
  ·refine Z 8 J (zE J J J ?_)
   have e:C.touch cpu line=(false,C):=if_neg (by rw [h9,decide_eq_false (show¬0≤line by omega)];nofun)
   rw [e]
   exact⟨_,⟨rfl,rfl⟩,Sub.mk4 (we hC) Y⟩
  refine Z 8 J (fa J Y (ld J Y J (Z 1 J (yo rfl (fun _ h=>yM rfl rfl rfl (by omega) (by omega) h) ?_))))
  refine lE 0 J Y J hx J (Z 1 J (zR (M:=ent wn (ps cpu.toNat) (C.first cpu.toNat)::ent (zG WW) a ((List.range C.n).erase cpu.toNat,fun i=>(ps i,C.first i))::ent z8 a [v,vp d 0]::ent (zP uJ 1) v ((List.range C.n).map ps)::ent wn d C.all::R) ((show Sub _ (ent (zG WW) a (List.range C.n,fun i=>(ps i,C.first i))::ent z8 a [v,vp d 0]::ent (zP uJ 1) v ((List.range C.n).map ps)::ent wn d C.all::R)from Y).trans (star_pick (qc hk))) ?_))
  refine Z1 (kz _ _ (C.first cpu.toNat) _ (by omega)) J Y (Z 5 J (fa J Y (ld J Y J (Z 1 J (Z1 (kz _ _ C.all _ (by omega)) J Y (Z 6 J (zE J J J ?_)))))))
  have e:C.touch cpu line=(true,{ C.put cpu.toNat ((C.first cpu.toNat).touch line)with all:=C.all.touch line }):=if_pos (by rw [h9,decide_eq_true (show 0≤line by omega)];rfl)
  rw [e]
  refine⟨_,⟨rfl,rfl⟩,?_⟩
  refine(show Sub _ (ent wn (ps cpu.toNat) ((C.first cpu.toNat).touch line)::ent (zG WW) a ((List.range C.n).erase cpu.toNat,fun i=>(ps i,C.first i))::ent z8 a [v,vp d 0]::ent (zP uJ 1) v ((List.range C.n).map ps)::ent wn d (C.all.touch line)::R)from Y).trans ((Vz hk).trans ?_)
  exact Sub.mk4 (we (C:= { C.put cpu.toNat ((C.first cpu.toNat).touch line)with all:=C.all.touch line }) ((hC.put _ (by rw [vM.touch_n,vM.touch_w];exact hs)).all (by rw [vM.touch_n,vM.touch_w];exact hC.2.2.2))) Y
 refine Z 12 J (zE J J J ?_)
 have e:C.touch cpu line=(false,C):=if_neg (by rw [h9];nofun)
 rw [e]
 exact⟨_,⟨rfl,rfl⟩,Sub.mk4 (we hC) Y⟩
theorem cx {n p:Nat} {ps:Nat→Nat} :(List.range (n+1)).map (fun i=>if i=n then p else ps i)=(List.range n).map ps++ [p]:=by
 rw [List.range_succ,List.map_append]
 congr 1
 ·exact List.map_congr_left fun j hj=>if_neg (by have:=List.mem_range.1 hj;omega)
 show [if n=n then p else ps n]= [p];rw [if_pos rfl]
theorem lb {a n p:Nat} {ps:Nat→Nat} {F:Nat→vM} {s:vM} {R:List SP} (hs:F n=s):Sub (ent wn p s::ent (zG WW) a (List.range n,fun i=>(ps i,F i))::R) (ent (zG WW) a (List.range (n+1),fun i=>(if i=n then p else ps i,F i))::R):=by
 have:=gt (K:=WW) (b:=a) (f:=fun i=>(ps i,F i)) (g:=fun i=>(if i=n then p else ps i,F i)) (n:=n) (R:=R) (fun j hj=>by show(if j=n then p else ps j,F j)=_;rw [if_neg (by omega)])
 have e:(if n=n then p else ps n)=p:=if_pos rfl
 have e1:WW (if n=n then p else ps n,F n)=ent wn p s:=by rw [e,hs]
 rw [←e1];exact this
theorem zw.dropTo_more (C:zw) (line:Int) (c j:Nat):(C.dropTo line (c+1)).first j=if j=c then(C.first c).drop line else(C.dropTo line c).first j:=by
 show(if j<c+1 then _ else _)=if j=c then _ else if j<c then _ else _
 by_cases h:j=c
 ·subst h;rw [if_pos (by omega),if_pos rfl]
 rw [if_neg h]
 by_cases h2:j<c
 ·rw [if_pos h2,if_pos (by omega)]
 rw [if_neg h2,if_neg (by omega)]
theorem hZ (R:List SP) (a:Nat) (C:zw) (line:Int):zy 139 [vp a 0,vi line] (ent qI a C::R) fun w L=>w= .bool (C.clear line).1∧L=ent qI a (C.clear line).2::R:=by
 refine zS (Ya a C) fun y hC=> ?_
 obtain⟨v,ps,d⟩:=y
 dsimp only [nL,List.cons_append,List.nil_append]
 have h1:=hC.1
 have h2:=hC.2.1
 have hl:((List.range C.n).map ps).length=C.n:=by simp
 refine SW.intro rfl Tryz.func139 rfl ?_
 refine O0 8 J (fa J Y (ld J Y J (Z 1 J (Z1 (Jm _ _ C.all _) J Y (Z 7 J (fa J Y (ld J Y J (yo rfl (fun _ h=>y0 rfl rfl rfl rfl rfl h) ?_))))))))
 refine yn (congrArg (fun n:Nat=>vi n) hl) ?_
 refine Z 3 J (zl (fun j T L=> ∃(c:Nat),(c≤C.n)∧j=C.n-c∧T.len=2∧Tm.get 0 T=some (vp a 0)∧Tm.get 1 T=some (vi line)∧Tm.get 5 T=some (.bool (UL C line c||C.all.has line))∧Tm.get 17 T=some (v)∧Tm.get 18 T=some (vi (C.n:Nat))∧Tm.get 19 T=some (vi (c:Nat))∧Sub L (ent (zG WW) a (List.range C.n,fun i=>(ps i,(C.dropTo line c).first i))::ent z8 a [v,vp d 0]::ent (zP uJ 1) v ((List.range C.n).map ps)::ent wn d (C.all.drop line)::R)) (C.n) ⟨0,by omega,by omega,rfl,rfl,rfl,rfl,rfl,rfl,rfl,(by rw [C.dropTo_zero];exact Y)⟩ ?_)
 rintro j T L0 ⟨c,hc,rfl,hl,g0,g1,g5,g17,g18,g19,hsb⟩
 obtain⟨tg,rfl⟩:=oC hl g0 g1 g5 g17 g18 g19
 clear hl g0 g1 g5 g17 g18 g19
 refine zu hsb ?_
 clear hsb L0
 refine O0 3 J (z0 (fun h20=> ?_) (fun h20=> ?_))
 ·refine Z 8 J (yo rfl (fun _ h=>yM rfl rfl rfl (by omega) (by omega) h) ?_)
  have hk:c<C.n:=by omega
  have hx:=vw ps hk
  refine lE 0 J Y J hx J (Z 5 J (zR (M:=ent wn (ps c) (C.first c)::ent (zG WW) a ((List.range C.n).erase c,fun i=>(ps i,(C.dropTo line c).first i))::ent z8 a [v,vp d 0]::ent (zP uJ 1) v ((List.range C.n).map ps)::ent wn d (C.all.drop line)::R) (by { have e:(C.dropTo line c).first c=C.first c:=if_neg (Nat.lt_irrefl _);have:=star_pick (K:=WW) (b:=a) (f:=fun i=>(ps i,(C.dropTo line c).first i)) (R:=ent z8 a [v,vp d 0]::ent (zP uJ 1) v ((List.range C.n).map ps)::ent wn d (C.all.drop line)::R) (qc hk);simp only [e]at this;exact this }) ?_))
  refine Z1 (Jm _ _ (C.first c) _) J Y (zN (fun h25=> ?_) (fun h25=> ?_))
  ·refine Z 3 J (yn (w:= .bool (UL C line (c+1)||C.all.has line)) (by show _=AVal.bool (((C.first c).has line||UL C line c)||C.all.has line);rw [h25];rfl) ?_)
   refine Z 3 J (ad J (Z 2 J ?_))
   exact Or.inl ⟨rfl,_,by omega,c+1,by omega,rfl,rfl,rfl,rfl,rfl,rfl,rfl,rfl,((Vz (F:=(C.dropTo line c).first) (s:=(C.first c).drop line) hk).trans (Sub.one fun f x=>Qh (fun j _=>by rw [C.dropTo_more]) f x))⟩
  refine Z 3 J (yn (w:= .bool (UL C line (c+1)||C.all.has line)) (by show _=AVal.bool (((C.first c).has line||UL C line c)||C.all.has line);rw [h25];rfl) ?_)
  refine Z 3 J (ad J (Z 2 J ?_))
  exact Or.inl ⟨rfl,_,by omega,c+1,by omega,rfl,rfl,rfl,rfl,rfl,rfl,rfl,rfl,((Vz (F:=(C.dropTo line c).first) (s:=(C.first c).drop line) hk).trans (Sub.one fun f x=>Qh (fun j _=>by rw [C.dropTo_more]) f x))⟩
 refine Z 4 J (Or.inr ⟨nofun,?_⟩)
 refine OX 6 J (zE J J J ?_)
 have hcn:c=C.n:=by omega
 subst hcn
 refine⟨_,⟨rfl,rfl⟩,?_⟩
 refine(show Sub _ (ent z8 a [v,vp d 0]::ent (zP uJ 1) v ((List.range C.n).map ps)::ent (zG WW) a (List.range C.n,fun i=>(ps i,(C.dropTo line C.n).first i))::ent wn d (C.all.drop line)::R)from Y).trans ?_
 exact Sub.mk4 (we (C:= { C.dropTo line C.n with all:=C.all.drop line }) ((hC.dropTo line C.n).all (by rw [vM.drop_n,vM.drop_w];exact hC.2.2.2))) Y
theorem AF (R:List SP) (z:Int):zy 63 [vi z] (R) fun w L=> ∃a,w=vp a 0∧L=ent qI a ⟨(min (max 1 z) 2).toNat,fun _=>⟨4,2,fun _=> []⟩,⟨8,4,fun _=> []⟩⟩::R:=by
 refine SW.intro rfl Tryz.func63 rfl ?_
 refine O0 6 J (o_call (UE _ 8 4 (by omega) (by omega)) rfl (fun _=>rfl) ?_)
 rintro _ _ ⟨n4,rfl,rfl⟩
 refine bu [_,_] J Y Y J (yW rfl rfl rfl rfl fun i6=> ?_)
 refine Z 6 J (zf rfl (fun _=>Js rfl rfl rfl rfl rfl) ?_)
 refine zf rfl (fun _=>Jv rfl rfl rfl rfl rfl) ?_
 refine Z 3 J (zl (fun j T L=> ∃(c:Nat) (u:AVal) (ps:Nat→Nat),(c≤(min (max 1 z) 2).toNat)∧j=(min (max 1 z) 2).toNat-c∧T.len=2∧Tm.get 3 T=some (vp i6 0)∧Tm.get 9 T=some (vi (min (max 1 z) 2))∧Tm.get 10 T=some (vi (c:Nat))∧Sub L (ent z8 i6 [u,vp n4 0]::ent (zP uJ 1) (u) ((List.range c).map ps)::ent (zG WW) i6 (List.range c,fun i=>(ps i,⟨4,2,fun _=> []⟩))::ent wn n4 ⟨8,4,fun _=> []⟩::R)) ((min (max 1 z) 2).toNat) ⟨0,.slice none 0 (some 0) 0,fun _=>0,by omega,by omega,rfl,rfl,rfl,rfl,((Sub.nilE (α:=Nat) (en:=uJ) (es:=1) (fun _=>rfl) (by decide) 0 _).trans ((jq (K:=WW) (b:=i6) (f:=fun _=>(0,⟨4,2,fun _=> []⟩))).trans (show Sub _ (ent z8 i6 (AVal.agg [.slice none 0 (some 0) 0,vp n4 0]).cells::ent (zP uJ 1) (.slice none 0 (some 0) 0) []::ent (zG WW) i6 ([],fun _=>(0,⟨4,2,fun _=> []⟩))::ent wn n4 ⟨8,4,fun _=> []⟩::R)from Y)))⟩ ?_)
 rintro j T L0 ⟨c,u,ps,hc,rfl,hl,g3,g9,g10,hsb⟩
 obtain⟨tg,rfl⟩:=sA hl g3 g9 g10
 clear hl g3 g9 g10
 refine zu hsb ?_
 clear hsb L0
 refine YO (v:=u) fun a0 c0 e0 hv hz=> ?_
 subst hv
 have hl:((List.range c).map ps).length=c:=by simp
 refine O0 3 J (z0 (fun h11=> ?_) (fun h11=> ?_))
 ·refine Z 6 J (zO [0,0,2,6,14,0,32,126,255,511,1023] [([0,1,2,3,4],[4],some 5),([6],[4],some 7),([8,9],[],some 10),([],[],none)] (by kernel_rfl) ?_)
  refine z4 (ZK 3 J (zj J Y (ye J Y J (z5 ⟨(wV rfl (fun _ h=>Zp rfl rfl rfl h) rfl rfl (Jl fun h=>(hz h).2) z6),?_⟩))))
  refine o_call (UE _ 4 2 (by omega) (by omega)) rfl (fun _=>rfl) ?_
  rintro _ _ ⟨n17,rfl,rfl⟩
  refine zF (z4 (va (cs:= [_]) rfl rfl rfl (by decide) rfl fun i18=> ?_))
  refine z5 ⟨(wV rfl (fun _ h=>Zp rfl rfl rfl h) rfl rfl (Jl fun h=>(hz h).2) z6),?_⟩
  refine gV rfl rfl rfl rfl rfl rfl rfl ([n17]) rfl rfl (by simp) (by show _+1≤_;omega) rfl fun i19 q19 c19=> ?_
  refine zF (z4 (ZK 1 J (zj J Y (z5 ⟨z6,?_⟩))))
  refine sO J Y J J J (zF (z4 (z5 ⟨z6,?_⟩)))
  refine OX 1 J (ad J (Z 2 J ?_))
  exact Or.inl ⟨rfl,_,by omega,c+1,.slice (some (i19,q19)) (((List.range c).map ps).length+1) c19 1,fun i=>if i=c then n17 else ps i,by omega,rfl,rfl,rfl,rfl,rfl,(by rw [cx (ps:=ps)];exact(show Sub _ (ent wn n17 ⟨4,2,fun _=> []⟩::ent (zG WW) i6 (List.range c,fun i=>(ps i,⟨4,2,fun _=> []⟩))::ent z8 i6 [.slice (some (i19,q19)) (((List.range c).map ps).length+1) c19 1,vp n4 0]::ent (zP uJ 1) (.slice (some (i19,q19)) (((List.range c).map ps).length+1) c19 1) ((List.range c).map ps++ [n17])::ent wn n4 ⟨8,4,fun _=> []⟩::R)from Y).trans ((lb (F:=fun _=>⟨4,2,fun _=> []⟩) rfl).trans Y))⟩
 refine Z 4 J (Or.inr ⟨nofun,?_⟩)
 refine OX 6 J (zE J J J ?_)
 have hcn:c=(min (max 1 z) 2).toNat:=by omega
 subst hcn
 exact⟨_,⟨i6,rfl,rfl⟩,Sub.mk4 (we ⟨by show 1≤(min (max 1 z) 2).toNat;omega,by show(min (max 1 z) 2).toNat≤2;omega,fun _=>⟨rfl,rfl⟩,rfl,rfl⟩) Y⟩
section
variable {P:Program} {F:z9} {H:Hp}
theorem pW {t:TypeId} {c:Bool} {x y:Int} (hx:0≤x∧x≤18446744073709551615) (hy:0<y):wJ P F H .quo t c (.int .u64 (.lit x)) (.int .u64 (.lit y))=some (.int .u64 (.lit (x/y))):=by
 have h0:gD y 0=false:=by rw [wh];exact decide_eq_false (by omega)
 have e:x.tdiv y=x/y:=Int.tdiv_eq_ediv_of_nonneg hx.1
 have h1:0≤x/y:=Int.ediv_nonneg hx.1 (by omega)
 have h2:x/y≤x:=Int.ediv_le_self y hx.1
 simp [wJ,vf,ZD,uZ,h0,e,zU.wrap,yu (z:=x/y) (by omega)]
theorem Uj {t:TypeId} {c:Bool} {x y:Int} (hx:0≤x) (hy:0<y):wJ P F H .rem t c (.int .u64 (.lit x)) (.int .u64 (.lit y))=some (.int .u64 (.lit (x%y))):=by
 have h0:gD y 0=false:=by rw [wh];exact decide_eq_false (by omega)
 have e:x.tmod y=x%y:=Int.tmod_eq_emod_of_nonneg hx
 simp [wJ,vf,ZD,uZ,h0,e]
end
structure yB where
 cpu:Int
 root:Int
 pcid:Int
 t:Nat
 xs:List vB
def yB.Ok (X:yB):Prop:= ∀x,x ∈ X.xs→0≤x.frame∧x.frame≤64
abbrev tu (X:yB):List AVal:= [vi X.cpu,vi X.root,vi X.pcid,vp X.t 0]
abbrev VO (a:Nat) (X:yB) (_:Unit):List SP:= [ent z8 a (tu X),ent uz X.t X.xs]
def vW (a:Nat) (X:yB):SP:=fun h=> ∃y:Unit,X.Ok∧yd (VO a X y) h
theorem wx (a:Nat) (X:yB): ∀h,vW a X h→ ∃y:Unit,X.Ok∧yd (VO a X y) h:=fun _ h=>h
theorem YV (a:Nat) (X:yB): ∀h,vW a X h→X.Ok:=fun _ ⟨_,h,_⟩=>h
theorem yi {a:Nat} {X:yB} (hX:X.Ok): ∀h,yd [ent z8 a (tu X),ent uz X.t X.xs] h→vW a X h:=fun _ x=>⟨(),hX,x⟩
def vB.may (x:vB) (user write:Bool):Bool:=(!user||x.user) && (!write||x.write)
abbrev yB.find (X:yB) (page:Int):Option vB:=X.xs.find? fun x=>x.of X.pcid page
def zw.all_ (C:zw) (cpu:Int) (ps:List Int):zw:=ps.foldl (fun C z=>(C.touch cpu z).2) C
def yB.hit (X:yB) (user write:Bool) (page:Int):Bool:=(X.find page).isSome && ((X.find page).getD dy).may user write
abbrev uS (M:zA) (X:yB) (user write:Bool) (page:Int):Int:=if(M.walkTo X.root page).2=0 then(M.walkTo X.root page).1.Right user write else(M.walkTo X.root page).2
abbrev VH (M:zA) (C:zw) (X:yB) (page:Int):zw:=C.all_ X.cpu (M.walkTo X.root page).1.pl
abbrev Uk (M:zA) (X:yB) (page:Int):vB:=⟨X.pcid,page,((M.walkTo X.root page).1.fr:Nat),(M.walkTo X.root page).1.w,(M.walkTo X.root page).1.u,(M.walkTo X.root page).1.g⟩
def yB.frame (X:yB) (M:zA) (C:zw) (user write:Bool) (page:Int):(Int×Int)×yB×zw:=
 if X.hit user write page then((((X.find page).getD dy).frame,0),X,C)else
 if uS M X user write page≠0 then((0,uS M X user write page),X,VH M C X page)else
 ((((M.walkTo X.root page).1.fr:Nat),0),{ X with xs:=jN X.xs (Uk M X page) },VH M C X page)
def yB.trans (X:yB) (M:zA) (C:zw) (user write:Bool) (at_:Nat):(Int×Int)×yB×zw:=
 if 4096≤at_ then((0,3),X,C)else
 let r:=X.frame M C user write ((at_/8:Nat):Int)
 if r.1.2≠0 then((0,r.1.2),r.2)else((8*r.1.1+((at_%8:Nat):Int),0),r.2)
theorem oN (M:zA) (page:Nat): ∀k s,s.fr<M.n→(M.walk page k s).2=0→(M.walk page k s).1.fr<M.n:=by
 intro k
 induction k with
 |zero=>intro s h _;exact h
 |succ k ih=>
  intro s h h2
  rw [Wg M page k s _ _ rfl rfl]at h2 ⊢
  split
  ·rename_i e
   rw [if_pos e]at h2
   exfalso;simp only at h2;split at h2<;>omega
  rename_i e
  rw [if_neg e]at h2
  split
  ·rename_i e2
   rw [if_pos e2]at h2
   exact ih _ e2 h2
  rename_i e2
  rw [if_neg e2]at h2
  simp at h2
theorem ng (M:zA) (root page:Int) (h:(M.walkTo root page).2=0):(M.walkTo root page).1.fr<M.n:=by
 unfold zA.walkTo at h ⊢
 split
 ·rename_i e;rw [if_pos e]at h;simp at h
 rename_i e;rw [if_neg e]at h
 split
 ·rename_i e2;rw [if_pos e2]at h
  exact oN M _ _ _ (by show root.toNat<M.n;omega) h
 rename_i e2;rw [if_neg e2]at h;simp at h
theorem aU (M:zA) (page:Nat): ∀k s,(M.walk page k s).1.pl.length≤s.pl.length+k:=by
 intro k
 induction k with
 |zero=>intro s;exact Nat.le_refl _
 |succ k ih=>
  intro s
  rw [Wg M page k s _ _ rfl rfl]
  split
  ·show(s.pl++ [_]).length≤_;rw [List.length_append];show s.pl.length+1≤_;omega
  split
  ·have h:=ih ⟨s.pl++ [((8*s.fr+idxN page (2-k):Nat):Int)],M.wordAt s.fr (idxN page (2-k)),s.w && wB (M.wordAt s.fr (idxN page (2-k))),s.u && uB (M.wordAt s.fr (idxN page (2-k))),gB (M.wordAt s.fr (idxN page (2-k))),fN (M.wordAt s.fr (idxN page (2-k)))⟩
   have h2:(s.pl++ [((8*s.fr+idxN page (2-k):Nat):Int)]).length=s.pl.length+1:=by rw [List.length_append];rfl
   simp only [h2]at h
   omega
  show(s.pl++ [_]).length≤_;rw [List.length_append];show s.pl.length+1≤_;omega
theorem JC (M:zA) (root page:Int):(M.walkTo root page).1.pl.length≤3:=by
 unfold zA.walkTo
 split
 ·exact Nat.zero_le _
 split
 ·have:=aU M page.toNat 3 ⟨[],0,true,true,false,root.toNat⟩
  simpa using this
 exact Nat.zero_le _
theorem zw.all_more {C:zw} {cpu z:Int} {ps:List Int} {q:Nat} (hz:ps[q]? =some z):C.all_ cpu (ps.take (q+1))=((C.all_ cpu (ps.take q)).touch cpu z).2:=qK _ _ _ _ _ hz
theorem yB.Ok.put {X:yB} (h:X.Ok) {x:vB} (hx:0≤x.frame∧x.frame≤64):({ X with xs:=jN X.xs x } :yB).Ok:=by
 intro y hy
 have hy:y ∈ jN X.xs x:=hy
 have:y ∈ (X.xs.filter fun y=> !y.of x.pcid x.page)++ [x]:=by
  unfold jN at hy
  simp only at hy
  split at hy
  ·exact List.mem_of_mem_drop hy
  exact hy
 rcases List.mem_append.1 this with h1|h1
 ·exact h y (List.mem_filter.1 h1).1
 rw [List.mem_singleton.1 h1];exact hx
theorem yB.frame_ok {X:yB} (h:X.Ok) {M:zA} (hM:M.Ok) (C:zw) (user write:Bool) (page:Int):(X.frame M C user write page).2.1.Ok∧0≤(X.frame M C user write page).1.1∧(X.frame M C user write page).1.1≤64:=by
 unfold yB.frame
 split
 ·rename_i e
  refine⟨h,?_⟩
  unfold yB.hit at e
  cases hf:X.find page with
  |none=>rw [hf]at e;cases e
  |some x=>exact h x (List.mem_of_find?_eq_some hf)
 split
 ·exact⟨h,Int.le_refl _,by show(0:Int)≤64;omega⟩
 rename_i e
 have hn:=hM.2.1
 have h0:(M.walkTo X.root page).2=0:=by
  by_cases h0:(M.walkTo X.root page).2=0
  ·exact h0
  exfalso;apply e;show uS M X user write page≠0;unfold uS;rw [if_neg h0];exact h0
 have:=ng M X.root page h0
 exact⟨h.put (by show 0≤(((M.walkTo X.root page).1.fr:Nat):Int)∧(((M.walkTo X.root page).1.fr:Nat):Int)≤64;omega),by show 0≤(((M.walkTo X.root page).1.fr:Nat):Int);omega,by show(((M.walkTo X.root page).1.fr:Nat):Int)≤64;omega⟩
theorem AN (R:List SP) (z:Int):zy 110 [vi z] (R) fun v L=> ∃a t,v=vp a 0∧L=ent vW a ⟨z,0,0,t,[]⟩::R:=by
 refine SW.intro rfl Tryz.func110 rfl ?_
 refine O0 7 J (o_call (BE _) rfl (fun _=>rfl) ?_)
 rintro _ _ ⟨n4,rfl,rfl⟩
 refine bu [_,_,_,_] J Y Y J (yW rfl rfl rfl rfl fun i6=> ?_)
 exact Z 3 J (zE J J J ⟨_,⟨i6,n4,rfl,rfl⟩,Sub.mk2 (yi (X:=⟨z,0,0,n4,[]⟩) (fun x hx=>by cases hx)) Y⟩)
theorem mD (R:List SP) (a:Nat) (X:yB):zy 36 [vp a 0] (ent vW a X::R) fun v L=>v=vi X.root∧L=ent vW a X::R:=by
 refine zS (wx a X) fun y hX=> ?_
 dsimp only [VO,List.cons_append,List.nil_append]
 refine SW.intro rfl Tryz.func36 rfl ?_
 exact O0 8 J (fa J Y (ld J Y J (Z 3 J (zE J J J ⟨_,⟨rfl,rfl⟩,Sub.mk2 (yi hX) Y⟩))))
theorem mJ (R:List SP) (a:Nat) (X:yB):zy 37 [vp a 0] (ent vW a X::R) fun v L=>v=vi X.pcid∧L=ent vW a X::R:=by
 refine zS (wx a X) fun y hX=> ?_
 dsimp only [VO,List.cons_append,List.nil_append]
 refine SW.intro rfl Tryz.func37 rfl ?_
 exact O0 8 J (fa J Y (ld J Y J (Z 3 J (zE J J J ⟨_,⟨rfl,rfl⟩,Sub.mk2 (yi hX) Y⟩))))
theorem U4 (R:List SP) (a:Nat) (X:yB):zy 28 [vp a 0] (ent vW a X::R) fun v L=>v=vp X.t 0∧L=ent vW a X::R:=by
 refine zS (wx a X) fun y hX=> ?_
 dsimp only [VO,List.cons_append,List.nil_append]
 refine SW.intro rfl Tryz.func28 rfl ?_
 exact O0 8 J (fa J Y (ld J Y J (Z 3 J (zE J J J ⟨_,⟨rfl,rfl⟩,Sub.mk2 (yi hX) Y⟩))))
theorem Vh (R:List SP) (a:Nat) (X:yB) (root pcid:Int):zy 157 [vp a 0,vi root,vi pcid,.bool true] (ent vW a X::R) fun v L=>v= .tuple []∧L=ent vW a { X with root:=root,pcid:=pcid } ::R:=by
 refine zS (wx a X) fun y hX=> ?_
 dsimp only [VO,List.cons_append,List.nil_append]
 refine SW.intro rfl Tryz.func157 rfl ?_
 exact O0 7 J (fa J Y (sO J Y J J J (Z 1 J (fa J Y (sO J Y J J J (Z 8 J (qz J J ⟨_,⟨rfl,rfl⟩,Sub.mk2 (yi (X:= { X with root:=root,pcid:=pcid }) hX) Y⟩)))))))
theorem m3 (R:List SP) (x:vB) (user write:Bool):zy 228 [.agg (u6 x),.bool user,.bool write] (R) fun v L=>v= .bool (x.may user write)∧L=R:=by
 refine SW.intro rfl Tryz.func228 rfl ?_
 refine O0 2 J (yW rfl rfl rfl rfl fun i3=> ?_)
 refine Z 5 J (zN (fun h7=> ?_) (fun h7=> ?_))
 ·refine Z 2 J (fa J Y (ld J Y J (zN (fun h11=> ?_) (fun h11=> ?_))))
  ·refine Z 3 J (zN (fun h14=> ?_) (fun h14=> ?_))
   ·refine Z 2 J (fa J Y (ld J Y J (Z 5 J (zE J J J (⟨_,⟨congrArg AVal.bool ?_,rfl⟩,Y⟩)))))
    unfold vB.may
    simp [h7,h11,h14]
   refine Z 9 J (zE J J J (⟨_,⟨congrArg AVal.bool ?_,rfl⟩,Y⟩))
   unfold vB.may
   simp [h7,h11,h14]
  refine Z 12 J (zE J J J (⟨_,⟨congrArg AVal.bool ?_,rfl⟩,Y⟩))
  unfold vB.may
  simp [h7,h11]
 refine Z 7 J (zN (fun h14=> ?_) (fun h14=> ?_))
 ·refine Z 2 J (fa J Y (ld J Y J (Z 5 J (zE J J J (⟨_,⟨congrArg AVal.bool ?_,rfl⟩,Y⟩)))))
  unfold vB.may
  simp [h7,h14]
 refine Z 9 J (zE J J J (⟨_,⟨congrArg AVal.bool ?_,rfl⟩,Y⟩))
 unfold vB.may
 simp [h7,h14]
theorem lI (R:List SP) (a m c:Nat) (X:yB) (M:zA) (C:zw) (user write:Bool) (page:Int):zy 189 [vp a 0,vp m 0,vp c 0,.bool user,.bool write,vi page] (ent vW a X::ent zQ m M::ent qI c C::R) fun v L=>v= .tuple [vi (X.frame M C user write page).1.1,vi (X.frame M C user write page).1.2]∧L=ent vW a (X.frame M C user write page).2.1::ent zQ m M::ent qI c (X.frame M C user write page).2.2::R:=by
 refine yQ (YV a X) fun hX0=> ?_
 refine yQ (qD m M) fun hM=> ?_
 refine zS (wx a X) fun y hX=> ?_
 dsimp only [VO,List.cons_append,List.nil_append]
 refine SW.intro rfl Tryz.func189 rfl ?_
 refine O0 7 J (zO [0,1,3,7,0,16,48,112,0,511,1023,2047,2047,0,12287,32767] [([0,1,2,3,4,5,6,7,8,13],[3,7],some 9),([10,11,12],[],some 14),([15],[],none)] (by kernel_rfl) ?_)
 refine z4 (ZK 2 J (zj J Y (ye J Y J (ZK 2 J (zj J Y (ye J Y J (ZK 1 J (Vv rfl rfl rfl fun i14=> ?_))))))))
 refine z5 ⟨(y6 J Y J J J (y6 J Y J J J z6)),?_⟩
 refine Z1 (my _ _ X.xs X.pcid page) J Y (zF (z4 (ZK 3 J (uT (fun h31=> ?_) (fun h31=> ?_)))))
 ·refine z5 ⟨z6,?_⟩
  refine sN J Y Y J J J (zF (z4 (ZK 1 J (z5 ⟨z6,?_⟩))))
  refine OX 4 J (lN J Y Y J J (Z 2 J (Z0 (m3 _ ((X.xs.find? fun x=>x.of X.pcid page).getD dy) user write) J (zN (fun h37=> ?_) (fun h37=> ?_)))))
  ·refine Z 5 J (fa J Y (ld J Y J (Z 4 J (qO J J J J ?_))))
   have hh:X.hit user write page=true:=by { unfold yB.hit;rw [h31,h37];rfl }
   have e:X.frame M C user write page=((((X.find page).getD dy).frame,0),X,C):=if_pos hh
   rw [e]
   exact⟨_,⟨rfl,rfl⟩,Sub.mk2 (yi hX) Y⟩
  refine Z 9 J (fa J Y (ld J Y J (Z 1 J (yG (iU _ _ M X.root page) rfl (fun _=>rfl) ?_))))
  rintro _ _ ⟨pv48,rfl,rfl⟩
  refine yD (v:=pv48) fun apv cpv epv hpv _=> ?_
  subst hpv
  have hpl:=JC M X.root page
  refine Z 3 J (zd rfl rfl rfl fun i16=> ?_)
  refine sN J Y Y J J J (Z 5 J (fa J Y (ld J Y J (yo rfl (fun _ h=>y0 rfl rfl rfl rfl rfl h) ?_))))
  refine Z 3 J (zl (fun j T L=> ∃(q:Nat),(q≤(M.walkTo X.root page).1.pl.length)∧j=(M.walkTo X.root page).1.pl.length-q∧T.len=7∧Tm.get 0 T=some (vp a 0)∧Tm.get 2 T=some (vp c 0)∧Tm.get 3 T=some (.bool user)∧Tm.get 4 T=some (.bool write)∧Tm.get 5 T=some (vi page)∧Tm.get 13 T=some (vi (M.walkTo X.root page).2)∧Tm.get 16 T=some (vp i16 0)∧Tm.get 52 T=some ((.slice apv (M.walkTo X.root page).1.pl.length cpv epv))∧Tm.get 53 T=some (vi ((M.walkTo X.root page).1.pl.length:Nat))∧Tm.get 54 T=some (vi (q:Nat))∧Sub L (ent qI c (C.all_ X.cpu ((M.walkTo X.root page).1.pl.take q))::ent z8 i16 (iJ (.slice apv (M.walkTo X.root page).1.pl.length cpv epv) (M.walkTo X.root page).1)::ent (zP yK 1) (.slice apv (M.walkTo X.root page).1.pl.length cpv epv) (M.walkTo X.root page).1.pl::ent z8 a (tu X)::ent uz X.t X.xs::ent zQ m M::R)) ((M.walkTo X.root page).1.pl.length) ⟨0,by omega,by omega,rfl,rfl,rfl,rfl,rfl,rfl,rfl,rfl,rfl,rfl,rfl,(by rw [List.take_zero];exact(show Sub _ (ent qI c C::ent z8 i16 (iJ (.slice apv (M.walkTo X.root page).1.pl.length cpv epv) (M.walkTo X.root page).1)::ent (zP yK 1) (.slice apv (M.walkTo X.root page).1.pl.length cpv epv) (M.walkTo X.root page).1.pl::ent z8 a (tu X)::ent uz X.t X.xs::ent zQ m M::R)from Y))⟩ ?_)
  rintro j T L0 ⟨q,hq,rfl,hl,g0,g2,g3,g4,g5,g13,g16,g52,g53,g54,hsb⟩
  obtain⟨tg,rfl⟩:=A0 hl g0 g2 g3 g4 g5 g13 g16 g52 g53 g54
  clear hl g0 g2 g3 g4 g5 g13 g16 g52 g53 g54
  refine zu hsb ?_
  clear hsb L0
  refine O0 3 J (z0 (fun h55=> ?_) (fun h55=> ?_))
  ·refine Z 8 J ?_
   obtain⟨z,hz⟩: ∃z,(M.walkTo X.root page).1.pl[q]? =some z:=⟨(M.walkTo X.root page).1.pl[q]'(by omega),List.getElem?_eq_getElem (by omega)⟩
   refine yo rfl (fun _ h=>yM rfl rfl rfl (by omega) (by omega) h) ?_
   refine lE 0 J Y J hz J (Z 6 J (fa J Y (ld J Y J (Z 1 J (Z1 (uD _ _ (C.all_ X.cpu ((M.walkTo X.root page).1.pl.take q)) _ _) J Y (Z 2 J (ad J (Z 2 J ?_))))))))
   exact Or.inl ⟨rfl,_,by omega,q+1,by omega,rfl,rfl,rfl,rfl,rfl,rfl,rfl,rfl,rfl,rfl,rfl,rfl,(by rw [zw.all_more hz];exact Y)⟩
  refine Z 4 J (Or.inr ⟨nofun,?_⟩)
  refine OX 5 J (z0 (fun h67=> ?_) (fun h67=> ?_))
  ·refine Z 3 J (lN J Y Y J J (Z 2 J (Z0 (bT _ _ (M.walkTo X.root page).1 user write) J (Z 7 J (z0 (fun h73=> ?_) (fun h73=> ?_))))))
   ·refine Z 9 J (qO J J J J ?_)
    have hh: ¬X.hit user write page=true:=by { unfold yB.hit;rw [h31,h37];nofun }
    have hk:=(yB.frame_ok hX hM C user write page).1
    have hql:q=(M.walkTo X.root page).1.pl.length:=by omega
    subst hql
    rw [List.take_length]
    have hw:uS M X user write page=(M.walkTo X.root page).1.Right user write:=if_pos h67
    have e:X.frame M C user write page=((0,uS M X user write page),X,VH M C X page):=(if_neg hh).trans (if_pos (by rw [hw];exact h73))
    rw [e,hw]
    exact⟨_,⟨rfl,rfl⟩,Sub.mk2 (yi hX) Y⟩
   refine Z 4 J (zO [0,1,3,7,0,16,48,112,0,0,512,0,2048,0,8192,0,32768,131056,262143] [([0,1,2,3,4,5,6,7,8,9,10,11,12,13,14,15,16,17],[3,7,10,12,14,16],some 18),([],[],none)] (by kernel_rfl) ?_)
   refine z4 (ZK 2 J (zj J Y (ye J Y J (ZK 2 J (zj J Y (ye J Y J (ZK 1 J (zj J Y (ye J Y J (zj J Y (ye J Y J (zj J Y (ye J Y J (zj J Y (ye J Y J (p7 [_,_,_,_,_,_] J Y Y J (z5 ⟨(y6 J Y J J J (y6 J Y J J J (y6 J Y J J J (y6 J Y J J J (y6 J Y J J J (y6 J Y J J J z6)))))),?_⟩)))))))))))))))))
   refine Z1 (Jy _ _ X.xs (Uk M X page)) J Y (zF (z4 (z5 ⟨z6,?_⟩)))
   refine OX 2 J (fa J Y (ld J Y J (Z 4 J (qO J J J J ?_))))
   have hh: ¬X.hit user write page=true:=by { unfold yB.hit;rw [h31,h37];nofun }
   have hk:=(yB.frame_ok hX hM C user write page).1
   have hql:q=(M.walkTo X.root page).1.pl.length:=by omega
   subst hql
   rw [List.take_length]
   have hw:uS M X user write page=(M.walkTo X.root page).1.Right user write:=if_pos h67
   have e:X.frame M C user write page=(((((M.walkTo X.root page).1.fr:Nat):Int),(0:Int)),({ X with xs:=jN X.xs (Uk M X page) } :yB),VH M C X page):=(if_neg hh).trans (if_neg (by rw [hw];exact h73))
   rw [e]at hk ⊢
   exact⟨_,⟨rfl,rfl⟩,Sub.mk2 (yi hk) Y⟩
  refine Z 8 J (z0 (fun h73=> ?_) (fun h73=> ?_))
  ·refine Z 9 J (qO J J J J ?_)
   have hh: ¬X.hit user write page=true:=by { unfold yB.hit;rw [h31,h37];nofun }
   have hk:=(yB.frame_ok hX hM C user write page).1
   have hql:q=(M.walkTo X.root page).1.pl.length:=by omega
   subst hql
   rw [List.take_length]
   have hw:uS M X user write page=(M.walkTo X.root page).2:=if_neg h67
   have e:X.frame M C user write page=((0,uS M X user write page),X,VH M C X page):=(if_neg hh).trans (if_pos (by rw [hw];exact h73))
   rw [e,hw]
   exact⟨_,⟨rfl,rfl⟩,Sub.mk2 (yi hX) Y⟩
  refine Z 4 J (zO [0,1,3,7,0,16,48,112,0,0,512,0,2048,0,8192,0,32768,131056,262143] [([0,1,2,3,4,5,6,7,8,9,10,11,12,13,14,15,16,17],[3,7,10,12,14,16],some 18),([],[],none)] (by kernel_rfl) ?_)
  refine z4 (ZK 2 J (zj J Y (ye J Y J (ZK 2 J (zj J Y (ye J Y J (ZK 1 J (zj J Y (ye J Y J (zj J Y (ye J Y J (zj J Y (ye J Y J (zj J Y (ye J Y J (p7 [_,_,_,_,_,_] J Y Y J (z5 ⟨(y6 J Y J J J (y6 J Y J J J (y6 J Y J J J (y6 J Y J J J (y6 J Y J J J (y6 J Y J J J z6)))))),?_⟩)))))))))))))))))
  refine Z1 (Jy _ _ X.xs (Uk M X page)) J Y (zF (z4 (z5 ⟨z6,?_⟩)))
  exact OX 2 J (fa J Y (ld J Y J (Z 4 J (qO J J J J (absurd (Decidable.not_not.1 h73) h67)))))
 refine z5 ⟨z6,?_⟩
 refine sN J Y Y J J J (zF (z4 (ZK 1 J (z5 ⟨z6,?_⟩))))
 refine OX 17 J (fa J Y (ld J Y J (Z 1 J (yG (iU _ _ M X.root page) rfl (fun _=>rfl) ?_))))
 rintro _ _ ⟨pv48,rfl,rfl⟩
 refine yD (v:=pv48) fun apv cpv epv hpv _=> ?_
 subst hpv
 have hpl:=JC M X.root page
 refine Z 3 J (zd rfl rfl rfl fun i16=> ?_)
 refine sN J Y Y J J J (Z 5 J (fa J Y (ld J Y J (yo rfl (fun _ h=>y0 rfl rfl rfl rfl rfl h) ?_))))
 refine Z 3 J (zl (fun j T L=> ∃(q:Nat),(q≤(M.walkTo X.root page).1.pl.length)∧j=(M.walkTo X.root page).1.pl.length-q∧T.len=7∧Tm.get 0 T=some (vp a 0)∧Tm.get 2 T=some (vp c 0)∧Tm.get 3 T=some (.bool user)∧Tm.get 4 T=some (.bool write)∧Tm.get 5 T=some (vi page)∧Tm.get 13 T=some (vi (M.walkTo X.root page).2)∧Tm.get 16 T=some (vp i16 0)∧Tm.get 52 T=some ((.slice apv (M.walkTo X.root page).1.pl.length cpv epv))∧Tm.get 53 T=some (vi ((M.walkTo X.root page).1.pl.length:Nat))∧Tm.get 54 T=some (vi (q:Nat))∧Sub L (ent qI c (C.all_ X.cpu ((M.walkTo X.root page).1.pl.take q))::ent z8 i16 (iJ (.slice apv (M.walkTo X.root page).1.pl.length cpv epv) (M.walkTo X.root page).1)::ent (zP yK 1) (.slice apv (M.walkTo X.root page).1.pl.length cpv epv) (M.walkTo X.root page).1.pl::ent z8 a (tu X)::ent uz X.t X.xs::ent zQ m M::R)) ((M.walkTo X.root page).1.pl.length) ⟨0,by omega,by omega,rfl,rfl,rfl,rfl,rfl,rfl,rfl,rfl,rfl,rfl,rfl,(by rw [List.take_zero];exact(show Sub _ (ent qI c C::ent z8 i16 (iJ (.slice apv (M.walkTo X.root page).1.pl.length cpv epv) (M.walkTo X.root page).1)::ent (zP yK 1) (.slice apv (M.walkTo X.root page).1.pl.length cpv epv) (M.walkTo X.root page).1.pl::ent z8 a (tu X)::ent uz X.t X.xs::ent zQ m M::R)from Y))⟩ ?_)
 rintro j T L0 ⟨q,hq,rfl,hl,g0,g2,g3,g4,g5,g13,g16,g52,g53,g54,hsb⟩
 obtain⟨tg,rfl⟩:=A0 hl g0 g2 g3 g4 g5 g13 g16 g52 g53 g54
 clear hl g0 g2 g3 g4 g5 g13 g16 g52 g53 g54
 refine zu hsb ?_
 clear hsb L0
 refine O0 3 J (z0 (fun h55=> ?_) (fun h55=> ?_))
 ·refine Z 8 J ?_
  obtain⟨z,hz⟩: ∃z,(M.walkTo X.root page).1.pl[q]? =some z:=⟨(M.walkTo X.root page).1.pl[q]'(by omega),List.getElem?_eq_getElem (by omega)⟩
  refine yo rfl (fun _ h=>yM rfl rfl rfl (by omega) (by omega) h) ?_
  refine lE 0 J Y J hz J (Z 6 J (fa J Y (ld J Y J (Z 1 J (Z1 (uD _ _ (C.all_ X.cpu ((M.walkTo X.root page).1.pl.take q)) _ _) J Y (Z 2 J (ad J (Z 2 J ?_))))))))
  exact Or.inl ⟨rfl,_,by omega,q+1,by omega,rfl,rfl,rfl,rfl,rfl,rfl,rfl,rfl,rfl,rfl,rfl,rfl,(by rw [zw.all_more hz];exact Y)⟩
 refine Z 4 J (Or.inr ⟨nofun,?_⟩)
 refine OX 5 J (z0 (fun h67=> ?_) (fun h67=> ?_))
 ·refine Z 3 J (lN J Y Y J J (Z 2 J (Z0 (bT _ _ (M.walkTo X.root page).1 user write) J (Z 7 J (z0 (fun h73=> ?_) (fun h73=> ?_))))))
  ·refine Z 9 J (qO J J J J ?_)
   have hh: ¬X.hit user write page=true:=by { unfold yB.hit;rw [h31];nofun }
   have hk:=(yB.frame_ok hX hM C user write page).1
   have hql:q=(M.walkTo X.root page).1.pl.length:=by omega
   subst hql
   rw [List.take_length]
   have hw:uS M X user write page=(M.walkTo X.root page).1.Right user write:=if_pos h67
   have e:X.frame M C user write page=((0,uS M X user write page),X,VH M C X page):=(if_neg hh).trans (if_pos (by rw [hw];exact h73))
   rw [e,hw]
   exact⟨_,⟨rfl,rfl⟩,Sub.mk2 (yi hX) Y⟩
  refine Z 4 J (zO [0,1,3,7,0,16,48,112,0,0,512,0,2048,0,8192,0,32768,131056,262143] [([0,1,2,3,4,5,6,7,8,9,10,11,12,13,14,15,16,17],[3,7,10,12,14,16],some 18),([],[],none)] (by kernel_rfl) ?_)
  refine z4 (ZK 2 J (zj J Y (ye J Y J (ZK 2 J (zj J Y (ye J Y J (ZK 1 J (zj J Y (ye J Y J (zj J Y (ye J Y J (zj J Y (ye J Y J (zj J Y (ye J Y J (p7 [_,_,_,_,_,_] J Y Y J (z5 ⟨(y6 J Y J J J (y6 J Y J J J (y6 J Y J J J (y6 J Y J J J (y6 J Y J J J (y6 J Y J J J z6)))))),?_⟩)))))))))))))))))
  refine Z1 (Jy _ _ X.xs (Uk M X page)) J Y (zF (z4 (z5 ⟨z6,?_⟩)))
  refine OX 2 J (fa J Y (ld J Y J (Z 4 J (qO J J J J ?_))))
  have hh: ¬X.hit user write page=true:=by { unfold yB.hit;rw [h31];nofun }
  have hk:=(yB.frame_ok hX hM C user write page).1
  have hql:q=(M.walkTo X.root page).1.pl.length:=by omega
  subst hql
  rw [List.take_length]
  have hw:uS M X user write page=(M.walkTo X.root page).1.Right user write:=if_pos h67
  have e:X.frame M C user write page=(((((M.walkTo X.root page).1.fr:Nat):Int),(0:Int)),({ X with xs:=jN X.xs (Uk M X page) } :yB),VH M C X page):=(if_neg hh).trans (if_neg (by rw [hw];exact h73))
  rw [e]at hk ⊢
  exact⟨_,⟨rfl,rfl⟩,Sub.mk2 (yi hk) Y⟩
 refine Z 8 J (z0 (fun h73=> ?_) (fun h73=> ?_))
 ·refine Z 9 J (qO J J J J ?_)
  have hh: ¬X.hit user write page=true:=by { unfold yB.hit;rw [h31];nofun }
  have hk:=(yB.frame_ok hX hM C user write page).1
  have hql:q=(M.walkTo X.root page).1.pl.length:=by omega
  subst hql
  rw [List.take_length]
  have hw:uS M X user write page=(M.walkTo X.root page).2:=if_neg h67
  have e:X.frame M C user write page=((0,uS M X user write page),X,VH M C X page):=(if_neg hh).trans (if_pos (by rw [hw];exact h73))
  rw [e,hw]
  exact⟨_,⟨rfl,rfl⟩,Sub.mk2 (yi hX) Y⟩
 refine Z 4 J (zO [0,1,3,7,0,16,48,112,0,0,512,0,2048,0,8192,0,32768,131056,262143] [([0,1,2,3,4,5,6,7,8,9,10,11,12,13,14,15,16,17],[3,7,10,12,14,16],some 18),([],[],none)] (by kernel_rfl) ?_)
 refine z4 (ZK 2 J (zj J Y (ye J Y J (ZK 2 J (zj J Y (ye J Y J (ZK 1 J (zj J Y (ye J Y J (zj J Y (ye J Y J (zj J Y (ye J Y J (zj J Y (ye J Y J (p7 [_,_,_,_,_,_] J Y Y J (z5 ⟨(y6 J Y J J J (y6 J Y J J J (y6 J Y J J J (y6 J Y J J J (y6 J Y J J J (y6 J Y J J J z6)))))),?_⟩)))))))))))))))))
 refine Z1 (Jy _ _ X.xs (Uk M X page)) J Y (zF (z4 (z5 ⟨z6,?_⟩)))
 exact OX 2 J (fa J Y (ld J Y J (Z 4 J (qO J J J J (absurd (Decidable.not_not.1 h73) h67)))))
theorem xF (R:List SP) (a m c:Nat) (X:yB) (M:zA) (C:zw) (user write:Bool) (at_:Nat):zy 136 [vp a 0,vp m 0,vp c 0,.bool user,.bool write,vu at_] (ent vW a X::ent zQ m M::ent qI c C::R) fun v L=>v= .tuple [vi (X.trans M C user write at_).1.1,vi (X.trans M C user write at_).1.2]∧L=ent vW a (X.trans M C user write at_).2.1::ent zQ m M::ent qI c (X.trans M C user write at_).2.2::R:=by
 refine yQ (YV a X) fun hX=> ?_
 refine yQ (qD m M) fun hM=> ?_
 have hf:=yB.frame_ok hX hM C user write ((at_/8:Nat):Int)
 refine SW.intro rfl Tryz.func136 rfl ?_
 refine O0 10 J (z0 (fun h16=> ?_) (fun h16=> ?_))
 ·refine Z 8 J (qO J J J J ?_)
  have e:(X.trans M C user write at_)=((0,3),X,C):=if_pos (by omega)
  rw [e]
  exact fq
 refine Z 11 J (zf rfl (fun _=>zC rfl rfl rfl (pW (y:=8) (by omega) (by decide))) ?_)
 refine zf rfl (fun _=>qT rfl rfl (wi (by omega))) ?_
 refine yn (w:=vi ((at_/8:Nat):Int)) (by rw [Int.natCast_ediv];rfl) ?_
 refine Z3 (lI _ _ _ _ X M C user write ((at_/8:Nat):Int)) J Y Y Y (Z 11 J (z0 (fun h30=> ?_) (fun h30=> ?_)))
 ·refine Z 9 J (qO J J J J ?_)
  have e:(X.trans M C user write at_)=((0,(X.frame M C user write ((at_/8:Nat):Int)).1.2),(X.frame M C user write ((at_/8:Nat):Int)).2):=(if_neg (by omega)).trans (if_pos h30)
  rw [e]
  exact fq
 refine Z 6 J (ml J (Z 1 J (zf rfl (fun _=>zC rfl rfl rfl (Uj (y:=8) (by omega) (by decide))) ?_)))
 refine zf rfl (fun _=>qT rfl rfl (wi (by omega))) ?_
 refine ad J (Z 4 J (qO J J J J ?_))
 have e:(X.trans M C user write at_)=((8*(X.frame M C user write ((at_/8:Nat):Int)).1.1+((at_%8:Nat):Int),0),(X.frame M C user write ((at_/8:Nat):Int)).2):=(if_neg (by omega)).trans (if_neg h30)
 rw [e]
 exact fq
end Go.Proofs.YtlhcpplnlgehbaaGreat
