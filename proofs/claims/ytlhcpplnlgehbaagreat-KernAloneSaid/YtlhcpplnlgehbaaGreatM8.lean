/- Part of the proof: KKernS, KKern, KKern2, KKernP, KKernQ, KKern3, KKernR, KKern4, KTlb2. Names and blanks are cut short to keep within the size of a claim. -/
import Derived.Test.YtlhcpplnlgehbaaGreatM4
import Derived.Test.YtlhcpplnlgehbaaGreatM6
import Derived.Test.YtlhcpplnlgehbaaGreatM7
set_option linter.unusedVariables false
set_option linter.unusedSimpArgs false
set_option maxRecDepth 100000
namespace Go.Proofs.YtlhcpplnlgehbaaGreat
open Go Go.RowKit Go.Px
structure fQ where
 root:Int
 pcid:Int
 xs:List vB
structure yg where
 w:Nat→Nat
 pc:Int
 code:List yl
 A:Nat→Int
 fm:List (Int×Int)
 sm:List (Int×Int)
 S:zm
structure KS where
 fr:Int
 cpus:Int
 kpti:Bool
 inv:Bool
 M:zA
 Rf:List (Int×Int)
 Ws:jt
 H:zw
 N:zW
 Q:zV
 ww:List Nat
 U:Nat→fQ
 pr:Nat→Option yg
structure KL where
 m:Nat
 p:Nat
 sw:Nat
 h:Nat
 n:Nat
 pp:Nat
 q:Nat
 c:Nat→Nat
 u:Nat→Nat
 t:Nat→Nat
structure KY where
 cv:AVal
 a:Nat→Nat
 v:Nat→Nat
 cd:Nat→AVal
 ch:Nat
abbrev KS.W (S:KS) (L:KL):Wd:=⟨S.fr,S.cpus,S.kpti,S.inv,L.m,L.p,L.sw,3,13⟩
abbrev KS.cpu (S:KS) (L:KL) (c:Nat):u4:=⟨S.fr,S.cpus,S.kpti,S.inv,(c:Nat),L.u c,⟨(c:Nat),(S.U c).root,(S.U c).pcid,L.t c,(S.U c).xs⟩⟩
abbrev yg.vm (x:yg) (W:Wd) (p:Nat):jX:=⟨W,(p:Nat),x.A,x.fm,x.sm,x.S⟩
abbrev KS.vs (S:KS) (x:yg):z7:=⟨x.A,x.fm,x.sm,x.S,⟨S.M,S.Rf⟩,S.Ws⟩
abbrev KS.setU (S:KS) (c:Nat) (u:fQ):KS:= { S with U:=fun d=>if d=c then u else S.U d }
abbrev KS.setP (S:KS) (p:Nat) (x:Option yg):KS:= { S with pr:=fun q=>if q=p then x else S.pr q }
abbrev yg.of (x:yg) (v:z7):yg:= { x with A:=v.A,fm:=v.fm,sm:=v.sm,S:=v.S }
abbrev KS.putV (S:KS) (p:Nat) (x:yg) (v:z7):KS:= { S with M:=v.s.M,Rf:=v.s.R,Ws:=v.w,pr:=fun q=>if q=p then some (x.of v)else S.pr q }
def KS.kern (S:KS) (pair:Int):Int:=if S.kpti then 2*pair+1 else 2*pair
abbrev KS.enter (S:KS) (c p:Nat) (x:yg):KS:=S.setU c { S.U c with root:=(x.S.kernel:Nat),pcid:=S.kern (S.N.pair p) }
abbrev KS.halt (S:KS) (c:Nat):KS:=S.setU c { S.U c with root:=0,pcid:=0 }
abbrev KS.leave1 (S:KS) (c p:Nat) (x:yg):KS:=
 { S with N:=((S.N.ask p).2.2.take c (S.N.ask p).1).2,U:=fun d=>if d=c then⟨(x.S.user:Nat),2*(S.N.ask p).1,if((S.N.ask p).2.2.take c (S.N.ask p).1).1 then dropP (dropP (S.U c).xs (2*(S.N.ask p).1)) (2*(S.N.ask p).1+1)else(S.U c).xs⟩else S.U d }
def KS.told (S:KS) (p:Nat):Bool:=(S.N.ask p).2.1
abbrev KS.bareTo (S:KS) (j:Nat):KS:= { S with U:=fun d=>if d<j then { S.U d with xs:= [] } else S.U d }
abbrev KS.bare (S:KS):KS:=S.bareTo S.Q.n
def KS.leaveP (S:KS) (c:Nat):KS:=match S.pr (S.Q.cpu c).toNat with
 |some x=>S.leave1 c (S.Q.cpu c).toNat x
 |none=>S
def KS.others (S:KS) (c:Nat) (i:Nat):KS:=if i≠c∧0≤S.Q.cpu i then S.leaveP i else S
def KS.leave (S:KS) (c:Nat):KS:=
 if S.Q.cpu c<0 then S.halt c else
 if S.told (S.Q.cpu c).toNat then(List.range S.Q.n).foldl (fun S i=>S.others c i) (S.leaveP c).bare else S.leaveP c
abbrev KS.flush (S:KS) (p:Nat):KS:= { S with N:=S.N.mustAll (S.N.pair p) }
def KS.done (S:KS) (p:Nat) (bad:Int):Nat×KS:=(YK bad.toNat,if bad=0 then S.flush p else S)
def KS.freeFrom (S:KS) (i:Nat):Nat→Option Nat
 |0=>none
 |k+1=>if(S.pr i).isSome then S.freeFrom (i+1) k else some i
def KS.free (S:KS):Option Nat:=S.freeFrom 0 4
abbrev KS.W0 (S:KS):Wd:=⟨S.fr,S.cpus,S.kpti,S.inv,0,0,0,3,13⟩
abbrev yg.done (x:yg) (i:yl) (v:Nat):yg:= { x with w:=qF x.w i v,pc:=qb x.code (x.pc+1) }
abbrev yg.fault (x:yg) (z:Int):yg:= { x with w:=Yt x.w z,pc:=qb x.code (x.pc+1) }
def KS.fork (S:KS) (p:Nat) (x:yg) (i:yl):Nat×KS:=match S.free with
 |none=>(YK 4,S)
 |some q=>match z7.fork (S.vs x) S.W0 (q:Nat)with
  |(bad,none,v)=>(YK bad.toNat,S.putV p x v)
  |(_,some (cf,cS),v)=>
   let S1:=(S.putV p x v).setP q (some ⟨qF x.w i 0,qb x.code (x.pc+1),x.code,x.A,cf,[],cS⟩)
   (q,({ S1 with Q:=S1.Q.wake q } :KS).flush p)
def KS.answer (S:KS) (p:Nat) (x:yg) (i:yl):Nat×KS:=
 if i.n=1 then(S.putV p x (z7.map (S.vs x) S.inv p (x.w 0) (x.w 1) (x.w 2)).2).done p (z7.map (S.vs x) S.inv p (x.w 0) (x.w 1) (x.w 2)).1 else
 if i.n=2 then(S.putV p x (z7.unmap (S.vs x) S.inv (x.w 0) (x.w 1)).2).done p (z7.unmap (S.vs x) S.inv (x.w 0) (x.w 1)).1 else
 if i.n=3 then(S.putV p x (z7.protect (S.vs x) S.inv (x.w 0) (x.w 1) (x.w 2)).2).done p (z7.protect (S.vs x) S.inv (x.w 0) (x.w 1) (x.w 2)).1 else
 if i.n=4 then(S.putV p x (z7.out (S.vs x) S.inv (x.w 0)).2).done p (z7.out (S.vs x) S.inv (x.w 0)).1 else
 if i.n=5 then S.fork p x i else
 if i.n=8 then(if S.ww.length<4 then(0,{ S with ww:=S.ww++ [x.w 0] })else(YK 4,S))else
 if i.n=9 then(match S.ww with
  | []=>(YK 4,S)
  |a::l=>(a,{ S with ww:=l }))else(0,S)
abbrev KS.exit (S:KS) (p:Nat) (x:yg):KS:=
 { S with M:=(z7.drop (S.vs x)).s.M,Rf:=(z7.drop (S.vs x)).s.R,Ws:=(z7.drop (S.vs x)).w,N:=S.N.drop p,Q:=S.Q.fin p,pr:=fun q=>if q=p then none else S.pr q }
abbrev KS.upP (S:KS) (p:Nat) (f:yg→yg):KS:= { S with pr:=fun q=>if q=p then(S.pr q).map f else S.pr q }
def KS.call1 (S:KS) (p:Nat) (x:yg) (i:yl):KS:=if i.n=6 then S.exit p x else(S.answer p x i).2.upP p fun y=>y.done i (S.answer p x i).1
abbrev KS.pick (S:KS) (c:Nat):KS:= { S with Q:=(S.Q.pick c).2 }
def KS.call (S:KS) (c p:Nat) (x:yg) (i:yl):KS:=
 (if i.n=6∨i.n=7 then((S.enter c p x).call1 p x i).pick c else(S.enter c p x).call1 p x i).leave c
def KS.faulted (S:KS) (c p:Nat) (x:yg) (z:Int) (at_:Nat) (write:Bool):KS:=
 if z=3∨z=4 then S.setP p (some (x.fault z))else
 (if(z7.fix (S.vs x) S.inv p ((at_/8:Nat):Int) write).1≠0 then((S.enter c p x).putV p x (z7.fix (S.vs x) S.inv p ((at_/8:Nat):Int) write).2).upP p fun y=>y.fault (z7.fix (S.vs x) S.inv p ((at_/8:Nat):Int) write).1
  else((S.enter c p x).putV p x (z7.fix (S.vs x) S.inv p ((at_/8:Nat):Int) write).2).flush p).leave c
abbrev KS.mm (S:KS) (c:Nat):yB:=⟨(c:Nat),(S.U c).root,(S.U c).pcid,0,(S.U c).xs⟩
abbrev KS.setX (S:KS) (c:Nat) (xs:List vB) (H:zw):KS:= { S with H:=H,U:=fun d=>if d=c then { S.U c with xs:=xs } else S.U d }
def KS.memory (S:KS) (c p:Nat) (x:yg) (i:yl):KS:=
 let at_:=vA x.w i
 let r:=(S.mm c).trans S.M S.H true (decide (i.op=4)) at_
 let S1:=S.setX c r.2.1.xs r.2.2
 if r.1.2≠0 then S1.faulted c p x r.1.2 at_ (decide (i.op=4))else
 if i.op=3 then({ S1 with H:=(S1.H.touch c r.1.1).2 } :KS).setP p (some (x.done i (S.M.rd r.1.1)))else
 if i.op=4 then({ S1 with H:=(S1.H.touch c r.1.1).2,M:=S.M.write r.1.1 (x.w i.a.toNat) } :KS).setP p (some (x.done i 0))else
 ({ S1 with H:=(S1.H.clear r.1.1).2 } :KS).setP p (some (x.done i 0))
def KS.instr (S:KS) (c p:Nat) (x:yg) (i:yl):KS:=
 if i.op=7 then S.call c p x i else
 if i.op=3∨i.op=4∨i.op=5 then S.memory c p x i else
 S.setP p (some { x with w:=((qn x.w x.code x.pc).getD (x.w,x.pc)).1,pc:=((qn x.w x.code x.pc).getD (x.w,x.pc)).2 })
def KS.runP (S:KS) (c:Nat):Bool×KS:=match S.pr (S.Q.cpu c).toNat with
 |none=>(false,S)
 |some x=>match qh x.code x.pc with
  |none=>(false,S)
  |some i=>(true,S.instr c (S.Q.cpu c).toNat x i)
def KS.run (S:KS) (c:Nat):Bool×KS:=
 if S.Q.cpu c<0 then(if(S.Q.pick c).1<0 then(false,S.pick c)else((S.pick c).leave c).runP c)else S.runP c
def KS.enterP (S:KS) (c:Nat) (z:Int):KS:=match S.pr z.toNat with
 |some x=>S.enter c z.toNat x
 |none=>S
def KS.tick (S:KS) (c:Nat):KS:=(if 0≤S.Q.cpu c then(S.pick c).enterP c (S.Q.cpu c)else S.pick c).leave c
def KS.warm1 (S:KS) (c:Nat) (frame word:Int):Bool×KS:=
 if(0≤frame∧frame<S.M.n)∧0≤word∧word<8 then
  (let r:=(S.mm c).trans S.M S.H false false (8*(256+frame)+word).toNat
   if r.1.2≠0 then(false,S.setX c r.2.1.xs r.2.2)else(true,S.setX c r.2.1.xs (r.2.2.touch c r.1.1).2))else(false,S)
def KS.warm (S:KS) (c:Nat) (frame word:Int):Bool×KS:=
 if S.Q.cpu c<0 then(false,S)else(((S.enterP c (S.Q.cpu c)).warm1 c frame word).1,((S.enterP c (S.Q.cpu c)).warm1 c frame word).2.leave c)
structure wN where
 d:Int
 cpu:Int
 a:Int
 b:Int
 c:Int
def KS.forget (S:KS) (c:Nat) (z:Int):Bool×KS:=if 0≤z∧z<(S.U c).xs.length then(true,S.setU c { S.U c with xs:=(S.U c).xs.eraseIdx z.toNat })else(false,S)
def KS.stepAt (S:KS) (c:Nat) (x:wN):Bool×KS:=
 if x.d=1 then S.run c else
 if x.d=2 then(true,S.tick c)else
 if x.d=3 then((S.H.evict c x.a).1,{ S with H:=(S.H.evict c x.a).2 })else
 if x.d=4 then S.forget c x.a else
 if x.d=5 then S.warm c x.a x.b else
 if x.d=6 then(if S.Q.cpu c<0∨x.a<0∨x.b<0 then(false,S)else(true,{ S with H:=((S.mm c).chain S.M S.H c x.a.toNat x.b.toNat x.c).2 }))else(false,S)
def KS.step (S:KS) (x:wN):Bool×KS:=if 0≤x.cpu∧x.cpu<S.Q.n then S.stepAt x.cpu.toNat x else(false,S)
theorem q6 {α:Type} {en:α→List AVal} {es:Nat} (v:AVal) (xs:List α): ∀h,zP en es v xs h→VQ v=true:=by
 intro h h4
 obtain⟨a,c,e,rfl⟩:=gp h4
 cases a with
 |some a=>rfl
 |none=>
  obtain⟨g1,g2,g3⟩:=h4
  generalize xs.flatMap en=cs at g1
  generalize xs.length=n at g1
  cases g1 with
  |nil=>rfl
theorem uK {v:AVal} (h:VQ v=true):lx v=true:=by
 cases v<;>first|exact h|cases h
def KS.pcell (S:KS) (y:KY) (j:Nat):AVal:=match S.pr j with
 |none=> .ptr none
 |some _=>vp (y.a j) 0
def kF (L:KL) (S:KS) (y:KY):Nat→AVal
 |0=>vi S.fr
 |1=>vi S.cpus
 |2=> .bool S.kpti
 |3=> .bool S.inv
 |4=>vp L.m 0
 |5=>vp L.p 0
 |6=>vp L.sw 0
 |7=>vi 3
 |8=>vi 13
 |9=>S.pcell y 0
 |10=>S.pcell y 1
 |11=>S.pcell y 2
 |12=>S.pcell y 3
 |13=>y.cv
 |14=>vp L.h 0
 |15=>vp L.n 0
 |16=>vp L.pp 0
 |_=>vp L.q 0
abbrev Zo (x:Nat×u4):SP:=ent vv x.1 x.2
def ve (x:Nat×Nat×AVal×Option (yg×jX)):SP:=match x.2.2.2 with
 |none=>yd []
 |some (s,X)=>yd [ent z8 x.1 (jC s.w x.2.2.1 s.pc++ [vp x.2.1 0]),ent (zP qN 4) x.2.2.1 s.code,ent Zs x.2.1 X]
abbrev KS.prs (S:KS) (L:KL) (y:KY) (i:Nat):Nat×Nat×AVal×Option (yg×jX):=(y.a i,y.v i,y.cd i,(S.pr i).map fun x=>(x,x.vm (S.W L) i))
abbrev yE (k:Nat) (L:KL) (S:KS) (y:KY) (R:List SP):List SP:=
 ent zI k (18,kF L S y)::ent (zP uJ 1) y.cv ((List.range S.Q.n).map L.c)::ent zQ L.m S.M::ent zX L.p ⟨L.m,S.Rf⟩::ent y5 L.sw S.Ws::ent qI L.h S.H::ent qm L.n S.N::ent z8 L.pp [.chan (some y.ch)]::ent yh y.ch (4,S.ww.map vu)::
 ent wO L.q S.Q::ent (zG Zo) k (List.range S.Q.n,fun i=>(L.c i,S.cpu L i))::ent (zG ve) k (List.range 4,S.prs L y)::R
def zp (k:Nat) (x:KL×KS):SP:=fun h=> ∃y:KY,True∧yd (yE k x.1 x.2 y []) h
theorem zr (k:Nat) (L:KL) (S:KS): ∀h,zp k (L,S) h→ ∃y:KY,True∧yd (yE k L S y []) h:=fun _ h=>h
theorem yT {k:Nat} {L:KL} {S:KS} {y:KY} {R:List SP} :Sub (yE k L S y R) (ent zp k (L,S)::R):=⟨fun h s=>by
 have s2:yd (yE k L S y []++R) h:=s
 obtain⟨a,b,h1,h2,h3,h4,h5⟩:=qL s2
 exact⟨a,b,h1,h2,h3,⟨y,trivial,h4⟩,h5⟩⟩
abbrev Zq (a v:Nat) (cd:AVal) (w:Nat→Nat) (pc:Int) (code:List yl) (X:jX) (R:List SP):List SP:=ent z8 a (jC w cd pc++ [vp v 0])::ent (zP qN 4) cd code::ent Zs v X::R
theorem xL {k p:Nat} {L:KL} {S:KS} {y:KY} {x:yg} {R:List SP} (hp:p<4) (hx:S.pr p=some x):
 Sub (ent (zG ve) k (List.range 4,S.prs L y)::R) (Zq (y.a p) (y.v p) (y.cd p) x.w x.pc x.code (x.vm (S.W L) p) (ent (zG ve) k ((List.range 4).erase p,S.prs L y)::R)):=⟨fun h s=>by
 have s1:=(star_pick (K:=ve) (b:=k) (f:=S.prs L y) (R:=R) (qc hp)).h h s
 have e:ve (S.prs L y p)=yd [ent z8 (y.a p) (jC x.w (y.cd p) x.pc++ [vp (y.v p) 0]),ent (zP qN 4) (y.cd p) x.code,ent Zs (y.v p) (x.vm (S.W L) p)]:=by
  unfold ve KS.prs
  simp only [hx,Option.map_some]
 rw [e]at s1
 exact ZA s1⟩
theorem Ze {k p:Nat} {f g:Nat→Nat×Nat×AVal×Option (yg×jX)} {a v:Nat} {cd:AVal} {x:yg} {X:jX} {R:List SP} (hp:p<4) (hg:g p=(a,v,cd,some (x,X))) (ho: ∀j,j≠p→g j=f j):
 Sub (Zq a v cd x.w x.pc x.code X (ent (zG ve) k ((List.range 4).erase p,f)::R)) (ent (zG ve) k (List.range 4,g)::R):=⟨fun h s=>by
 refine(star_put (K:=ve) (b:=k) (f:=f) (g:=g) (R:=R) (qc hp) List.nodup_range fun j _ hj=>ho j hj).h h ?_
 have e:ve (g p)=yd [ent z8 a (jC x.w cd x.pc++ [vp v 0]),ent (zP qN 4) cd x.code,ent Zs v X]:=by
  rw [hg];rfl
 rw [e]
 exact qL s⟩
theorem lC {k p:Nat} {f g:Nat→Nat×Nat×AVal×Option (yg×jX)} {R:List SP} (hp:p<4) (hg:(g p).2.2.2=none) (ho: ∀j,j≠p→g j=f j):
 Sub (ent (zG ve) k ((List.range 4).erase p,f)::R) (ent (zG ve) k (List.range 4,g)::R):=⟨fun h s=>by
 refine(star_put (K:=ve) (b:=k) (f:=f) (g:=g) (R:=R) (qc hp) List.nodup_range fun j _ hj=>ho j hj).h h ?_
 have e:ve (g p)=yd []:=by
  unfold ve;rw [hg]
 rw [e]
 exact qL s⟩
theorem bO {k p:Nat} {f:Nat→Nat×Nat×AVal×Option (yg×jX)} {R:List SP} (hp:p<4) (hg:(f p).2.2.2=none):
 Sub (ent (zG ve) k (List.range 4,f)::R) (ent (zG ve) k ((List.range 4).erase p,f)::R):=⟨fun h s=>by
 have s1:=(star_pick (K:=ve) (b:=k) (f:=f) (R:=R) (qc hp)).h h s
 have e:ve (f p)=yd []:=by
  unfold ve;rw [hg]
 rw [e]at s1
 exact ZA s1⟩
theorem bS {k c n:Nat} {F:Nat→Nat} {G:Nat→u4} {R:List SP} (hc:c<n):Sub (ent (zG Zo) k (List.range n,fun i=>(F i,G i))::R) (ent vv (F c) (G c)::ent (zG Zo) k ((List.range n).erase c,fun i=>(F i,G i))::R):=
 star_pick (K:=Zo) (b:=k) (f:=fun i=>(F i,G i)) (R:=R) (qc hc)
theorem Vc {k c n:Nat} {F:Nat→Nat} {G G':Nat→u4} {u:u4} {R:List SP} (hc:c<n) (hu:G' c=u) (ho: ∀j,j≠c→G' j=G j):
 Sub (ent vv (F c) u::ent (zG Zo) k ((List.range n).erase c,fun i=>(F i,G i))::R) (ent (zG Zo) k (List.range n,fun i=>(F i,G' i))::R):=by
 subst hu
 exact star_put (K:=Zo) (b:=k) (f:=fun i=>(F i,G i)) (g:=fun i=>(F i,G' i)) (R:=R) (qc hc) List.nodup_range fun j _ hj=>by rw [ho j hj]
theorem yy {L:KL} {S:KS} {y:KY} {p:Nat} {x:yg} (hp:p<4) (hx:S.pr p=some x):kF L S y (p+9)=vp (y.a p) 0:=by
 rcases(by omega:p=0∨p=1∨p=2∨p=3)with rfl|rfl|rfl|rfl<;>(show S.pcell y _=_;unfold KS.pcell;rw [hx])
theorem wt {L:KL} {S:KS} {y:KY} :kF L S y 13=y.cv:=rfl
theorem xD {L:KL} {S:KS} {y:KY} :kF L S y 4=vp L.m 0:=rfl
theorem VS {L:KL} {S:KS} {y:KY} :kF L S y 14=vp L.h 0:=rfl
theorem QQ {L:KL} {S:KS} {y:KY} :kF L S y 15=vp L.n 0:=rfl
theorem l8 {L:KL} {S:KS} {y:KY} :kF L S y 16=vp L.pp 0:=rfl
theorem Q7 {L:KL} {S:KS} {y:KY} :kF L S y 17=vp L.q 0:=rfl
theorem C8 {L:KL} {S:KS} {y:KY} :zY (kF L S y) 0 9=Uc (S.W L):=rfl
theorem pJ {L:KL} {S S':KS} {y y':KY} {p:Nat} (hp:p<4) {v:AVal} (hv:S'.pcell y' p=v) (ho: ∀j,j≠p→S'.pcell y' j=S.pcell y j) (h: ∀j,18≤j+0∨j<9∨13≤j→kF L S' y' j=kF L S y j): ∀j,vK (kF L S y) (p+9) v j=kF L S' y' j:=by
 intro j
 unfold vK
 by_cases e:j=p+9
 ·rw [if_pos e,e]
  rcases(by omega:p=0∨p=1∨p=2∨p=3)with rfl|rfl|rfl|rfl<;>exact hv.symm
 rw [if_neg e]
 by_cases hj:j<9∨13≤j
 ·exact(h j (.inr hj)).symm
 rcases(by omega:j=9∨j=10∨j=11∨j=12)with rfl|rfl|rfl|rfl
 ·exact(ho 0 (by omega)).symm
 ·exact(ho 1 (by omega)).symm
 ·exact(ho 2 (by omega)).symm
 exact(ho 3 (by omega)).symm
theorem kF_same {L:KL} {S S':KS} {y y':KY} (ho: ∀j,S'.pcell y' j=S.pcell y j) (h: ∀j,18≤j+0∨j<9∨13≤j→kF L S' y' j=kF L S y j):kF L S y=kF L S' y':=by
 funext j
 by_cases hj:j<9∨13≤j
 ·exact(h j (.inr hj)).symm
 rcases(by omega:j=9∨j=10∨j=11∨j=12)with rfl|rfl|rfl|rfl
 ·exact(ho 0).symm
 ·exact(ho 1).symm
 ·exact(ho 2).symm
 exact(ho 3).symm
section
variable {k c p n:Nat} {L:KL} {S S':KS} {y y':KY} {f:Nat→AVal} {cv:AVal} {u:u4} {a v:Nat} {cd:AVal} {x':yg} {X:jX} {R:List SP}
theorem wH (hc:c<n) (hp:p<4) (hn:S'.Q.n=n) (hU:S'.cpu L c=u) (hUo: ∀j,j≠c→S'.cpu L j=S.cpu L j) (hP:S'.prs L y' p=(a,v,cd,some (x',X))) (hPo: ∀j,j≠p→S'.prs L y' j=S.prs L y j) (hcv:y'.cv=cv) (hf:f=kF L S' y'):
 Sub (ent zI k (18,f)::ent (zP uJ 1) cv ((List.range n).map L.c)::ent zQ L.m S'.M::ent zX L.p ⟨L.m,S'.Rf⟩::ent y5 L.sw S'.Ws::ent qI L.h S'.H::ent qm L.n S'.N::ent z8 L.pp [.chan (some y'.ch)]::ent yh y'.ch (4,S'.ww.map vu)::ent wO L.q S'.Q::
  ent vv (L.c c) u::ent (zG Zo) k ((List.range n).erase c,fun i=>(L.c i,S.cpu L i))::Zq a v cd x'.w x'.pc x'.code X (ent (zG ve) k ((List.range 4).erase p,S.prs L y)::R)) (ent zp k (L,S')::R):=by
 subst hn hcv hf
 refine Sub.trans ?_ (yT (y:=y'))
 iterate 10 refine Sub.keep ?_
 refine(Vc (G':=fun i=>S'.cpu L i) hc hU hUo).trans ?_
 refine Sub.keep ?_
 exact Ze hp hP hPo
theorem qB (hc:c<n) (hn:S'.Q.n=n) (hU:S'.cpu L c=u) (hUo: ∀j,j≠c→S'.cpu L j=S.cpu L j) (hP:S'.prs L y'=S.prs L y) (hcv:y'.cv=cv) (hf:f=kF L S' y'):
 Sub (ent zI k (18,f)::ent (zP uJ 1) cv ((List.range n).map L.c)::ent zQ L.m S'.M::ent zX L.p ⟨L.m,S'.Rf⟩::ent y5 L.sw S'.Ws::ent qI L.h S'.H::ent qm L.n S'.N::ent z8 L.pp [.chan (some y'.ch)]::ent yh y'.ch (4,S'.ww.map vu)::ent wO L.q S'.Q::
  ent vv (L.c c) u::ent (zG Zo) k ((List.range n).erase c,fun i=>(L.c i,S.cpu L i))::ent (zG ve) k (List.range 4,S.prs L y)::R) (ent zp k (L,S')::R):=by
 subst hn hcv hf
 refine Sub.trans ?_ (yT (y:=y'))
 iterate 10 refine Sub.keep ?_
 refine(Vc (G':=fun i=>S'.cpu L i) hc hU hUo).trans ?_
 rw [hP]
 exact Sub.refl _
theorem kern_closeP (hp:p<4) (hn:S'.Q.n=n) (hU: ∀j,S'.cpu L j=S.cpu L j) (hP:S'.prs L y' p=(a,v,cd,some (x',X))) (hPo: ∀j,j≠p→S'.prs L y' j=S.prs L y j) (hcv:y'.cv=cv) (hf:f=kF L S' y'):
 Sub (ent zI k (18,f)::ent (zP uJ 1) cv ((List.range n).map L.c)::ent zQ L.m S'.M::ent zX L.p ⟨L.m,S'.Rf⟩::ent y5 L.sw S'.Ws::ent qI L.h S'.H::ent qm L.n S'.N::ent z8 L.pp [.chan (some y'.ch)]::ent yh y'.ch (4,S'.ww.map vu)::ent wO L.q S'.Q::
  ent (zG Zo) k (List.range n,fun i=>(L.c i,S.cpu L i))::Zq a v cd x'.w x'.pc x'.code X (ent (zG ve) k ((List.range 4).erase p,S.prs L y)::R)) (ent zp k (L,S')::R):=by
 subst hn hcv hf
 refine Sub.trans ?_ (yT (y:=y'))
 iterate 10 refine Sub.keep ?_
 have e:(fun i=>(L.c i,S.cpu L i))=fun i=>(L.c i,S'.cpu L i):=by funext j;rw [hU]
 rw [e]
 refine Sub.keep ?_
 exact Ze hp hP hPo
theorem vP (hn:S'.Q.n=n) (hU: ∀j,S'.cpu L j=S.cpu L j) (hP:S'.prs L y'=S.prs L y) (hcv:y'.cv=cv) (hf:f=kF L S' y'):
 Sub (ent zI k (18,f)::ent (zP uJ 1) cv ((List.range n).map L.c)::ent zQ L.m S'.M::ent zX L.p ⟨L.m,S'.Rf⟩::ent y5 L.sw S'.Ws::ent qI L.h S'.H::ent qm L.n S'.N::ent z8 L.pp [.chan (some y'.ch)]::ent yh y'.ch (4,S'.ww.map vu)::ent wO L.q S'.Q::
  ent (zG Zo) k (List.range n,fun i=>(L.c i,S.cpu L i))::ent (zG ve) k (List.range 4,S.prs L y)::R) (ent zp k (L,S')::R):=by
 subst hn hcv hf
 refine Sub.trans ?_ (yT (y:=y'))
 iterate 10 refine Sub.keep ?_
 have e:(fun i=>(L.c i,S.cpu L i))=fun i=>(L.c i,S'.cpu L i):=by funext j;rw [hU]
 rw [e,hP]
 exact Sub.refl _
end
abbrev WR (k:Nat) (L:KL) (S:KS) (y:KY) (c p:Nat) (x:yg) (R:List SP):List SP:=
 ent zI k (18,kF L S y)::ent (zP uJ 1) y.cv ((List.range S.Q.n).map L.c)::ent zQ L.m S.M::ent zX L.p ⟨L.m,S.Rf⟩::ent y5 L.sw S.Ws::ent qI L.h S.H::ent qm L.n S.N::ent z8 L.pp [.chan (some y.ch)]::ent yh y.ch (4,S.ww.map vu)::
 ent wO L.q S.Q::ent vv (L.c c) (S.cpu L c)::ent (zG Zo) k ((List.range S.Q.n).erase c,fun i=>(L.c i,S.cpu L i))::Zq (y.a p) (y.v p) (y.cd p) x.w x.pc x.code (x.vm (S.W L) p) (ent (zG ve) k ((List.range 4).erase p,S.prs L y)::R)
abbrev mi (k:Nat) (L:KL) (S:KS) (y:KY) (c:Nat) (R:List SP):List SP:=
 ent zI k (18,kF L S y)::ent (zP uJ 1) y.cv ((List.range S.Q.n).map L.c)::ent zQ L.m S.M::ent zX L.p ⟨L.m,S.Rf⟩::ent y5 L.sw S.Ws::ent qI L.h S.H::ent qm L.n S.N::ent z8 L.pp [.chan (some y.ch)]::ent yh y.ch (4,S.ww.map vu)::
 ent wO L.q S.Q::ent vv (L.c c) (S.cpu L c)::ent (zG Zo) k ((List.range S.Q.n).erase c,fun i=>(L.c i,S.cpu L i))::ent (zG ve) k (List.range 4,S.prs L y)::R
abbrev Zn (k:Nat) (L:KL) (S:KS) (y:KY) (p:Nat) (x:yg) (R:List SP):List SP:=
 ent zI k (18,kF L S y)::ent (zP uJ 1) y.cv ((List.range S.Q.n).map L.c)::ent zQ L.m S.M::ent zX L.p ⟨L.m,S.Rf⟩::ent y5 L.sw S.Ws::ent qI L.h S.H::ent qm L.n S.N::ent z8 L.pp [.chan (some y.ch)]::ent yh y.ch (4,S.ww.map vu)::
 ent wO L.q S.Q::ent (zG Zo) k (List.range S.Q.n,fun i=>(L.c i,S.cpu L i))::Zq (y.a p) (y.v p) (y.cd p) x.w x.pc x.code (x.vm (S.W L) p) (ent (zG ve) k ((List.range 4).erase p,S.prs L y)::R)
theorem UK {k c:Nat} {L:KL} {S:KS} {y:KY} {R:List SP} (hc:c<S.Q.n):Sub (yE k L S y R) (mi k L S y c R):=by
 iterate 10 refine Sub.keep ?_
 exact bS hc
theorem Zh {k p:Nat} {L:KL} {S:KS} {y:KY} {x:yg} {R:List SP} (hp:p<4) (hx:S.pr p=some x):Sub (yE k L S y R) (Zn k L S y p x R):=by
 iterate 11 refine Sub.keep ?_
 exact xL hp hx
theorem W5 {k c p:Nat} {L:KL} {S:KS} {y:KY} {x:yg} {R:List SP} (hc:c<S.Q.n) (hp:p<4) (hx:S.pr p=some x):Sub (yE k L S y R) (WR k L S y c p x R):=by
 refine(UK hc).trans ?_
 iterate 12 refine Sub.keep ?_
 exact xL hp hx
theorem lu {k p q:Nat} {f g:Nat→Nat×Nat×AVal×Option (yg×jX)} {a v a2 v2:Nat} {cd cd2:AVal} {x x2:yg} {X X2:jX} {R:List SP} (hp:p<4) (hq:q<4) (hpq:p≠q) (hf:(f q).2.2.2=none) (hg:g p=(a,v,cd,some (x,X))) (hg2:g q=(a2,v2,cd2,some (x2,X2))) (ho: ∀j,j≠p→j≠q→g j=f j):
 Sub (Zq a v cd x.w x.pc x.code X (Zq a2 v2 cd2 x2.w x2.pc x2.code X2 (ent (zG ve) k ((List.range 4).erase p,f)::R))) (ent (zG ve) k (List.range 4,g)::R):=by
 have e1:Sub (Zq a v cd x.w x.pc x.code X (Zq a2 v2 cd2 x2.w x2.pc x2.code X2 (ent (zG ve) k ((List.range 4).erase p,f)::R))) (Zq a v cd x.w x.pc x.code X (ent (zG ve) k ((List.range 4).erase p,f)::Zq a2 v2 cd2 x2.w x2.pc x2.code X2 R)):=Y
 refine e1.trans ((Ze (g:=fun j=>if j=p then g p else f j) hp (by simp only [if_true];exact hg) fun j hj=>if_neg hj).trans ?_)
 refine(bO (p:=q) hq (by rw [if_neg (Ne.symm hpq)];exact hf)).trans ?_
 have e2:Sub (ent (zG ve) k ((List.range 4).erase q,fun j=>if j=p then g p else f j)::Zq a2 v2 cd2 x2.w x2.pc x2.code X2 R) (Zq a2 v2 cd2 x2.w x2.pc x2.code X2 (ent (zG ve) k ((List.range 4).erase q,fun j=>if j=p then g p else f j)::R)):=Y
 refine e2.trans (Ze hq hg2 fun j hj=> ?_)
 by_cases h:j=p
 ·rw [if_pos h,h]
 rw [if_neg h];exact ho j h hj
theorem JV {k p q n:Nat} {L:KL} {S S':KS} {y y':KY} {f:Nat→AVal} {cv:AVal} {a v a2 v2:Nat} {cd cd2:AVal} {x' x2:yg} {X X2:jX} {R:List SP} (hp:p<4) (hq:q<4) (hpq:p≠q) (hn:S'.Q.n=n) (hU: ∀j,S'.cpu L j=S.cpu L j) (hSq:S.pr q=none) (hP:S'.prs L y' p=(a,v,cd,some (x',X))) (hP2:S'.prs L y' q=(a2,v2,cd2,some (x2,X2)))
 (hPo: ∀j,j≠p→j≠q→S'.prs L y' j=S.prs L y j) (hcv:y'.cv=cv) (hf:f=kF L S' y'):
 Sub (ent zI k (18,f)::ent (zP uJ 1) cv ((List.range n).map L.c)::ent zQ L.m S'.M::ent zX L.p ⟨L.m,S'.Rf⟩::ent y5 L.sw S'.Ws::ent qI L.h S'.H::ent qm L.n S'.N::ent z8 L.pp [.chan (some y'.ch)]::ent yh y'.ch (4,S'.ww.map vu)::ent wO L.q S'.Q::
  ent (zG Zo) k (List.range n,fun i=>(L.c i,S.cpu L i))::Zq a v cd x'.w x'.pc x'.code X (Zq a2 v2 cd2 x2.w x2.pc x2.code X2 (ent (zG ve) k ((List.range 4).erase p,S.prs L y)::R))) (ent zp k (L,S')::R):=by
 subst hn hcv hf
 refine Sub.trans ?_ (yT (y:=y'))
 iterate 10 refine Sub.keep ?_
 have e:(fun i=>(L.c i,S.cpu L i))=fun i=>(L.c i,S'.cpu L i):=by funext j;rw [hU]
 rw [e]
 refine Sub.keep ?_
 exact lu hp hq hpq (by simp only [KS.prs,hSq,Option.map_none]) hP hP2 hPo
theorem bh {k p n:Nat} {L:KL} {S S':KS} {y y':KY} {f:Nat→AVal} {cv:AVal} {R:List SP} (hp:p<4) (hn:S'.Q.n=n) (hU: ∀j,S'.cpu L j=S.cpu L j) (hP:S'.pr p=none) (hPo: ∀j,j≠p→S'.prs L y' j=S.prs L y j) (hcv:y'.cv=cv) (hf:f=kF L S' y'):
 Sub (ent zI k (18,f)::ent (zP uJ 1) cv ((List.range n).map L.c)::ent zQ L.m S'.M::ent zX L.p ⟨L.m,S'.Rf⟩::ent y5 L.sw S'.Ws::ent qI L.h S'.H::ent qm L.n S'.N::ent z8 L.pp [.chan (some y'.ch)]::ent yh y'.ch (4,S'.ww.map vu)::ent wO L.q S'.Q::
  ent (zG Zo) k (List.range n,fun i=>(L.c i,S.cpu L i))::ent (zG ve) k ((List.range 4).erase p,S.prs L y)::R) (ent zp k (L,S')::R):=by
 subst hn hcv hf
 refine Sub.trans ?_ (yT (y:=y'))
 iterate 10 refine Sub.keep ?_
 have e:(fun i=>(L.c i,S.cpu L i))=fun i=>(L.c i,S'.cpu L i):=by funext j;rw [hU]
 rw [e]
 refine Sub.keep ?_
 exact lC hp (by simp only [KS.prs,hP,Option.map_none]) hPo
theorem lH {k p:Nat} {L:KL} {S:KS} {y:KY} {x:yg} {R:List SP} (hp:p<4) (hx:S.pr p=some x):Sub (Zn k L S y p x R) (yE k L S y R):=by
 iterate 11 refine Sub.keep ?_
 exact Ze hp (by simp only [KS.prs,hx,Option.map_some]) fun _ _=>rfl
abbrev rX (k:Nat) (L:KL) (S:KS) (y:KY) (p:Nat) (x:yg) (cd:AVal) (R:List SP):List SP:=
 ent zI k (18,kF L S y)::ent (zP uJ 1) y.cv ((List.range S.Q.n).map L.c)::ent zQ L.m S.M::ent zX L.p ⟨L.m,S.Rf⟩::ent y5 L.sw S.Ws::ent qI L.h S.H::ent qm L.n S.N::ent z8 L.pp [.chan (some y.ch)]::ent yh y.ch (4,S.ww.map vu)::
 ent wO L.q S.Q::ent (zG Zo) k (List.range S.Q.n,fun i=>(L.c i,S.cpu L i))::Zq (y.a p) (y.v p) cd x.w x.pc x.code (x.vm (S.W L) p) (ent (zG ve) k ((List.range 4).erase p,S.prs L y)::R)
theorem fO {k p:Nat} {L:KL} {S:KS} {y:KY} {x:yg} {cd:AVal} {R:List SP} (hp:p<4) (hx:S.pr p=some x):Sub (rX k L S y p x cd R) (ent zp k (L,S)::R):=
 kern_closeP (S:=S) (S':=S) (y:=y) (y':= { y with cd:=fun j=>if j=p then cd else y.cd j }) (x':=x) hp rfl (fun _=>rfl) (by simp only [KS.prs,if_true,hx,Option.map_some]) (fun j hj=>by simp only [KS.prs,if_neg hj]) rfl rfl
theorem pC {S:KS} {L:KL} {c:Nat} {u:fQ} :(S.setU c u).cpu L c=⟨S.fr,S.cpus,S.kpti,S.inv,(c:Nat),L.u c,⟨(c:Nat),u.root,u.pcid,L.t c,u.xs⟩⟩:=by
 simp only [KS.cpu,KS.setU,if_true]
theorem kd {S:KS} {L:KL} {c j:Nat} {u:fQ} (h:j≠c):(S.setU c u).cpu L j=S.cpu L j:=by
 simp only [KS.cpu,KS.setU,if_neg h]
theorem wE {S:KS} {L:KL} {y:KY} {p:Nat} {x:yg} (hx:S.pr p=some x):S.prs L y p=(y.a p,y.v p,y.cd p,some (x,x.vm (S.W L) p)):=by
 simp only [KS.prs,hx,Option.map_some]
theorem Yo {S:KS} {L:KL} {y:KY} {p:Nat} {x:yg} {v:z7} :(S.putV p x v).prs L y p=(y.a p,y.v p,y.cd p,some (x.of v,(x.of v).vm (S.W L) p)):=by
 simp only [KS.prs,KS.putV,if_true,Option.map_some]
theorem QS {S:KS} {L:KL} {y:KY} {p j:Nat} {x:yg} {v:z7} (h:j≠p):(S.putV p x v).prs L y j=S.prs L y j:=by
 simp only [KS.prs,KS.putV,if_neg h]
theorem G5 {S S':KS} {y y':KY} {j:Nat} (h:S'.pr j=S.pr j) (ha:y'.a j=y.a j):S'.pcell y' j=S.pcell y j:=by
 unfold KS.pcell;rw [h,ha]
theorem QJ {S S':KS} {y y':KY} {j:Nat} {x x':yg} (h:S'.pr j=some x') (h1:S.pr j=some x) (ha:y'.a j=y.a j):S'.pcell y' j=S.pcell y j:=by
 unfold KS.pcell;rw [h,h1,ha]
theorem We {L:KL} {S S':KS} {y y':KY} {j:Nat} (h:18≤j+0∨j<9∨13≤j) (h1:S'.fr=S.fr:=by rfl) (h2:S'.cpus=S.cpus:=by rfl) (h3:S'.kpti=S.kpti:=by rfl) (h4:S'.inv=S.inv:=by rfl) (h5:y'.cv=y.cv:=by rfl):kF L S' y' j=kF L S y j:=by
 have d: ∀m,m<9→kF L S' y' m=kF L S y m:=by
  intro m hm
  match m,hm with
  |0,_=>show vi S'.fr=vi S.fr;rw [h1]
  |1,_=>show vi S'.cpus=vi S.cpus;rw [h2]
  |2,_=>show AVal.bool S'.kpti= .bool S.kpti;rw [h3]
  |3,_=>show AVal.bool S'.inv= .bool S.inv;rw [h4]
  |4,_=>rfl
  |5,_=>rfl
  |6,_=>rfl
  |7,_=>rfl
  |8,_=>rfl
 have e: ∀m,13≤m→kF L S' y' m=kF L S y m:=by
  intro m hm
  match m,hm with
  |13,_=>show y'.cv=y.cv;exact h5
  |14,_=>rfl
  |15,_=>rfl
  |16,_=>rfl
  |m+17,_=>rfl
 rcases h with h|h|h
 ·exact e j (by omega)
 ·exact d j h
 exact e j h
theorem YL {L:KL} {S:KS} {y:KY} {p:Nat} {x:yg} {v:z7} (hx:S.pr p=some x):kF L S y=kF L (S.putV p x v) y:=
 kF_same (fun j=>by
  by_cases h:j=p
  ·subst h;exact QJ (x':=x.of v) (if_pos rfl) hx rfl
  exact G5 (if_neg h) rfl) fun j h=>We h
abbrev KY.setCd (y:KY) (p:Nat) (v:AVal):KY:= { y with cd:=fun j=>if j=p then v else y.cd j }
theorem mV {S:KS} {L:KL} {y:KY} {p:Nat} {x:yg} {f:yg→yg} {v:AVal} (hx:S.pr p=some x):(S.upP p f).prs L (y.setCd p v) p=(y.a p,y.v p,v,some (f x,(f x).vm (S.W L) p)):=by
 simp only [KS.prs,KS.upP,KY.setCd,if_true,hx,Option.map_some]
theorem mL {S:KS} {L:KL} {y:KY} {p j:Nat} {f:yg→yg} {v:AVal} (h:j≠p):(S.upP p f).prs L (y.setCd p v) j=S.prs L y j:=by
 simp only [KS.prs,KS.upP,KY.setCd,if_neg h]
theorem jM {S:KS} {L:KL} {y:KY} {p:Nat} {x:yg} {v:AVal} :(S.setP p (some x)).prs L (y.setCd p v) p=(y.a p,y.v p,v,some (x,x.vm (S.W L) p)):=by
 simp only [KS.prs,KS.setP,KY.setCd,if_true,Option.map_some]
theorem jJ {S:KS} {L:KL} {y:KY} {p j:Nat} {x:Option yg} {v:AVal} (h:j≠p):(S.setP p x).prs L (y.setCd p v) j=S.prs L y j:=by
 simp only [KS.prs,KS.setP,KY.setCd,if_neg h]
theorem iS {L:KL} {S:KS} {y:KY} {p:Nat} {x:yg} {f:yg→yg} {v:AVal} (hx:S.pr p=some x):kF L S y=kF L (S.upP p f) (y.setCd p v):=
 kF_same (fun j=>by
  by_cases h:j=p
  ·subst h;exact QJ (x':=f x) (by show(if j=j then(S.pr j).map f else S.pr j)=_;rw [if_pos rfl,hx];rfl) hx rfl
  exact G5 (if_neg h) rfl) fun j h=>We h
theorem QF {L:KL} {S:KS} {y:KY} {p:Nat} {x x':yg} {v:AVal} (hx:S.pr p=some x):kF L S y=kF L (S.setP p (some x')) (y.setCd p v):=
 kF_same (fun j=>by
  by_cases h:j=p
  ·subst h;exact QJ (x':=x') (if_pos rfl) hx rfl
  exact G5 (if_neg h) rfl) fun j h=>We h
theorem Gv (S:KS) (L:KL) (c p:Nat) (x:yg):(S.enter c p x).cpu L c= { S.cpu L c with X:= { (S.cpu L c).X with root:=(x.S.kernel:Nat),pcid:=(S.cpu L c).kern (S.N.pair (p:Nat)) } } :=pC
theorem hY (S:KS) (L:KL) (c:Nat):(S.halt c).cpu L c= { S.cpu L c with X:= { (S.cpu L c).X with root:=0,pcid:=0 } } :=pC
theorem G7 (R:List SP) (k:Nat) (L:KL) (S:KS) (c p:Nat) (x:yg) (hc:c<S.Q.n) (hp:p<4) (hx:S.pr p=some x):zy 91 [vp k 0,vi c,vi p] (ent zp k (L,S)::R) fun w L2=>w= .tuple []∧L2=ent zp k (L,S.enter c p x)::R:=by
 refine zS (zr k L S) fun y _=> ?_
 dsimp only [yE,List.cons_append,List.nil_append]
 have hl:((List.range S.Q.n).map L.c).length=S.Q.n:=by simp
 refine yQ (K:=zP uJ 1) (q6 y.cv ((List.range S.Q.n).map L.c)) fun hcv=> ?_
 replace hcv:=uK hcv
 refine SW.sub ?_ (W5 hc hp hx (k:=k) (L:=L) (S:=S) (y:=y) (R:=R))
 dsimp only [WR,Zq]
 have hlc:((List.range S.Q.n).map L.c)[c]? =some (L.c c):=vw L.c hc
 refine SW.intro rfl Tryz.func91 rfl ?_
 refine zO [0,1,3,7,0,31,63,0,128,384,896,0,0,2048,10240,30720,63488,129024,260096,522240,0,2097151] [([0,1,2,3,4,5,6,7,8,9,10,11,12,13,14,15,16,17,18,19,20],[3,6,10,16,19],some 21),([],[],none)] (by kernel_rfl) ?_
 refine z4 (ZK 2 J (zj J Y (jS J Y wt (ZK 1 J (uW rfl (fun _ h=>yM rfl rfl rfl (by omega) (by omega) h) ?_)))))
 refine Wm 0 J Y J hlc J (ZK 2 J (zj J Y (jS J Y QQ (ZK 3 J (zj J Y (vN rfl (fun _=>zh rfl rfl rfl (by omega) (by omega)) ?_))))))
 refine jS J Y (yy (p:=p) (L:=L) (S:=S) (y:=y) hp hx) (ZK 1 J (zj J Y (ye J Y J (ZK 1 J (z5 ⟨(uY J Y wt J (z3 _ hcv) (wV rfl (fun _ h=>qo (j:=0) rfl rfl rfl hlc rfl h) rfl rfl (z3 _ rfl) (uY J Y QQ J (z3 _ rfl) (uY J Y (yy (p:=p) (L:=L) (S:=S) (y:=y) hp hx) J (z3 _ rfl) (y6 J Y J J J z6))))),?_⟩)))))
 refine Z3 (bm _ _ (S.cpu L c) _ _ S.N (x.vm (S.W L) p) (p:Nat)) J Y Y Y (zF (z4 (z5 ⟨z6,?_⟩)))
 refine qz J J (⟨_,⟨rfl,rfl⟩,Sub.trans ?_ (wH (S:=S) (S':=S.enter c p x) (y:=y) (y':=y) (x':=x) hc hp rfl (Gv S L c p x) (fun j hj=>kd hj) (wE hx) (fun j _=>rfl) rfl (show kF L S y=kF L (S.enter c p x) y from rfl))⟩)
 exact Y
theorem G3 (R:List SP) (k:Nat) (L:KL) (S:KS) (p:Nat):zy 192 [vp k 0,vi p] (ent zp k (L,S)::R) fun w L2=>w= .tuple []∧L2=ent zp k (L,S.flush p)::R:=by
 refine zS (zr k L S) fun y _=> ?_
 dsimp only [yE,List.cons_append,List.nil_append]
 have hl:((List.range S.Q.n).map L.c).length=S.Q.n:=by simp
 refine yQ (K:=zP uJ 1) (q6 y.cv ((List.range S.Q.n).map L.c)) fun hcv=> ?_
 replace hcv:=uK hcv
 refine SW.intro rfl Tryz.func192 rfl ?_
 refine zO [0,1,3,7,0,16,48,112,0,496,1023] [([0,1,2,3,4,5,6,7,8],[3,7],some 9),([],[3],some 10),([],[],none)] (by kernel_rfl) ?_
 refine z4 (ZK 2 J (zj J Y (jS J Y QQ (ZK 2 J (zj J Y (jS J Y QQ (ZK 1 J (z5 ⟨(uY J Y QQ J (z3 _ rfl) (uY J Y QQ J (z3 _ rfl) z6)),?_⟩))))))))
 refine Z1 (tE _ _ S.N (p:Nat)) J Y (zF (z4 (z5 ⟨(uY J Y QQ J (z3 _ rfl) z6),?_⟩)))
 refine Z1 (Uo _ _ S.N (S.N.pair (p:Nat))) J Y (zF (z4 (z5 ⟨z6,?_⟩)))
 refine qz J J (⟨_,⟨rfl,rfl⟩,Sub.trans ?_ (vP (S:=S) (S':=S.flush p) (y:=y) (y':=y) rfl (fun _=>rfl) rfl rfl (show kF L S y=kF L (S.flush p) y from rfl))⟩)
 exact Y
theorem Vk (R:List SP) (k:Nat) (L:KL) (S:KS) (p:Nat) (z:Int) (hz:0≤z∧z≤100):zy 180 [vp k 0,vi p,vi z] (ent zp k (L,S)::R) fun w L2=>w=vu (S.done p z).1∧L2=ent zp k (L,(S.done p z).2)::R:=by
 obtain⟨n,rfl⟩: ∃n:Nat,z=n:=⟨z.toNat,by omega⟩
 refine SW.intro rfl Tryz.func180 rfl ?_
 refine O0 9 J (z0 (fun h8=> ?_) (fun h8=> ?_))
 ·refine Z 5 J (Z1 (G3 _ _ _ S p) J Y (Z 4 J (Z0 (YT _ _ (by omega)) J (Z 3 J (zE J J J (⟨_,⟨rfl,rfl⟩,?_⟩))))))
  rw [show(S.done p (n:Nat)).2=S.flush p from if_pos h8]
  exact Y
 refine Z 6 J (Z0 (YT _ _ (by omega)) J (Z 3 J (zE J J J (⟨_,⟨rfl,rfl⟩,?_⟩))))
 rw [show(S.done p (n:Nat)).2=S from if_neg h8]
 exact Y
theorem WH (S:KS) (L:KL) (c p:Nat) (x:yg):(S.leave1 c p x).cpu L c=(S.cpu L c).leave S.N x.S.user (p:Nat):=by
 simp only [KS.cpu,KS.leave1,u4.leave,if_true]
theorem Zj (S:KS) (L:KL) {c j:Nat} (p:Nat) (x:yg) (h:j≠c):(S.leave1 c p x).cpu L j=S.cpu L j:=by
 simp only [KS.cpu,KS.leave1,if_neg h]
theorem f5 (R:List SP) (k:Nat) (L:KL) (S:KS) (c p:Nat) (x:yg) (hc:c<S.Q.n) (hp:p<4) (hx:S.pr p=some x) (hq:S.Q.cpu (c:Nat)=(p:Nat)) (hg:S.N.gen≤4611686018427387903) (ht:S.told p=false):zy 73 [vp k 0,vi c] (ent zp k (L,S)::R) fun w L2=>w= .tuple []∧L2=ent zp k (L,S.leave1 c p x)::R:=by
 refine zS (zr k L S) fun y _=> ?_
 dsimp only [yE,List.cons_append,List.nil_append]
 have hl:((List.range S.Q.n).map L.c).length=S.Q.n:=by simp
 refine yQ (K:=zP uJ 1) (q6 y.cv ((List.range S.Q.n).map L.c)) fun hcv=> ?_
 replace hcv:=uK hcv
 refine SW.sub ?_ (W5 hc hp hx (k:=k) (L:=L) (S:=S) (y:=y) (R:=R))
 dsimp only [WR,Zq]
 have hlc:((List.range S.Q.n).map L.c)[c]? =some (L.c c):=vw L.c hc
 refine SW.intro rfl Tryz.func73 rfl ?_
 refine O0 4 J (fa J Y (lf J Y Q7 (Z 1 J (Z1 (V4 _ _ S.Q (c:Nat)) J Y (yn (congrArg vi hq) ?_)))))
 refine Z 6 J (zf rfl (fun _=>zC rfl rfl rfl (QX rfl)) (qM (by omega) ?_))
 refine Z 5 J (zO [0,1,3,7,0,31,63,0,128,384,896,0,0,2048,10240,30720,63488,129024,260096,522240,0,2097151,4194303] [([0,1,2,3,4,5,6,7,8,9,10,11,12,13,14,15,16,17,18,19,20],[3,6,10,16,19],some 21),([22],[],none)] (by kernel_rfl) ?_)
 refine z4 (ZK 2 J (zj J Y (jS J Y wt (ZK 1 J (uW rfl (fun _ h=>yM rfl rfl rfl (by omega) (by omega) h) ?_)))))
 refine Wm 0 J Y J hlc J (ZK 2 J (zj J Y (jS J Y QQ (ZK 3 J (zj J Y (vN rfl (fun _=>zh rfl rfl rfl (by omega) (by omega)) ?_))))))
 refine jS J Y (yy (p:=p) (L:=L) (S:=S) (y:=y) hp hx) (ZK 1 J (zj J Y (ye J Y J (ZK 1 J (z5 ⟨(uY J Y wt J (z3 _ hcv) (wV rfl (fun _ h=>qo (j:=0) rfl rfl rfl hlc rfl h) rfl rfl (z3 _ rfl) (uY J Y QQ J (z3 _ rfl) (uY J Y (yy (p:=p) (L:=L) (S:=S) (y:=y) hp hx) J (z3 _ rfl) (y6 J Y J J J z6))))),?_⟩)))))
 refine Z3 (xR _ _ (S.cpu L c) _ _ S.N (x.vm (S.W L) p) (p:Nat) hg) J Y Y Y (yn (congrArg AVal.bool ht) ?_)
 refine zF (z4 (ZK 1 J (z5 ⟨z6,?_⟩)))
 refine OX 2 J (qz J J (⟨_,⟨rfl,rfl⟩,Sub.trans ?_ (wH (k:=k) (R:=R) (S:=S) (S':=S.leave1 c p x) (y:=y) (y':=y) (x':=x) hc hp rfl (WH S L c p x) (fun j hj=>Zj S L p x hj) (wE hx) (fun j _=>rfl) rfl (show kF L S y=kF L (S.leave1 c p x) y from rfl))⟩))
 exact Y
def KS.Runs (S:KS):Prop:= ∀d,d<S.Q.n→0≤S.Q.cpu (d:Nat)→(S.Q.cpu (d:Nat)).toNat<4∧ ∃x,S.pr (S.Q.cpu (d:Nat)).toNat=some x
theorem zW.take_prs (S:zW) (c v:Int):(S.take c v).2.prs=S.prs:=by unfold zW.take;split<;>rfl
theorem zW.take_gen (S:zW) (c v:Int):(S.take c v).2.gen=S.gen:=by unfold zW.take;split<;>rfl
theorem zW.take_n (S:zW) (c v:Int):(S.take c v).2.n=S.n:=by unfold zW.take;split<;>rfl
theorem zW.ask_gen (S:zW) (p:Int):(S.ask p).2.2.gen=if(S.ask p).2.1 then S.gen+1 else S.gen:=by
 unfold zW.ask
 split
 ·split
  ·rfl
  split<;>rfl
 rfl
theorem zW.ask_n (S:zW) (p:Int):(S.ask p).2.2.n=S.n:=by
 unfold zW.ask
 split
 ·split
  ·rfl
  split<;>rfl
 rfl
theorem zW.told_once {S:zW} {p:Int} (h:(S.ask p).2.1=true) (c v q:Int):(((S.ask p).2.2.take c v).2.ask q).2.1=false:=by
 have e: ∃r:Nat,r<4∧ ∀j,(S.ask p).2.2.prs j=if j=r then 1 else 0:=by
  unfold zW.ask at h ⊢
  split at h
  ·rename_i hp
   split at h
   ·cases h
   rename_i hz
   rw [if_pos hp,if_neg hz]
   split at h
   ·cases h
   exact⟨p.toNat,by omega,fun j=>rfl⟩
  cases h
 obtain⟨r,hr,e⟩:=e
 rw [←zW.take_prs _ c v]at e
 generalize ((S.ask p).2.2.take c v).2=T at e
 have h2:T.least=some 2:=by
  have a1:T.had 1=true:=by
   unfold zW.had
   rcases(by omega:r=0∨r=1∨r=2∨r=3)with rfl|rfl|rfl|rfl<;>simp [e]
  have a2:T.had 2=false:=by
   unfold zW.had
   simp only [e]
   rcases(by omega:r=0∨r=1∨r=2∨r=3)with rfl|rfl|rfl|rfl<;>simp
  unfold zW.least
  rw [if_neg (by rw [a1];nofun),if_pos a2]
 unfold zW.ask
 split
 ·split
  ·rfl
  rw [h2]
 rfl
theorem Wl {S:KS} {c p:Nat} {x:yg} (hq:S.Q.cpu (c:Nat)=(p:Nat)) (hx:S.pr p=some x):S.leaveP c=S.leave1 c p x:=by
 unfold KS.leaveP
 rw [hq,show((p:Nat):Int).toNat=p from rfl,hx]
theorem fJ {S:KS} {c p:Nat} {x:yg} (hq:S.Q.cpu (c:Nat)=(p:Nat)) (hx:S.pr p=some x) (ht:S.told p=false):S.leave c=S.leave1 c p x:=by
 unfold KS.leave
 rw [Wl hq hx,hq,if_neg (by omega),show((p:Nat):Int).toNat=p from rfl,ht];rfl
theorem fH {S:KS} {c p:Nat} {x:yg} (hq:S.Q.cpu (c:Nat)=(p:Nat)) (hx:S.pr p=some x) (ht:S.told p=true):S.leave c=(List.range S.Q.n).foldl (fun S i=>S.others c i) (S.leave1 c p x).bare:=by
 unfold KS.leave
 rw [Wl hq hx,hq,if_neg (by omega),show((p:Nat):Int).toNat=p from rfl,ht,if_pos rfl]
theorem ni (S:KS) (L:KL):(fun d=>(L.c d,(S.bareTo 0).cpu L d))=fun d=>(L.c d,S.cpu L d):=by
 funext d;simp only [KS.cpu,KS.bareTo,if_neg (Nat.not_lt_zero d)]
theorem sH (S:KS) (L:KL) (i:Nat):(S.bareTo (i+1)).cpu L i= { (S.bareTo i).cpu L i with X:= { ((S.bareTo i).cpu L i).X with xs:= [] } } :=by
 simp only [KS.cpu,KS.bareTo,if_pos (Nat.lt_succ_self i),if_neg (Nat.lt_irrefl i)]
theorem aO (S:KS) (L:KL) {i j:Nat} (h:j≠i):(S.bareTo (i+1)).cpu L j=(S.bareTo i).cpu L j:=by
 simp only [KS.cpu,KS.bareTo]
 by_cases h1:j<i
 ·rw [if_pos h1,if_pos (by omega)]
 rw [if_neg h1,if_neg (by omega)]
theorem nD (S:KS) (c:Nat): ∀i,(∀j,j<i→j=c)→(List.range i).foldl (fun S i=>S.others c i) S=S:=by
 intro i
 induction i with
 |zero=>intro _;rfl
 |succ i ih=>
  intro h
  rw [List.range_succ,List.foldl_append,ih fun j hj=>h j (by omega)]
  show S.others c i=S
  unfold KS.others
  rw [if_neg (fun e=>e.1 (h i (by omega)))]
theorem WU (S:KS) (c i:Nat):(List.range (i+1)).foldl (fun S i=>S.others c i) S=((List.range i).foldl (fun S i=>S.others c i) S).others c i:=by
 rw [List.range_succ,List.foldl_append];rfl
theorem vo (R:List SP) (k:Nat) (L:KL) (S:KS) (c:Nat) (hc:c<S.Q.n) (hal:S.Runs) (hg0:S.N.gen≤4611686018427387000):zy 73 [vp k 0,vi c] (ent zp k (L,S)::R) fun w L2=>w= .tuple []∧L2=ent zp k (L,S.leave c)::R:=by
 refine zS (zr k L S) fun y _=> ?_
 dsimp only [yE,List.cons_append,List.nil_append]
 have hl:((List.range S.Q.n).map L.c).length=S.Q.n:=by simp
 refine yQ (K:=zP uJ 1) (q6 y.cv ((List.range S.Q.n).map L.c)) fun hcv=> ?_
 replace hcv:=uK hcv
 have hlc:((List.range S.Q.n).map L.c)[c]? =some (L.c c):=vw L.c hc
 refine yQ (oO L.q S.Q) fun hQ=> ?_
 have hn2:=hQ.2.1
 have hg:S.N.gen≤4611686018427387903:=by omega
 refine SW.intro rfl Tryz.func73 rfl ?_
 refine O0 4 J (fa J Y (lf J Y Q7 (Z 1 J (Z1 (V4 _ _ S.Q (c:Nat)) J Y (Z 7 J (z0 (fun h15=> ?_) (fun h15=> ?_)))))))
 ·refine zR (Sub.trans (M:=yE k L S y R) Y (UK (y:=y) hc)) ?_
  dsimp only [mi]
  refine Z 6 J (fa J Y (lf J Y wt (Z 1 J (yo rfl (fun _ h=>yM rfl rfl rfl (by omega) (by omega) h) ?_))))
  refine lE 0 J Y J hlc J (Z1 (ai _ _ (S.cpu L c)) J Y (Z 2 J (qz J J ?_)))
  rw [show S.leave c=S.halt c from if_pos h15]
  refine⟨_,⟨rfl,rfl⟩,Sub.trans ?_ (qB (S:=S) (S':=S.halt c) (y:=y) (y':=y) hc rfl (hY S L c) (fun j hj=>kd hj) rfl rfl (show kF L S y=kF L (S.halt c) y from rfl))⟩
  exact Y
 obtain⟨hp0,x,hx0⟩:=hal c hc (by omega)
 obtain⟨p,hpq⟩: ∃p:Nat,S.Q.cpu (c:Nat)=p:=⟨(S.Q.cpu c).toNat,by omega⟩
 have hp:p<4:=by rw [hpq]at hp0;exact hp0
 have hx:S.pr p=some x:=by rw [hpq]at hx0;exact hx0
 rw [hpq]
 refine zR (Sub.trans (M:=yE k L S y R) Y (W5 (y:=y) hc hp hx)) ?_
 dsimp only [WR,Zq]
 refine Z 5 J (zO [0,1,3,7,0,31,63,0,128,384,896,0,0,2048,10240,30720,63488,129024,260096,522240,0,2097151,4194303] [([0,1,2,3,4,5,6,7,8,9,10,11,12,13,14,15,16,17,18,19,20],[3,6,10,16,19],some 21),([22],[],none)] (by kernel_rfl) ?_)
 refine z4 (ZK 2 J (zj J Y (jS J Y wt (ZK 1 J (uW rfl (fun _ h=>yM rfl rfl rfl (by omega) (by omega) h) ?_)))))
 refine Wm 0 J Y J hlc J (ZK 2 J (zj J Y (jS J Y QQ (ZK 3 J (zj J Y (vN rfl (fun _=>zh rfl rfl rfl (by omega) (by omega)) ?_))))))
 refine jS J Y (yy (p:=p) (L:=L) (S:=S) (y:=y) hp hx) (ZK 1 J (zj J Y (ye J Y J (ZK 1 J (z5 ⟨(uY J Y wt J (z3 _ hcv) (wV rfl (fun _ h=>qo (j:=0) rfl rfl rfl hlc rfl h) rfl rfl (z3 _ rfl) (uY J Y QQ J (z3 _ rfl) (uY J Y (yy (p:=p) (L:=L) (S:=S) (y:=y) hp hx) J (z3 _ rfl) (y6 J Y J J J z6))))),?_⟩)))))
 refine Z3 (xR _ _ (S.cpu L c) _ _ S.N (x.vm (S.W L) p) (p:Nat) hg) J Y Y Y (zN (fun h45=> ?_) (fun h45=> ?_))
 ·refine zR (Sub.trans ?_ (wH (k:=k) (R:=R) (S:=S) (S':=S.leave1 c p x) (y:=y) (y':=y) (x':=x) hc hp rfl (WH S L c p x) (fun j hj=>Zj S L p x hj) (wE hx) (fun j _=>rfl) rfl (show kF L S y=kF L (S.leave1 c p x) y from rfl))) ?_
  ·exact Y
  obtain⟨S1,hS1⟩: ∃S1,S1=S.leave1 c p x:=⟨_,rfl⟩
  have hQ1:S1.Q=S.Q:=by rw [hS1]
  have hP1:S1.pr=S.pr:=by rw [hS1]
  have hN1:S1.N=((S.N.ask p).2.2.take c (S.N.ask p).1).2:=by rw [hS1]
  have hT1: ∀q:Nat,S1.told q=false:=fun q=>by unfold KS.told;rw [hN1];exact zW.told_once h45 _ _ _
  have hg1:S1.N.gen≤4611686018427387903:=by { rw [hN1,zW.take_gen,zW.ask_gen,h45];simp only [if_true];omega }
  have hn1:S1.Q.n=S.Q.n:=by rw [hQ1]
  rw [←hS1]
  refine zF (z4 (ZK 1 J (z5 ⟨z6,?_⟩)))
  refine OX 5 J (qw (zr k L S1) fun y1 _=> ?_)
  dsimp only [yE,List.cons_append,List.nil_append]
  have hl1:((List.range S1.Q.n).map L.c).length=S1.Q.n:=by simp
  refine Z 2 J (fa J Y (lf J Y (wt (L:=L) (S:=S1) (y:=y1)) (yo rfl (fun _ h=>y0 rfl rfl rfl rfl rfl h) ?_)))
  refine yn (congrArg (fun n:Nat=>vi n) hl1) ?_
  refine Z 3 J (zl (fun j T LZ=> ∃(i:Nat),(i≤S1.Q.n)∧j=S1.Q.n-i∧T.len=6∧Tm.get 0 T=some (vp k 0)∧Tm.get 1 T=some (vi c)∧Tm.get 50 T=some (y1.cv)∧Tm.get 51 T=some (vi (S1.Q.n:Nat))∧Tm.get 52 T=some (vi (i:Nat))∧Sub LZ (ent zI k (18,kF L S1 y1)::ent (zP uJ 1) y1.cv ((List.range S1.Q.n).map L.c)::ent zQ L.m S1.M::ent zX L.p ⟨L.m,S1.Rf⟩::ent y5 L.sw S1.Ws::ent qI L.h S1.H::ent qm L.n S1.N::ent z8 L.pp [.chan (some y1.ch)]::ent yh y1.ch (4,S1.ww.map vu)::ent wO L.q S1.Q::ent (zG Zo) k (List.range S1.Q.n,fun d=>(L.c d,(S1.bareTo i).cpu L d))::ent (zG ve) k (List.range 4,S1.prs L y1)::R)) (S1.Q.n) ⟨0,by omega,by omega,rfl,rfl,rfl,rfl,rfl,rfl,(by rw [ni];exact Y)⟩ ?_)
  rintro j T L0 ⟨i,hi0,rfl,hl,g0,g1,g50,g51,g52,hsb⟩
  obtain⟨tg,rfl⟩:=ef hl g0 g1 g50 g51 g52
  clear hl g0 g1 g50 g51 g52
  refine zu hsb ?_
  clear hsb L0
  refine O0 3 J (z0 (fun h53=> ?_) (fun h53=> ?_))
  ·have hi:i<S1.Q.n:=by omega
   have hli:((List.range S1.Q.n).map L.c)[i]? =some (L.c i):=vw L.c hi
   refine Z 8 J (yo rfl (fun _ h=>yM rfl rfl rfl (by omega) (by omega) h) ?_)
   refine lE 0 J Y J hli J (Z 4 J (zR (Sub.trans (M:=ent (zG Zo) k (List.range S1.Q.n,fun d=>(L.c d,(S1.bareTo i).cpu L d))::ent zI k (18,kF L S1 y1)::ent (zP uJ 1) y1.cv ((List.range S1.Q.n).map L.c)::ent zQ L.m S1.M::ent zX L.p ⟨L.m,S1.Rf⟩::ent y5 L.sw S1.Ws::ent qI L.h S1.H::ent qm L.n S1.N::ent z8 L.pp [.chan (some y1.ch)]::ent yh y1.ch (4,S1.ww.map vu)::ent wO L.q S1.Q::ent (zG ve) k (List.range 4,S1.prs L y1)::R) Y (bS hi)) ?_))
   refine Z1 (Qw _ _ ((S1.bareTo i).cpu L i)) J Y (qw (wz (L.c i) ((S1.bareTo i).cpu L i)) fun _ _=> ?_)
   dsimp only [UZ,List.cons_append,List.nil_append]
   refine Z1 (U4 _ _ ((S1.bareTo i).cpu L i).X) J Y (qw (wx (L.u i) ((S1.bareTo i).cpu L i).X) fun _ _=> ?_)
   dsimp only [VO,List.cons_append,List.nil_append]
   refine Z1 (aI _ _ ((S1.bareTo i).cpu L i).X.xs) J Y (zR (Sub.mk2 (p:=ent vW (L.u i) { ((S1.bareTo i).cpu L i).X with xs:= [] }) (yi (a:=L.u i) (X:= { ((S1.bareTo i).cpu L i).X with xs:= [] }) (fun _ hx=>by cases hx)) (Sub.refl _)) ?_)
   refine zR (Sub.mk2 (p:=ent vv (L.c i) { ((S1.bareTo i).cpu L i)with X:= { ((S1.bareTo i).cpu L i).X with xs:= [] } }) (yj (C:= { ((S1.bareTo i).cpu L i)with X:= { ((S1.bareTo i).cpu L i).X with xs:= [] } })) (Sub.refl _)) ?_
   refine Z 2 J (ad J (Z 2 J ?_))
   exact Or.inl ⟨rfl,_,by omega,i+1,by omega,rfl,rfl,rfl,rfl,rfl,rfl,rfl,(Sub.trans (M:=ent vv (L.c i) { ((S1.bareTo i).cpu L i)with X:= { ((S1.bareTo i).cpu L i).X with xs:= [] } } ::ent (zG Zo) k ((List.range S1.Q.n).erase i,fun d=>(L.c d,(S1.bareTo i).cpu L d))::ent zI k (18,kF L S1 y1)::ent (zP uJ 1) y1.cv ((List.range S1.Q.n).map L.c)::ent zQ L.m S1.M::ent zX L.p ⟨L.m,S1.Rf⟩::ent y5 L.sw S1.Ws::ent qI L.h S1.H::ent qm L.n S1.N::ent z8 L.pp [.chan (some y1.ch)]::ent yh y1.ch (4,S1.ww.map vu)::ent wO L.q S1.Q::ent (zG ve) k (List.range 4,S1.prs L y1)::R) Y ((Vc (G':=fun d=>(S1.bareTo (i+1)).cpu L d) hi (sH S1 L i) (fun j hj=>aO S1 L hj)).trans Y))⟩
  refine Z 4 J (Or.inr ⟨nofun,?_⟩)
  refine OX 4 J (fa J Y (lf J Y (wt (L:=L) (S:=S1) (y:=y1)) (yo rfl (fun _ h=>y0 rfl rfl rfl rfl rfl h) ?_)))
  refine yn (congrArg (fun n:Nat=>vi n) hl1) ?_
  refine Z 3 J ?_
  have hin:i=S1.Q.n:=by omega
  subst hin
  refine zu (Sub.trans ?_ (vP (k:=k) (R:=R) (S:=S1.bare) (S':=S1.bare) (y:=y1) (y':=y1) rfl (fun _=>rfl) rfl rfl (show kF L S1 y1=kF L S1.bare y1 from rfl))) ?_
  ·exact Y
  refine zl (fun j T LZ=> ∃(i2:Nat),(i2≤S1.Q.n)∧j=S1.Q.n-i2∧T.len=6∧Tm.get 0 T=some (vp k 0)∧Tm.get 1 T=some (vi c)∧Tm.get 65 T=some (vi (S1.Q.n:Nat))∧Tm.get 66 T=some (vi (i2:Nat))∧Sub LZ (ent zp k (L,((List.range i2).foldl (fun S i=>S.others c i) S1.bare))::R)) (S1.Q.n) ⟨0,by omega,by omega,rfl,rfl,rfl,rfl,rfl,(show Px.Sub _ (ent zp k (L,S1.bare)::R)from Y)⟩ ?_
  rintro j T L0 ⟨i2,hi2,rfl,hl,g0,g1,g65,g66,hsb⟩
  obtain⟨tg,rfl⟩:=W7 hl g0 g1 g65 g66
  clear hl g0 g1 g65 g66
  refine zu hsb ?_
  clear hsb L0
  refine O0 3 J (z0 (fun h67=> ?_) (fun h67=> ?_))
  ·refine Z 16 J (z0 (fun h71=> ?_) (fun h71=> ?_))
   ·have eF:((List.range i2).foldl (fun S i=>S.others c i) S1.bare)=S1.bare:=nD S1.bare c i2 fun j hj=>by omega
    rw [eF]
    refine qw (zr k L S1.bare) fun y2 _=> ?_
    dsimp only [yE,List.cons_append,List.nil_append]
    refine Z 3 J (fa J Y (lf J Y (Q7 (L:=L) (S:=S1.bare) (y:=y2)) (Z 1 J (Z1 (V4 _ _ S1.bare.Q (i2:Nat)) J Y (Z 1 J (z0 (fun h79=> ?_) (fun h79=> ?_)))))))
    ·refine zR (Sub.trans (M:=yE k L S1.bare y2 R) Y yT) ?_
     obtain⟨hp2,x2,hx2⟩:=hal i2 (by omega) (by rw [←hQ1];exact h79)
     obtain⟨p2,hq2⟩: ∃p2:Nat,S1.bare.Q.cpu (i2:Nat)=p2:=⟨(S.Q.cpu i2).toNat,by show S1.Q.cpu _=_;rw [hQ1];rw [hQ1]at h79;omega⟩
     have e2:(S.Q.cpu (i2:Nat)).toNat=p2:=by { rw [←hQ1];show(S1.bare.Q.cpu (i2:Nat)).toNat=p2;rw [hq2];rfl }
     rw [e2]at hp2 hx2
     replace hx2:S1.bare.pr p2=some x2:=by { show S1.pr p2=some x2;rw [hP1];exact hx2 }
     refine Z 6 J (Z1 (f5 _ _ _ S1.bare i2 p2 x2 (by show i2<S1.Q.n;omega) hp2 hx2 hq2 hg1 (hT1 p2)) J Y (Z 2 J (ad J (Z 2 J ?_))))
     exact Or.inl ⟨rfl,_,by omega,i2+1,by omega,rfl,rfl,rfl,rfl,rfl,rfl,(by rw [WU,eF];unfold KS.others;rw [if_pos ⟨by omega,h79⟩,Wl hq2 hx2];exact Y)⟩
    refine zR (Sub.trans (M:=yE k L S1.bare y2 R) Y yT) ?_
    refine Z 5 J (ad J (Z 2 J ?_))
    exact Or.inl ⟨rfl,_,by omega,i2+1,by omega,rfl,rfl,rfl,rfl,rfl,rfl,(by rw [WU,eF];unfold KS.others;rw [if_neg (fun h=>h79 h.2)];exact Y)⟩
   refine Z 13 J (ad J (Z 2 J ?_))
   exact Or.inl ⟨rfl,_,by omega,i2+1,by omega,rfl,rfl,rfl,rfl,rfl,rfl,(by rw [WU];unfold KS.others;rw [if_neg (fun h=>h.1 (by omega))];exact Y)⟩
  refine Z 4 J (Or.inr ⟨nofun,?_⟩)
  refine qz J J ?_
  rw [fH hpq hx h45,←hS1]
  have hi2:i2=S.Q.n:=by omega
  rw [←hi2]
  exact fq
 refine zF (z4 (ZK 1 J (z5 ⟨z6,?_⟩)))
 refine OX 2 J (qz J J ?_)
 rw [fJ hpq hx h45]
 refine⟨_,⟨rfl,rfl⟩,Sub.trans ?_ (wH (k:=k) (R:=R) (S:=S) (S':=S.leave1 c p x) (y:=y) (y':=y) (x':=x) hc hp rfl (WH S L c p x) (fun j hj=>Zj S L p x hj) (wE hx) (fun j _=>rfl) rfl (show kF L S y=kF L (S.leave1 c p x) y from rfl))⟩
 exact Y
theorem Jj {P:Program} {F:z9} {o:Oper} {T:Tm} {H:Hp} {L R:List SP} {t:TypeId} {x:Operand} {k off n es m:Nat} {f:Nat→AVal} [hs:AR P t n es] [tk:Tk L zI k (m,f) R] (ho:o.op= .slice t x none none none) (hx:opnd T x=some (.ptr (some (k,off)))) (h0:0<n) (hm:off+n*es≤m) (h:Holds L H):
 yJ P F T H o=some (.val (.slice (some (k,off)) n (some n) es) H):=by
 obtain⟨e,h1,h2⟩:=hs.h
 obtain⟨a,b,g1,g2,g3,⟨c,w,g4,g5,g6⟩,g7⟩:=tk.h _ h.s
 have g8:H.t.get k=some (.cells true c w):=g2 _ _ g4
 have hr:H.row k=some w:=by unfold Hp.row;rw [g8]
 have g5:m≤w:=g5
 have hb:Nat.ble (off+n*es) w=true:=Nat.ble_eq_true_of_le (by omega)
 have hn:Nat.beq n 0=false:=by rw [←Bool.not_eq_true,Nat.beq_eq];omega
 have hn2:Nat.ble n n=true:=Nat.ble_eq_true_of_le (Nat.le_refl _)
 simp only [yJ,ho,qr,Option.map,Option.getD,hx,wb,h1,h2,yv,j4,wR,wI,hr,hb,hn,hn2,cond_true,cond_false,Nat.sub_zero,Nat.zero_mul,Nat.add_zero,zH.ofVal,Nat.zero_le,show Nat.ble 0 n=true from Nat.ble_eq_true_of_le (Nat.zero_le _)]
def KS.freeI (S:KS):Int:=match S.free with
 |some q=>(q:Nat)
 |none=> -1
theorem cm {P:Program} {F:z9} {H:Hp} {t:TypeId} {c:Bool} (S:KS) (y:KY) (i:Nat) (h1:wJ P F H .eql t c (.ptr none) (.ptr none)=some (.bool true)) (h2: ∀a,wJ P F H .eql t c (.ptr none) (vp a 0)=some (.bool false)):wJ P F H .eql t c (.ptr none) (S.pcell y i)=some (.bool (S.pr i).isNone):=by
 unfold KS.pcell
 cases S.pr i with
 |none=>exact h1
 |some x=>exact h2 _
theorem tI {L:KL} {S:KS} {y:KY} {i:Nat} (h:i<4):kF L S y (i+9)=S.pcell y i:=by
 rcases(by omega:i=0∨i=1∨i=2∨i=3)with rfl|rfl|rfl|rfl<;>rfl
theorem gz {S:KS} {i k:Nat} :(∀q,S.freeFrom i k=some q→i≤q∧q<i+k∧S.pr q=none∧ ∀j,i≤j→j<q→S.pr j≠none)∧(S.freeFrom i k=none→ ∀j,i≤j→j<i+k→S.pr j≠none):=by
 induction k generalizing i with
 |zero=>exact⟨fun q h=>(by cases h),fun _ j h1 h2=>by omega⟩
 |succ k ih=>
  unfold KS.freeFrom
  cases hp:S.pr i with
  |none=>exact⟨fun q h=>(by cases h;exact⟨Nat.le_refl _,by omega,hp,fun j h1 h2=>by omega⟩),fun h=>(by cases h)⟩
  |some x=>
   simp only [Option.isSome_some,if_true]
   refine⟨fun q h=> ?_,fun h j h1 h2=> ?_⟩
   ·obtain⟨a,b,c,d⟩:=(ih (i:=i+1)).1 q h
    refine⟨by omega,by omega,c,fun j h1 h2=> ?_⟩
    rcases Nat.eq_or_lt_of_le h1 with rfl|h1
    ·rw [hp];nofun
    exact d j h1 h2
   rcases Nat.eq_or_lt_of_le h1 with rfl|h1
   ·rw [hp];nofun
   exact(ih (i:=i+1)).2 h j h1 (by omega)
theorem dX {S:KS} {q:Nat} (h4:q<4) (hq:S.pr q=none) (ho: ∀j,j<q→S.pr j≠none):S.freeI=(q:Nat):=by
 unfold KS.freeI
 cases h:S.free with
 |none=>exact absurd hq ((gz (i:=0) (k:=4)).2 h q (by omega) (by omega))
 |some r=>
  obtain⟨a,b,c,d⟩:=(gz (i:=0) (k:=4)).1 r h
  have:r=q:=by
   rcases Nat.lt_trichotomy r q with h|h|h
   ·exact absurd c (ho r h)
   ·exact h
   exact absurd hq (d q (by omega) h)
  rw [this]
theorem dj {S:KS} (ho: ∀j,j<4→S.pr j≠none):S.freeI= -1:=by
 unfold KS.freeI
 cases h:S.free with
 |none=>rfl
 |some r=>
  obtain⟨a,b,c,d⟩:=(gz (i:=0) (k:=4)).1 r h
  exact absurd c (ho r (by omega))
theorem BF (R:List SP) (k:Nat) (L:KL) (S:KS) (y:KY):zy 226 [.slice (some (k,9)) 4 (some 4) 1,.ptr none] (ent zI k (18,kF L S y)::R) fun w L2=>w=vi S.freeI∧L2=ent zI k (18,kF L S y)::R:=by
 refine SW.intro rfl Tryz.func226 rfl ?_
 refine O0 8 J (zf rfl (fun _=>wD rfl rfl rfl rfl rfl) ?_)
 refine Z 3 J (zl (fun j T LZ=> ∃(i:Nat),(i≤4)∧(∀j,j<i→S.pr j≠none)∧j=4-i∧T.len=2∧Tm.get 0 T=some (.slice (some (k,9)) 4 (some 4) 1)∧Tm.get 1 T=some (.ptr none)∧Tm.get 7 T=some (vi 4)∧Tm.get 8 T=some (vi (i:Nat))∧Sub LZ (ent zI k (18,kF L S y)::R)) (4) ⟨0,by omega,fun j h=>absurd h (Nat.not_lt_zero j),by omega,rfl,rfl,rfl,rfl,rfl,Y⟩ ?_)
 rintro j T L0 ⟨i,hi4,ho,rfl,hl,g0,g1,g7,g8,hsb⟩
 obtain⟨tg,rfl⟩:=W7 hl g0 g1 g7 g8
 clear hl g0 g1 g7 g8
 refine zu hsb ?_
 clear hsb L0
 refine O0 3 J (z0 (fun h9=> ?_) (fun h9=> ?_))
 ·have hi:i<4:=by omega
  refine Z 16 J (zf rfl (fun _=>ug rfl rfl rfl (by omega) (by omega)) ?_)
  refine lf J Y (tI (L:=L) (S:=S) (y:=y) hi) (zf rfl (fun _=>zC rfl rfl rfl (cm S y i rfl (fun _=>rfl))) ?_)
  refine zN (fun h16=> ?_) (fun h16=> ?_)
  ·refine Z 8 J (Or.inr ⟨nofun,?_⟩)
   refine zE J J J (⟨_,⟨congrArg vi (dX hi (Option.isNone_iff_eq_none.1 h16) ho).symm,rfl⟩,Y⟩)
  refine Z 4 J (ad J (Z 2 J ?_))
  exact Or.inl ⟨rfl,_,by omega,i+1,by omega,fun j hj=>by { rcases Nat.lt_succ_iff_lt_or_eq.1 hj with hj|rfl;exact ho j hj;intro e;rw [e]at h16;cases h16 },rfl,rfl,rfl,rfl,rfl,rfl,Y⟩
 refine Z 4 J (Or.inr ⟨nofun,?_⟩)
 refine OX 5 J (zE J J J (⟨_,⟨congrArg vi (dj fun j hj=>ho j (by omega)).symm,rfl⟩,Y⟩))
theorem og {L:KL} {S:KS} {y:KY} {q:Nat} {v:AVal} (h:q<4):vK (kF L S y) (q+9) v 17=vp L.q 0:=if_neg (by omega)
theorem zV.wake_n (S:zV) (p:Int):(S.wake p).n=S.n:=by unfold zV.wake;split<;>rfl
theorem to {S:KS} (h:S.freeI<0):S.free=none:=by
 unfold KS.freeI at h
 cases e:S.free with
 |none=>rfl
 |some q=>rw [e]at h;dsimp only at h;omega
theorem na {S:KS} (h: ¬S.freeI<0): ∃q,S.free=some q∧S.freeI=(q:Nat)∧q<4∧S.pr q=none:=by
 unfold KS.freeI at h ⊢
 cases e:S.free with
 |none=>rw [e]at h;exact absurd (show(-1:Int)<0 by decide) h
 |some q=>
  obtain⟨a,b,c,d⟩:=(gz (i:=0) (k:=4)).1 q e
  exact⟨q,rfl,rfl,by omega,c⟩
theorem z7.fork_zero {x:z7} {W:Wd} {o:Int} :(∃cf cS v,z7.fork x W o=(0,some (cf,cS),v))∨ ∃e v,z7.fork x W o=(e,none,v)∧(e=5∨e=2):=by
 unfold z7.fork
 split
 ·exact .inr ⟨_,_,rfl,.inl rfl⟩
 split
 ·exact .inr ⟨_,_,rfl,.inr rfl⟩
 dsimp only
 split
 ·exact .inr ⟨_,_,rfl,.inr rfl⟩
 exact .inl ⟨_,_,_,rfl⟩
theorem ZP {w:Nat→Nat} {cd:AVal} {pc:Int} (h:VQ cd=true):lx (.agg (jC w cd pc))=true:=by
 show(VQ cd && true)=true
 rw [h];rfl
theorem sE (R:List SP) (k:Nat) (L:KL) (S:KS) (p:Nat) (x:yg) (hp:p<4) (hx:S.pr p=some x) (i:yl) (hcl:x.code.length≤1000) (hpc: -1000000≤x.pc∧x.pc≤1000000) (hT:x.S.tables.length≤400000) (hc0: ∀z,vr S.Rf z≤1000000) (hal: ∀q:Nat,q<4→S.pr q=none→S.Q.alive (q:Nat)=false):zy 185 [vp k 0,vi p,.agg (qN i)] (ent zp k (L,S)::R) fun w L2=>w=vu (S.fork p x i).1∧L2=ent zp k (L,(S.fork p x i).2)::R:=by
 refine zS (zr k L S) fun y _=> ?_
 dsimp only [yE,List.cons_append,List.nil_append]
 have hl:((List.range S.Q.n).map L.c).length=S.Q.n:=by simp
 refine yQ (K:=zP uJ 1) (q6 y.cv ((List.range S.Q.n).map L.c)) fun hcv=> ?_
 replace hcv:=uK hcv
 refine SW.sub ?_ (Zh hp hx (k:=k) (L:=L) (S:=S) (y:=y) (R:=R))
 dsimp only [Zn,Zq]
 refine yQ (K:=zP qN 4) (q6 (y.cd p) x.code) fun hcd=> ?_
 refine SW.intro rfl Tryz.func185 rfl ?_
 refine O0 2 J (yW rfl rfl rfl rfl fun i5=> ?_)
 refine Z 6 J (fa J Y (yo rfl (fun _ h=>Jj rfl rfl (by decide) (by decide) h) ?_))
 refine Z1 (BF _ _ _ S y) J Y (Z 7 J (z0 (fun h16=> ?_) (fun h16=> ?_)))
 ·refine Z 4 J (Z0 (YT _ 4 (by decide)) J (Z 3 J (zE J J J ?_)))
  rw [show S.fork p x i=(YK 4,S)by unfold KS.fork;rw [to h16]]
  refine⟨_,⟨rfl,rfl⟩,Sub.trans ?_ (kern_closeP (S:=S) (S':=S) (y:=y) (y':=y) (x':=x) hp rfl (fun _=>rfl) (wE hx) (fun j _=>rfl) rfl rfl)⟩
  exact Y
 obtain⟨q,hfq,hqI,hq4,hq⟩:=na h16
 have hpq:p≠q:=fun e=>by { rw [e,hq]at hx;cases hx }
 rw [hqI]
 refine Z 8 J (fa J Y (zf rfl (fun _=>zh rfl rfl rfl (by omega) (by omega)) ?_))
 refine lf J Y (yy (p:=p) (L:=L) (S:=S) (y:=y) hp hx) (Z 1 J (fa J Y (ld J Y J (Z 1 J (je (eW _ _ (x.vm (S.W L) p) S.M S.Rf S.Ws hT hc0 (by show(3:Nat)<1099511627776;decide) (by show(13:Nat)<1099511627776;decide) (q:Nat)) rfl (fun _=>rfl) ?_)))))
 intro u29 L29 hp29
 rcases z7.fork_zero (x:=S.vs x) (W:=S.W L) (o:=(q:Nat))with⟨cf,cS,v2,hfk⟩|⟨bad,v2,hfk,hbad⟩
 ·rw [hfk]at hp29
  obtain⟨n29,rfl,rfl⟩:=hp29
  refine Z 10 J (zf rfl (fun _=>zC rfl rfl rfl (vI rfl)) (qM (by omega) ?_))
  refine Z 4 J (zO [0,0,0,0,4,20,60,124,252,508,1020,0,4092,0,16380,32764,1,65537,262143,524287] [([0,1,2,3,4,5,6,7,8,9,10,11,13,16,17],[7,10,11],some 12),([14,15,18],[],some 19),([],[],none)] (by kernel_rfl) ?_)
  refine z4 (ZK 5 J (zj J Y (vN rfl (fun _=>zh rfl rfl rfl (by omega) (by omega)) ?_)))
  refine jS J Y (yy (p:=p) (L:=L) (S:=S) (y:=y) hp hx) (ZK 1 J (zj J Y (Vl J Y Y J J (Vl J Y Y J J (ZK 2 J (zj J Y (z5 ⟨(uY J Y (yy (p:=p) (L:=L) (S:=S) (y:=y) hp hx) J (z3 _ rfl) (YC J Y Y J J J (z3 _ (ZP hcd)) (YC J Y Y J J J (z3 _ rfl) z6))),?_⟩)))))))
  refine yG (Qa _ x.w (y.cd p) x.code hcl x.pc hpc i 0) rfl (fun _=>rfl) ?_
  rintro _ _ ⟨u48,rfl,rfl⟩
  refine zF (z4 (p7 [_,_,_,_,_,_,_,_,_,_,_] J Y Y J (ky rfl rfl rfl rfl fun i51=> ?_)))
  refine vN rfl (fun _=>zh rfl rfl rfl (by omega) (by omega)) ?_
  refine z5 ⟨z6,?_⟩
  refine sF J Y J J (zF (z4 (z5 ⟨z6,?_⟩)))
  refine OX 4 J (fa J Y (lf J Y (og (L:=L) (S:=S) (y:=y) (q:=q) (v:=vp i51 0) hq4) (Z 1 J (Z1 (mP _ _ S.Q (q:Nat) (hal q hq4 hq)) J Y (Z 4 J (zR (Sub.trans (Sub.one (K:=z8) (a:=y.a p) (K2:=z8) (a2:=y.a p) (x2:=jC (x.w) (y.cd p) (x.pc)++ [vp (y.v p) 0]) fun _ e=>e) (Sub.trans (Sub.one (K:=z8) (a:=i51) (K2:=z8) (a2:=i51) (x2:=jC (qF x.w i 0) (u48) (qb x.code (x.pc+1))++ [vp (n29) 0]) fun _ e=>e) (Sub.trans (Sub.one (K:=zI) (a:=k) (K2:=zI) (a2:=k) (x2:=(18,vK (kF L S y) (q+9) (vp i51 0))) fun _ e=>e) (Sub.trans ?_ (JV (k:=k) (R:=R) (L:=L) (a:=y.a p) (v:=y.v p) (cd:=y.cd p) (X:=(x.of v2).vm (S.W L) p) (X2:=jX.mk (S.W L) (q:Nat) x.A cf [] cS) (S:=S) (S':=({ ((S.putV p x v2).setP q (some (yg.mk (qF x.w i 0) (qb x.code (x.pc+1)) x.code x.A cf [] cS)))with Q:=S.Q.wake (q:Nat) } :KS)) (y:=y) (y':=(KY.mk y.cv (fun j=>if j=q then i51 else y.a j) (fun j=>if j=q then n29 else y.v j) (fun j=>if j=q then u48 else y.cd j) y.ch)) (x':=x.of v2) (x2:=(yg.mk (qF x.w i 0) (qb x.code (x.pc+1)) x.code x.A cf [] cS)) (a2:=i51) (v2:=n29) (cd2:=u48) hp hq4 hpq (zV.wake_n S.Q (q:Nat)) (fun _=>rfl) hq (by simp only [KS.prs,KS.putV,KS.setP,if_true,if_neg hpq,if_neg (Ne.symm hpq),Option.map_some]<;>rfl) (by simp only [KS.prs,KS.putV,KS.setP,if_true,if_neg hpq,if_neg (Ne.symm hpq),Option.map_some]<;>rfl) (fun j h1 h2=>by simp only [KS.prs,KS.putV,KS.setP,if_neg h1,if_neg h2]) rfl (?_:vK (kF L S y) (q+9) (vp i51 0)=_)))))) ?_))))))
  ·exact Y
  ·rw [show(kF L S y)=kF L (S.putV p x v2) y from YL hx]
   funext j
   refine pJ (S:=S.putV p x v2) (S':=({ ((S.putV p x v2).setP q (some (yg.mk (qF x.w i 0) (qb x.code (x.pc+1)) x.code x.A cf [] cS)))with Q:=S.Q.wake (q:Nat) } :KS)) (y:=y) (y':=(KY.mk y.cv (fun j=>if j=q then i51 else y.a j) (fun j=>if j=q then n29 else y.v j) (fun j=>if j=q then u48 else y.cd j) y.ch)) hq4 (by simp only [KS.pcell,KS.setP,KS.putV,if_true]) (fun j hj=> ?_) (fun j h=> ?_) j
   ·simp only [KS.pcell,KS.setP,KS.putV,if_neg hj]
   exact We h
  refine Z 1 J (Z1 (G3 _ _ _ ({ ((S.putV p x v2).setP q (some (yg.mk (qF x.w i 0) (qb x.code (x.pc+1)) x.code x.A cf [] cS)))with Q:=S.Q.wake (q:Nat) } :KS) p) J Y (Z 4 J (zf rfl (fun _=>qT rfl rfl (yu (by omega))) ?_)))
  refine Z 3 J (zE J J J ?_)
  have hfv:z7.fork (S.vs x) S.W0 (q:Nat)=(0,some (cf,cS),v2):=hfk
  rw [show S.fork p x i=(q,({ ((S.putV p x v2).setP q (some (yg.mk (qF x.w i 0) (qb x.code (x.pc+1)) x.code x.A cf [] cS)))with Q:=S.Q.wake (q:Nat) } :KS).flush p)by unfold KS.fork;rw [hfq];simp only [hfv]]
  exact fq
 rw [hfk]at hp29
 obtain⟨rfl,rfl⟩:=hp29
 obtain⟨n,rfl,hn⟩: ∃n:Nat,bad=n∧(n=5∨n=2):=⟨bad.toNat,by omega,by omega⟩
 refine Z 10 J (zf rfl (fun _=>zC rfl rfl rfl (vI rfl)) (GM (by omega) ?_))
 refine Z 5 J (Z0 (YT _ n (by omega)) J (Z 3 J (zE J J J ?_)))
 have hfv:z7.fork (S.vs x) S.W0 (q:Nat)=(((n:Nat):Int),none,v2):=hfk
 rw [show S.fork p x i=(YK n,S.putV p x v2)by unfold KS.fork;rw [hfq];simp only [hfv];rfl]
 refine⟨_,⟨rfl,rfl⟩,Sub.trans ?_ (kern_closeP (S:=S) (S':=S.putV p x v2) (y:=y) (y':=y) (x':=x.of v2) hp rfl (fun _=>rfl) Yo (fun j hj=>QS hj) rfl (YL hx))⟩
 exact Y
theorem ep (R:List SP) (i c:Nat) (ws:List Nat) (x:Nat):zy 186 [vp i 0,vu x] (ent yh c (4,ws.map vu)::ent z8 i [.chan (some c)]::R) fun w L=>w= .bool (decide (ws.length<4))∧L=ent yh c (4,(if ws.length<4 then ws++ [x]else ws).map vu)::ent z8 i [.chan (some c)]::R:=by
 refine r8 rfl (fun h=> ?_) fun h=> ?_
 ·rw [List.length_map]at h
  rw [decide_eq_true h,if_pos h,List.map_append];exact⟨rfl,rfl⟩
 rw [List.length_map]at h
 rw [decide_eq_false (by omega),if_neg (by omega)];exact⟨rfl,rfl⟩
theorem o6 (R:List SP) (i c:Nat) (ws:List Nat):zy 188 [vp i 0] (ent yh c (4,ws.map vu)::ent z8 i [.chan (some c)]::R) fun w L=>w= .tuple [vu (ws.headD 0),.bool (!ws.isEmpty)]∧L=ent yh c (4,ws.tail.map vu)::ent z8 i [.chan (some c)]::R:=by
 cases ws with
 |nil=>exact pj rfl ⟨rfl,rfl⟩
 |cons a l=>exact db rfl ⟨rfl,rfl⟩
theorem u3 {V:Type} {c:Prop} [Decidable c] {a b:Int×V} (ha:0≤a.1∧a.1≤100) (hb:0≤b.1∧b.1≤100):0≤(if c then a else b).1∧(if c then a else b).1≤100:=by split<;>assumption
theorem jw {V:Type} {z:Int} {v:V} (h:0≤z∧z≤100):0≤((z,v):Int×V).1∧((z,v):Int×V).1≤100:=h
theorem z7.map_bd {x:z7} {inv:Bool} {o:Int} {f n r:Nat} :0≤(z7.map x inv o f n r).1∧(z7.map x inv o f n r).1≤100:=u3 (jw (by decide)) (u3 (jw (by decide)) (u3 (jw (by decide)) (jw (by decide))))
theorem z7.unmap_bd {x:z7} {inv:Bool} {f n:Nat} :0≤(z7.unmap x inv f n).1∧(z7.unmap x inv f n).1≤100:=u3 (jw (by decide)) (u3 (jw (by decide)) (jw (by decide)))
theorem z7.protect_bd {x:z7} {inv:Bool} {f n r:Nat} :0≤(z7.protect x inv f n r).1∧(z7.protect x inv f n r).1≤100:=u3 (jw (by decide)) (u3 (jw (by decide)) (jw (by decide)))
theorem z7.out_bd {x:z7} {inv:Bool} {f:Nat} :0≤(z7.out x inv f).1∧(z7.out x inv f).1≤100:=u3 (jw (by decide)) (u3 (jw (by decide)) (u3 (jw (by decide)) (u3 (jw (by decide)) (jw (by decide)))))
theorem z7.fix_bd {x:z7} {inv:Bool} {o page:Int} {w:Bool} :0≤(z7.fix x inv o page w).1∧(z7.fix x inv o page w).1≤100:=u3 (jw (by decide)) (u3 (jw (by decide)) (u3 (jw (by decide)) (u3 (jw (by decide)) (jw (by decide)))))
theorem nW (R:List SP) (k:Nat) (L:KL) (S:KS) (p:Nat) (x:yg) (hp:p<4) (hx:S.pr p=some x) (i:yl) (hw: ∀j,x.w j≤18446744073709551615) (hcl:x.code.length≤1000) (hpc: -1000000≤x.pc∧x.pc≤1000000) (hT:x.S.tables.length≤400000) (hc0: ∀z,vr S.Rf z≤1000000) (hal: ∀q:Nat,q<4→S.pr q=none→S.Q.alive (q:Nat)=false):zy 133 [vp k 0,vi p,.agg (qN i)] (ent zp k (L,S)::R) fun w L2=>w=vu (S.answer p x i).1∧L2=ent zp k (L,(S.answer p x i).2)::R:=by
 refine zS (zr k L S) fun y _=> ?_
 dsimp only [yE,List.cons_append,List.nil_append]
 have hl:((List.range S.Q.n).map L.c).length=S.Q.n:=by simp
 refine yQ (K:=zP uJ 1) (q6 y.cv ((List.range S.Q.n).map L.c)) fun hcv=> ?_
 replace hcv:=uK hcv
 refine SW.sub ?_ (Zh hp hx (k:=k) (L:=L) (S:=S) (y:=y) (R:=R))
 dsimp only [Zn,Zq]
 refine yQ (K:=zP qN 4) (q6 (y.cd p) x.code) fun hcd=> ?_
 refine SW.intro rfl Tryz.func133 rfl ?_
 refine O0 2 J (yW rfl rfl rfl rfl fun i5=> ?_)
 refine Z 3 J (zO [0,0,1,5,15,31,63,127,255,0,0,512,2560,7680,15872,32256,65024,130560,261632,0,524799,2097151] [([0,1,2,3,4,5,6,7,8,9,10,11,12,13,14,15,16,17,18,19,20],[5,8,14,18],some 21),([],[],none)] (by kernel_rfl) ?_)
 refine z4 (ZK 3 J (zj J Y (vN rfl (fun _=>zh rfl rfl rfl (by omega) (by omega)) ?_)))
 refine jS J Y (yy (p:=p) (L:=L) (S:=S) (y:=y) hp hx) (ZK 1 J (zj J Y (ye J Y J (ZK 3 J (zj J Y (vN rfl (fun _=>zh rfl rfl rfl (by omega) (by omega)) ?_))))))
 refine jS J Y (yy (p:=p) (L:=L) (S:=S) (y:=y) hp hx) (ZK 1 J (zj J Y (zj J Y (Vl J Y Y J J (Vv rfl rfl rfl fun i8=> ?_)))))
 refine ZK 1 J (z5 ⟨(uY J Y (yy (p:=p) (L:=L) (S:=S) (y:=y) hp hx) J (z3 _ rfl) (y6 J Y J J J (uY J Y (yy (p:=p) (L:=L) (S:=S) (y:=y) hp hx) J (z3 _ rfl) (YC J Y Y J J J (z3 _ rfl) z6)))),?_⟩)
 refine sN J Y Y J J J (zF (z4 (z5 ⟨z6,?_⟩)))
 refine OX 3 J (fa J Y (ld J Y J (Z 5 J (z0 (fun h33=> ?_) (fun h33=> ?_)))))
 ·refine Z 8 J (zf rfl (fun _=>zh rfl rfl rfl (by omega) (by omega)) ?_)
  refine ld J Y J (zf rfl (fun _=>zh rfl rfl rfl (by omega) (by omega)) ?_)
  refine ld J Y J (zf rfl (fun _=>zh rfl rfl rfl (by omega) (by omega)) ?_)
  refine ld J Y J (Z4 (ir _ _ (x.vm (S.W L) p) S.M S.Rf S.Ws (Nat.le_trans hT (by decide)) (x.w 0) (x.w 1) (x.w 2) (hw 0) (hw 1) (hw 2)) J Y Y Y Y ?_)
  rcases hr:z7.map (S.vs x) S.inv (p:Nat) (x.w 0) (x.w 1) (x.w 2)with⟨z,v2⟩
  have hz:0≤z∧z≤100:=by { have:=z7.map_bd (x:=S.vs x) (inv:=S.inv) (o:=(p:Nat)) (f:=x.w 0) (n:=x.w 1) (r:=x.w 2);rw [hr]at this;exact this }
  dsimp only
  refine zR (Sub.trans ?_ (kern_closeP (k:=k) (R:=R) (L:=L) (S:=S) (S':=S.putV p x v2) (y:=y) (y':=y) (x':=x.of v2) hp rfl (fun _=>rfl) Yo (fun j hj=>QS hj) rfl (YL hx))) ?_
  ·exact Y
  refine Z1 (Vk _ _ _ (S.putV p x v2) p z hz) J Y (Z 3 J (zE J J J ?_))
  rw [show S.answer p x i=(S.putV p x v2).done p z by unfold KS.answer;rw [if_pos h33];rw [hr]]
  exact fq
 refine Z 6 J (z0 (fun h46=> ?_) (fun h46=> ?_))
 ·refine Z 8 J (zf rfl (fun _=>zh rfl rfl rfl (by omega) (by omega)) ?_)
  refine ld J Y J (zf rfl (fun _=>zh rfl rfl rfl (by omega) (by omega)) ?_)
  refine ld J Y J (Z4 (c4 _ _ (x.vm (S.W L) p) S.M S.Rf S.Ws (Nat.le_trans hT (by decide)) (x.w 0) (x.w 1) (hw 0) (hw 1)) J Y Y Y Y ?_)
  rcases hr:z7.unmap (S.vs x) S.inv (x.w 0) (x.w 1)with⟨z,v2⟩
  have hz:0≤z∧z≤100:=by { have:=z7.unmap_bd (x:=S.vs x) (inv:=S.inv) (f:=x.w 0) (n:=x.w 1);rw [hr]at this;exact this }
  dsimp only
  refine zR (Sub.trans ?_ (kern_closeP (k:=k) (R:=R) (L:=L) (S:=S) (S':=S.putV p x v2) (y:=y) (y':=y) (x':=x.of v2) hp rfl (fun _=>rfl) Yo (fun j hj=>QS hj) rfl (YL hx))) ?_
  ·exact Y
  refine Z1 (Vk _ _ _ (S.putV p x v2) p z hz) J Y (Z 3 J (zE J J J ?_))
  rw [show S.answer p x i=(S.putV p x v2).done p z by unfold KS.answer;rw [if_neg h33,if_pos h46];rw [hr]]
  exact fq
 refine Z 6 J (z0 (fun h57=> ?_) (fun h57=> ?_))
 ·refine Z 8 J (zf rfl (fun _=>zh rfl rfl rfl (by omega) (by omega)) ?_)
  refine ld J Y J (zf rfl (fun _=>zh rfl rfl rfl (by omega) (by omega)) ?_)
  refine ld J Y J (zf rfl (fun _=>zh rfl rfl rfl (by omega) (by omega)) ?_)
  refine ld J Y J (Z4 (dm _ _ (x.vm (S.W L) p) S.M S.Rf S.Ws (Nat.le_trans hT (by decide)) (x.w 0) (x.w 1) (x.w 2) (hw 0) (hw 1) (hw 2)) J Y Y Y Y ?_)
  rcases hr:z7.protect (S.vs x) S.inv (x.w 0) (x.w 1) (x.w 2)with⟨z,v2⟩
  have hz:0≤z∧z≤100:=by { have:=z7.protect_bd (x:=S.vs x) (inv:=S.inv) (f:=x.w 0) (n:=x.w 1) (r:=x.w 2);rw [hr]at this;exact this }
  dsimp only
  refine zR (Sub.trans ?_ (kern_closeP (k:=k) (R:=R) (L:=L) (S:=S) (S':=S.putV p x v2) (y:=y) (y':=y) (x':=x.of v2) hp rfl (fun _=>rfl) Yo (fun j hj=>QS hj) rfl (YL hx))) ?_
  ·exact Y
  refine Z1 (Vk _ _ _ (S.putV p x v2) p z hz) J Y (Z 3 J (zE J J J ?_))
  rw [show S.answer p x i=(S.putV p x v2).done p z by unfold KS.answer;rw [if_neg h33,if_neg h46,if_pos h57];rw [hr]]
  exact fq
 refine Z 6 J (z0 (fun h70=> ?_) (fun h70=> ?_))
 ·refine Z 8 J (zf rfl (fun _=>zh rfl rfl rfl (by omega) (by omega)) ?_)
  refine ld J Y J (Z4 (An _ _ (x.vm (S.W L) p) S.M S.Rf S.Ws (Nat.le_trans hT (by decide)) (x.w 0) (hw 0)) J Y Y Y Y ?_)
  rcases hr:z7.out (S.vs x) S.inv (x.w 0)with⟨z,v2⟩
  have hz:0≤z∧z≤100:=by { have:=z7.out_bd (x:=S.vs x) (inv:=S.inv) (f:=x.w 0);rw [hr]at this;exact this }
  dsimp only
  refine zR (Sub.trans ?_ (kern_closeP (k:=k) (R:=R) (L:=L) (S:=S) (S':=S.putV p x v2) (y:=y) (y':=y) (x':=x.of v2) hp rfl (fun _=>rfl) Yo (fun j hj=>QS hj) rfl (YL hx))) ?_
  ·exact Y
  refine Z1 (Vk _ _ _ (S.putV p x v2) p z hz) J Y (Z 3 J (zE J J J ?_))
  rw [show S.answer p x i=(S.putV p x v2).done p z by unfold KS.answer;rw [if_neg h33,if_neg h46,if_neg h57,if_pos h70];rw [hr]]
  exact fq
 refine Z 6 J (z0 (fun h79=> ?_) (fun h79=> ?_))
 ·refine Z 7 J (lN J Y Y J J (zR (Sub.trans ?_ (kern_closeP (k:=k) (R:=R) (L:=L) (S:=S) (S':=S) (y:=y) (y':=y) (x':=x) hp rfl (fun _=>rfl) (wE hx) (fun j _=>rfl) rfl rfl)) ?_))
  ·exact Y
  refine Z1 (sE _ _ _ S p x hp hx i hcl hpc hT hc0 hal) J Y (Z 3 J (zE J J J ?_))
  rw [show S.answer p x i=S.fork p x i by unfold KS.answer;rw [if_neg h33,if_neg h46,if_neg h57,if_neg h70,if_pos h79]]
  exact fq
 refine Z 6 J (z0 (fun h85=> ?_) (fun h85=> ?_))
 ·refine Z 4 J (zO [0,1,3,7,0,16,63,127] [([0,1,2,3,4,5],[3,5],some 6),([7],[],none)] (by kernel_rfl) ?_)
  refine z4 (ZK 2 J (zj J Y (jS J Y l8 (vN rfl (fun _=>zh rfl rfl rfl (by omega) (by omega)) ?_))))
  refine ye J Y J (z5 ⟨(uY J Y l8 J (z3 _ rfl) (y6 J Y J J J z6)),?_⟩)
  refine Z2 (ep _ L.pp y.ch S.ww _) J Y Y (zN (fun h92=> ?_) (fun h92=> ?_))
  ·refine zF (z4 (ZK 1 J (z5 ⟨z6,?_⟩)))
   refine OX 7 J (zE J J J ?_)
   have hlt:S.ww.length<4:=of_decide_eq_true (by assumption)
   rw [show S.answer p x i=(0,({ S with ww:=S.ww++ [x.w 0] } :KS))by unfold KS.answer;rw [if_neg h33,if_neg h46,if_neg h57,if_neg h70,if_neg h79,if_pos h85];exact if_pos hlt]
   rw [if_pos hlt]
   refine⟨_,⟨rfl,rfl⟩,Sub.trans ?_ (kern_closeP (k:=k) (R:=R) (L:=L) (S:=S) (S':=({ S with ww:=S.ww++ [x.w 0] } :KS)) (y:=y) (y':=y) (x':=x) hp rfl (fun _=>rfl) (wE hx) (fun j _=>rfl) rfl (show kF L S y=kF L ({ S with ww:=S.ww++ [x.w 0] } :KS) y from rfl))⟩
   exact Y
  refine zF (z4 (ZK 1 J (z5 ⟨z6,?_⟩)))
  refine OX 3 J (Z0 (YT _ 4 (by decide)) J (Z 3 J (zE J J J ?_)))
  have hlt: ¬S.ww.length<4:=of_decide_eq_false (by assumption)
  rw [show S.answer p x i=(YK 4,S)by unfold KS.answer;rw [if_neg h33,if_neg h46,if_neg h57,if_neg h70,if_neg h79,if_pos h85];exact if_neg hlt]
  rw [if_neg hlt]
  refine⟨_,⟨rfl,rfl⟩,Sub.trans ?_ (kern_closeP (k:=k) (R:=R) (L:=L) (S:=S) (S':=S) (y:=y) (y':=y) (x':=x) hp rfl (fun _=>rfl) (wE hx) (fun j _=>rfl) rfl (show kF L S y=kF L S y from rfl))⟩
  exact Y
 refine Z 6 J (z0 (fun h96=> ?_) (fun h96=> ?_))
 ·refine Z 7 J (fa J Y (lf J Y l8 (Z2 (o6 _ L.pp y.ch S.ww) J Y Y ?_)))
  rcases hww:S.ww with _|⟨wa,wl⟩
  ·refine Z 15 J (Z0 (YT _ 4 (by decide)) J (Z 3 J (zE J J J ?_)))
   rw [show S.answer p x i=(YK 4,S)by unfold KS.answer;rw [if_neg h33,if_neg h46,if_neg h57,if_neg h70,if_neg h79,if_neg h85,if_pos h96];rw [hww]]
   refine⟨_,⟨rfl,rfl⟩,Sub.trans (Sub.one (K:=yh) (a:=y.ch) (K2:=yh) (a2:=y.ch) (x2:=(4,S.ww.map vu)) fun _ e=>by rw [hww];exact e) (Sub.trans ?_ (kern_closeP (k:=k) (R:=R) (L:=L) (S:=S) (S':=S) (y:=y) (y':=y) (x':=x) hp rfl (fun _=>rfl) (wE hx) (fun j _=>rfl) rfl (show kF L S y=kF L S y from rfl)))⟩
   exact Y
  refine Z 20 J (zE J J J ?_)
  rw [show S.answer p x i=(wa,({ S with ww:=wl } :KS))by unfold KS.answer;rw [if_neg h33,if_neg h46,if_neg h57,if_neg h70,if_neg h79,if_neg h85,if_pos h96];rw [hww]]
  refine⟨_,⟨rfl,rfl⟩,Sub.trans (Sub.one (K:=yh) (a:=y.ch) (K2:=yh) (a2:=y.ch) (x2:=(4,wl.map vu)) fun _ e=>e) (Sub.trans ?_ (kern_closeP (k:=k) (R:=R) (L:=L) (S:=S) (S':=({ S with ww:=wl } :KS)) (y:=y) (y':=y) (x':=x) hp rfl (fun _=>rfl) (wE hx) (fun j _=>rfl) rfl (show kF L S y=kF L ({ S with ww:=wl } :KS) y from rfl)))⟩
  exact Y
 refine Z 9 J (zE J J J ?_)
 rw [show S.answer p x i=(0,S)by unfold KS.answer;rw [if_neg h33,if_neg h46,if_neg h57,if_neg h70,if_neg h79,if_neg h85,if_neg h96]]
 refine⟨_,⟨rfl,rfl⟩,Sub.trans ?_ (kern_closeP (k:=k) (R:=R) (L:=L) (S:=S) (S':=S) (y:=y) (y':=y) (x':=x) hp rfl (fun _=>rfl) (wE hx) (fun j _=>rfl) rfl rfl)⟩
 exact Y
def qe (R:List (Int×Int)) (B:Int):Prop:= ∀z,vr R z≤B
structure z7.Gr (x y:z7) (k:Nat):Prop where
 t:y.S.tables.length≤x.S.tables.length+k
 c: ∀B:Int,1≤B→qe x.s.R B→qe y.s.R B
 s:y.S.kernel=x.S.kernel∧y.S.user=x.S.user
theorem z7.Gr.refl (x:z7):x.Gr x 0:=⟨Nat.le_refl _,fun _ _ h=>h,rfl,rfl⟩
theorem z7.Gr.trans {x y z:z7} {k j:Nat} (h:x.Gr y k) (g:y.Gr z j):x.Gr z (k+j):=⟨by have:=h.t;have:=g.t;omega,fun B hB hx=>g.c B hB (h.c B hB hx),g.s.1.trans h.s.1,g.s.2.trans h.s.2⟩
theorem z7.Gr.mono {x y:z7} {k j:Nat} (h:x.Gr y k) (hk:k≤j):x.Gr y j:=⟨by have:=h.t;omega,h.c,h.s⟩
theorem Zx {s:PM} {B:Int} (hB:1≤B) (h:qe s.R B) (c w:Int):qe (s.take c w).R B:=QV h hB c w
theorem UP {s:PM} {B:Int} (h:qe s.R B) (z:Int):qe (s.give z).R B:=by
 intro y
 unfold PM.give
 split
 ·exact h y
 show vr (insi s.R z (vr s.R z-1)) y≤B
 rw [Y1]
 have:=h z;have:=h y
 split<;>omega
theorem nT {s:PM} {B:Int} (h:qe s.R B) (z:Int):qe (s.share z).R (B+1):=by
 intro y
 rw [Jx]
 split
 ·have:=h y;omega
 rw [Y1]
 have:=h z;have:=h y
 split<;>omega
theorem Zz {s:PM} {B:Int} (hB:1≤B) (h:qe s.R B) (S:zm) (page:Int) (x:Nat):qe (s.setPage S page x).1.R B:=by
 have h1: ∀(s:PM) (S:zm) (p:Nat),qe s.R B→qe (VR s S p).1.R B:=by
  intro s S p h;unfold VR;split
  ·exact Zx (s:=s) hB h 1 S.owner
  exact h
 have h2: ∀(s:PM) (S:zm) (p:Nat),qe s.R B→qe (xz s S p).1.R B:=by
  intro s S p h;unfold xz;split
  ·exact Zx (s:=s) hB h 1 S.owner
  exact h
 unfold PM.setPage
 split
 ·unfold da;exact h2 _ _ _ (h1 _ _ _ h)
 exact h
theorem ZW (s:PM) (S:zm) (page:Int) (x:Nat):(s.setPage S page x).2.kernel=S.kernel∧(s.setPage S page x).2.user=S.user∧(s.setPage S page x).2.tables.length≤S.tables.length+2:=by
 unfold PM.setPage
 split
 ·unfold da
  have a:=rM s S page.toNat
  have b:=ry (VR s S page.toNat).1 (VR s S page.toNat).2 page.toNat
  exact⟨b.2.1.trans a.2.1,b.2.2.1.trans a.2.2.1,by have:=a.2.2.2;have:=b.2.2.2;show(xz (VR s S page.toNat).1 (VR s S page.toNat).2 page.toNat).2.tables.length≤_;omega⟩
 exact⟨rfl,rfl,by show S.tables.length≤_;omega⟩
theorem z7.Gr.tell (x:z7) (inv:Bool) (page:Int):x.Gr (x.tell inv page) 2:=by
 have a:=ZW x.s x.S page (wm x.A x.fm x.sm x.s.R inv page)
 exact⟨a.2.2,fun B hB h=>Zz hB h _ _ _,a.1,a.2.1⟩
theorem z7.Gr.loose (x:z7) (page:Int):x.Gr (x.loose page) 0:=by
 refine⟨Nat.le_refl _,fun B hB h=> ?_,rfl,rfl⟩
 show qe (GJ.loose _ _).s.R B
 unfold GJ.loose
 split
 ·exact h
 exact UP h _
theorem z7.Gr.less (x:z7) (inv:Bool) (page:Int):x.Gr (x.less inv page) 2:=(z7.Gr.loose x page).trans (z7.Gr.tell _ inv page)|>.mono (by omega)
theorem z7.Gr.fold (f:z7→Int→z7) (k:Nat) (hf: ∀(x:z7) (p:Int),x.Gr (f x p) k): ∀(l:List Int) (x:z7),x.Gr (l.foldl f x) (k*l.length):=by
 intro l
 induction l with
 |nil=>intro x;exact .refl x
 |cons p l ih=>
  intro x
  exact((hf x p).trans (ih _)).mono (by rw [List.length_cons,Nat.mul_succ];omega)
theorem z7.Gr.setA {x:z7} (A:Nat→Int):x.Gr { x with A:=A } 0:=⟨Nat.le_refl _,fun _ _ h=>h,rfl,rfl⟩
theorem z7.Gr.took (x:z7) (o page:Int):x.Gr { x with fm:=insi x.fm page (x.s.got:Nat),s:=x.s.take 2 o } 0:=⟨Nat.le_refl _,fun B hB h=>Zx hB h _ _,rfl,rfl⟩
theorem z7.Gr.more (x:z7) (inv:Bool) (o page:Int):x.Gr (z7.more inv o x page) 2:=(z7.Gr.took x o page).trans (z7.Gr.tell _ inv page)|>.mono (by omega)
theorem Wn {f n:Int} (h:qA f n):(zM f n).length≤256:=by
 unfold zM;rw [List.length_map,List.length_range];obtain⟨_,_,_,_⟩:=h;omega
theorem z7.Gr.map (x:z7) (inv:Bool) (o:Int) (f n r:Nat):x.Gr (z7.map x inv o f n r).2 600:=by
 unfold z7.map
 split
 ·exact(z7.Gr.refl x).mono (by omega)
 split
 ·exact(z7.Gr.refl x).mono (by omega)
 rename_i h
 split
 ·exact(z7.Gr.refl x).mono (by omega)
 have hl:=Wn (Gq (Classical.not_not.1 h))
 exact((z7.Gr.setA (x:=x) _).trans (z7.Gr.fold _ 2 (fun x p=>z7.Gr.more x inv o p) _ _)).mono (by omega)
theorem z7.Gr.unmap (x:z7) (inv:Bool) (f n:Nat):x.Gr (z7.unmap x inv f n).2 600:=by
 unfold z7.unmap
 split
 ·exact(z7.Gr.refl x).mono (by omega)
 split
 ·exact(z7.Gr.setA (x:=x) _).mono (by omega)
 rename_i h
 have hl:=Wn (bc (Classical.not_not.1 h))
 exact((z7.Gr.setA (x:=x) _).trans (z7.Gr.fold _ 2 (fun x p=>z7.Gr.less x inv p) _ _)).mono (by omega)
theorem z7.Gr.protect (x:z7) (inv:Bool) (f n r:Nat):x.Gr (z7.protect x inv f n r).2 600:=by
 unfold z7.protect
 split
 ·exact(z7.Gr.refl x).mono (by omega)
 split
 ·exact(z7.Gr.setA (x:=x) _).mono (by omega)
 rename_i h
 have hl:=Wn (VL (Classical.not_not.1 h))
 exact((z7.Gr.setA (x:=x) _).trans (z7.Gr.fold (fun y p=>y.tell inv p) 2 (fun x p=>z7.Gr.tell x inv p) _ _)).mono (by omega)
theorem z7.Gr.out (x:z7) (inv:Bool) (page:Nat):x.Gr (z7.out x inv page).2 600:=by
 unfold z7.out
 split
 ·exact(z7.Gr.refl x).mono (by omega)
 split
 ·exact(z7.Gr.refl x).mono (by omega)
 split
 ·exact(z7.Gr.refl x).mono (by omega)
 split
 ·exact(z7.Gr.refl x).mono (by omega)
 generalize ((ym x.fm (page:Int)).getD 0)=g
 have h1:x.Gr ({ x with w:=Yx x.w x.s.M g } :z7) 0:=⟨Nat.le_refl _,fun _ _ h=>h,rfl,rfl⟩
 have h2:=z7.Gr.loose ({ x with w:=Yx x.w x.s.M g } :z7) (page:Int)
 have h3:(({ x with w:=Yx x.w x.s.M g } :z7).loose (page:Int)).Gr { (({ x with w:=Yx x.w x.s.M g } :z7).loose (page:Int))with sm:=insi (({ x with w:=Yx x.w x.s.M g } :z7).loose (page:Int)).sm (page:Int) (dg x.w x.s.M g:Nat) } 0:=⟨Nat.le_refl _,fun _ _ h=>h,rfl,rfl⟩
 exact(((h1.trans h2).trans h3).trans (z7.Gr.tell _ inv page)).mono (by omega)
theorem z7.Gr.bring (x:z7) (inv:Bool) (o page slot:Int):x.Gr (x.bring inv o page slot).2 2:=by
 by_cases h:x.s.M.first.isSome
 ·have e:(x.bring inv o page slot).2=({ x with fm:=insi x.fm page (x.s.got:Nat),sm:=Zy x.sm page,s:=⟨(Yv x.w (x.s.take 2 o).M slot (x.s.got:Nat)).2.2,(x.s.take 2 o).R⟩,w:=(Yv x.w (x.s.take 2 o).M slot (x.s.got:Nat)).2.1 } :z7).tell inv page:=congrArg Prod.snd (if_pos h)
  rw [e]
  have h1:x.Gr ({ x with fm:=insi x.fm page (x.s.got:Nat),sm:=Zy x.sm page,s:=⟨(Yv x.w (x.s.take 2 o).M slot (x.s.got:Nat)).2.2,(x.s.take 2 o).R⟩,w:=(Yv x.w (x.s.take 2 o).M slot (x.s.got:Nat)).2.1 } :z7) 0:=⟨Nat.le_refl _,fun B hB h=>Zx (s:=x.s) hB h 2 o,rfl,rfl⟩
  exact(h1.trans (z7.Gr.tell _ inv page)).mono (by omega)
 have e:(x.bring inv o page slot).2=x:=congrArg Prod.snd (if_neg h)
 rw [e]
 exact(z7.Gr.refl x).mono (by omega)
theorem cB {fm:List (Int×Int)} {s:PM} {B:Int} (hB:1≤B) (h:qe s.R B) (o page:Int):qe (vJ fm s o page).2.2.R B:=by
 by_cases hs:s.M.first.isSome
 ·have e:(vJ fm s o page).2.2=PM.give ⟨(s.take 2 o).M.copy (mAt fm page:Nat) (s.got:Nat),(s.take 2 o).R⟩ (mAt fm page:Nat):=congrArg (fun q:Bool×List (Int×Int)×PM=>q.2.2) (if_pos hs)
  rw [e]
  exact UP (s:=PM.mk ((s.take 2 o).M.copy (mAt fm page:Nat) (s.got:Nat)) (s.take 2 o).R) (Zx hB h 2 o) _
 have e:(vJ fm s o page).2.2=s:=congrArg (fun q:Bool×List (Int×Int)×PM=>q.2.2) (if_neg hs)
 rw [e];exact h
theorem z7.Gr.part (x:z7) (o page:Int):x.Gr (x.part o page).2 0:=⟨Nat.le_refl _,fun _ hB h=>cB hB h o page,rfl,rfl⟩
theorem mH {x:z7} {inv:Bool} {page:Int} {k:Nat} (q:Bool×z7) (h:x.Gr q.2 k) (f:z7→Int×z7) (hf: ∀y,x.Gr y k→x.Gr (f y).2 (k+2)):x.Gr (if q.1=false then(5,q.2)else f q.2).2 (k+2):=by
 split
 ·exact h.mono (by omega)
 exact hf _ h
theorem z7.Gr.fix3 (x:z7) (inv:Bool) (o page:Int) (write:Bool):x.Gr (x.fix3 inv o page write).2 2:=by
 have h:x.Gr (if write=true∧1<vr x.s.R ((ym x.fm page).getD 0)then x.part o page else(true,x)).2 0:=by
  split
  ·exact z7.Gr.part x o page
  exact z7.Gr.refl x
 exact mH (inv:=inv) (page:=page) _ h (fun y=>(0,y.tell inv page)) fun y hy=>hy.trans (z7.Gr.tell y inv page)
theorem z7.Gr.fix (x:z7) (inv:Bool) (o page:Int) (write:Bool):x.Gr (x.fix inv o page write).2 600:=by
 unfold z7.fix
 split
 ·exact(z7.Gr.refl x).mono (by omega)
 split
 ·exact(z7.Gr.refl x).mono (by omega)
 have h:x.Gr (if(ym x.sm page).isSome then x.bring inv o page ((ym x.sm page).getD 0)else(true,x)).2 2:=by
  split
  ·exact z7.Gr.bring x inv o page _
  exact(z7.Gr.refl x).mono (by omega)
 exact(mH (inv:=inv) (page:=page) _ h (fun y=>y.fix3 inv o page write) fun y hy=>hy.trans (z7.Gr.fix3 y inv o page write)).mono (by omega)
theorem xE (x:z7) (B:Int) (hB:1≤B) (h:qe x.s.R B):qe (z7.drop x).s.R B:=by
 unfold z7.drop
 have h1:=(z7.Gr.fold z7.loose 0 (fun x p=>z7.Gr.loose x p) (zD x.A 256) x).c B hB h
 have h2: ∀(l:List Int) (s:PM),qe s.R B→qe (l.foldl PM.give s).R B:=by
  intro l
  induction l with
  |nil=>intro s h;exact h
  |cons z l ih=>intro s h;exact ih _ (UP h z)
 exact h2 _ _ h1
theorem cT (x:z7) (W:Wd) (o:Int) (B:Int) (hB:1≤B) (h:qe x.s.R B):qe (z7.fork x W o).2.2.s.R (B+300):=by
 have up: ∀ {R:List (Int×Int)},qe R B→qe R (B+300):=fun h z=>by have:=h z;omega
 unfold z7.fork
 split
 ·exact up h
 split
 ·exact up h
 rename_i s1 S1 hs
 have hc:qe s1.R B:=WJ hs h hB
 dsimp only
 split
 ·exact up (xE _ B hB hc)
 have hlen:=gO x.A 256
 have e1: ∀(l:List Int) (y:qi) (D:Int),qe y.s.R D→qe (l.foldl (qi.share x.fm) y).s.R (D+l.length):=by
  intro l
  induction l with
  |nil=>intro y D h z;have:=h z;simp only [List.foldl_nil,List.length_nil];omega
  |cons p l ih=>
   intro y D h z
   have:=ih (qi.share x.fm y p) (D+1) (nT h _) z
   rw [List.foldl_cons,List.length_cons];push_cast;omega
 have e2: ∀(l:List Int) (y:qi) (D:Int),1≤D→qe y.s.R D→qe (l.foldl (qi.both x.A x.fm x.sm x.w W.inv) y).s.R D:=by
  intro l
  induction l with
  |nil=>intro y D _ h;exact h
  |cons p l ih=>
   intro y D hD h
   exact ih _ D hD (Zz hD (Zz hD h _ _ _) _ _ _)
 have hf:=e1 (zD x.A 256) ⟨[],S1,x.S,s1⟩ B hc
 have hg:=e2 (zD x.A 256) ((zD x.A 256).foldl (qi.share x.fm) ⟨[],S1,x.S,s1⟩) (B+300) (by omega) (fun z=>by have:=hf z;omega)
 exact hg
theorem bB (x:z7) (W:Wd) (o:Int):(z7.fork x W o).2.2.S.tables.length≤x.S.tables.length+600∧(∀r,(z7.fork x W o).2.1=some r→r.2.tables.length≤600)∧(z7.fork x W o).2.2.S.kernel=x.S.kernel∧(z7.fork x W o).2.2.S.user=x.S.user:=by
 unfold z7.fork
 split
 ·exact⟨by show x.S.tables.length≤_;omega,fun _ h=>(by cases h),rfl,rfl⟩
 split
 ·exact⟨by show x.S.tables.length≤_;omega,fun _ h=>(by cases h),rfl,rfl⟩
 rename_i s1 S1 hs
 have hsl:=Wj hs
 dsimp only
 split
 ·exact⟨by show x.S.tables.length≤_;omega,fun _ h=>(by cases h),rfl,rfl⟩
 have hlen:=gO x.A 256
 have e1: ∀(l:List Int) (y:qi),(l.foldl (qi.share x.fm) y).cS=y.cS∧(l.foldl (qi.share x.fm) y).pS=y.pS:=by
  intro l
  induction l with
  |nil=>intro y;exact⟨rfl,rfl⟩
  |cons p l ih=>intro y;exact ih _
 have e2: ∀(l:List Int) (y:qi),(l.foldl (qi.both x.A x.fm x.sm x.w W.inv) y).cS.tables.length≤y.cS.tables.length+2*l.length∧(l.foldl (qi.both x.A x.fm x.sm x.w W.inv) y).pS.tables.length≤y.pS.tables.length+2*l.length∧(l.foldl (qi.both x.A x.fm x.sm x.w W.inv) y).pS.kernel=y.pS.kernel∧(l.foldl (qi.both x.A x.fm x.sm x.w W.inv) y).pS.user=y.pS.user:=by
  intro l
  induction l with
  |nil=>intro y;exact⟨by simp,by simp,rfl,rfl⟩
  |cons p l ih=>
   intro y
   obtain⟨a,b,c,d⟩:=ih (qi.both x.A x.fm x.sm x.w W.inv y p)
   have g1:=ZW y.s y.cS p (wm x.A y.cf [] y.s.R W.inv p)
   have g2:=ZW (y.s.setPage y.cS p (wm x.A y.cf [] y.s.R W.inv p)).1 y.pS p (wm x.A x.fm x.sm (y.s.setPage y.cS p (wm x.A y.cf [] y.s.R W.inv p)).1.R W.inv p)
   refine⟨?_,?_,c.trans g2.1,d.trans g2.2.1⟩
   ·rw [List.foldl_cons,List.length_cons]
    have:(qi.both x.A x.fm x.sm x.w W.inv y p).cS.tables.length≤y.cS.tables.length+2:=g1.2.2
    omega
   rw [List.foldl_cons,List.length_cons]
   have:(qi.both x.A x.fm x.sm x.w W.inv y p).pS.tables.length≤y.pS.tables.length+2:=g2.2.2
   omega
 obtain⟨a,b,c,d⟩:=e2 (zD x.A 256) ((zD x.A 256).foldl (qi.share x.fm) ⟨[],S1,x.S,s1⟩)
 obtain⟨f1,f2⟩:=e1 (zD x.A 256) ⟨[],S1,x.S,s1⟩
 rw [f1]at a;rw [f2]at b c d
 refine⟨?_,fun r h=> ?_,c,d⟩
 ·dsimp only at b ⊢;omega
 cases h
 dsimp only at a ⊢;omega
theorem Gw {S:zV} {p:Int} (hp:0≤p∧p<4): ∀ {k c:Nat},S.find p c k<0→ ∀d,c≤d→d<c+k→S.on d≠p:=by
 intro k
 induction k with
 |zero=>intro c _ d h1 h2;omega
 |succ k ih=>
  intro c h d h1 h2
  unfold zV.find at h
  split at h
  ·omega
  rename_i hn
  rcases Nat.eq_or_lt_of_le h1 with rfl|h1
  ·intro e;exact hn ⟨e,hp.1,hp.2⟩
  exact ih h d h1 (by omega)
theorem nM {S:zV} {p:Int} : ∀ {k c:Nat},0≤S.find p c k→S.on (S.find p c k).toNat=p∧(S.find p c k).toNat<c+k:=by
 intro k
 induction k with
 |zero=>intro c h;unfold zV.find at h;omega
 |succ k ih=>
  intro c h
  unfold zV.find at h ⊢
  split
  ·rename_i hc
   exact⟨by show S.on c=p;exact hc.1,by show c<_;omega⟩
  rename_i hn
  rw [if_neg hn]at h
  have:=ih h
  exact⟨this.1,by omega⟩
structure zV.Good (S:zV):Prop where
 on: ∀d,d<S.n→0≤S.on d→S.on d<4∧S.al (S.on d).toNat=true
 ds: ∀d e,d<S.n→e<S.n→S.on d=S.on e→0≤S.on d→d=e
theorem zV.pick_al (S:zV) (c:Int):(S.pick c).2.al=S.al:=by
 unfold zV.pick
 split
 ·dsimp only;split<;>rfl
 rfl
theorem zV.pick_n (S:zV) (c:Int):(S.pick c).2.n=S.n:=by
 unfold zV.pick
 split
 ·dsimp only;split<;>rfl
 rfl
theorem bj {S:zV} {l:Int} : ∀ {k i:Nat} {p:Int},S.nextUp l i k=some p→0≤p∧p<4∧S.al p.toNat=true∧S.wher p<0:=by
 intro k
 induction k with
 |zero=>intro i p h;unfold zV.nextUp at h;cases h
 |succ k ih=>
  intro i p h
  unfold zV.nextUp at h
  split at h
  ·rename_i hc
   cases h
   exact⟨by omega,by omega,hc.1,hc.2⟩
  exact ih h
theorem zV.pick_on (S:zV) (c:Nat) (hc:c<S.n):(∀d,d≠c→(S.pick c).2.on d=S.on d)∧(S.pick c).2.on c=(S.pick c).1∧((S.pick c).1= -1∨(0≤(S.pick c).1∧(S.pick c).1<4∧S.al (S.pick c).1.toNat=true∧ ∀d,d<S.n→d≠c→S.on d≠(S.pick c).1)):=by
 unfold zV.pick
 rw [if_pos (by omega)]
 dsimp only
 cases h:(S.setOn (c:Int).toNat (-1)).nextUp (S.last (c:Int).toNat) 0 4 with
 |none=>exact⟨fun d hd=>by show(if d=(c:Int).toNat then _ else S.on d)=_;rw [if_neg (by omega)],by show(if c=(c:Int).toNat then _ else S.on c)=_;rw [if_pos (by omega)],.inl rfl⟩
 |some p=>
  obtain⟨h1,h2,h3,h4⟩:=bj h
  refine⟨fun d hd=> ?_,?_,.inr ⟨h1,h2,h3,fun d hd hdc=> ?_⟩⟩
  ·show(if d=(c:Int).toNat then p else if d=(c:Int).toNat then-1 else S.on d)=S.on d
   rw [if_neg (by omega),if_neg (by omega)]
  ·show(if c=(c:Int).toNat then p else if c=(c:Int).toNat then-1 else S.on c)=p
   rw [if_pos (by omega)]
  have:=Gw (S:=S.setOn (c:Int).toNat (-1)) ⟨h1,h2⟩ h4 d (by omega) (by show d<0+S.n;omega)
  intro e
  apply this
  show(if d=(c:Int).toNat then-1 else S.on d)=p
  rw [if_neg (by omega)];exact e
theorem zV.Good.pick {S:zV} (h:S.Good) (c:Nat) (hc:c<S.n):(S.pick c).2.Good:=by
 obtain⟨h1,h2,h3⟩:=S.pick_on c hc
 have hal:=S.pick_al c
 have hn:=S.pick_n c
 refine⟨fun d hd h0=> ?_,fun d e hd he hde h0=> ?_⟩
 ·rw [hn]at hd
  rw [hal]
  by_cases e:d=c
  ·subst e
   rw [h2]at h0 ⊢
   rcases h3 with h3|h3
   ·omega
   exact⟨h3.2.1,h3.2.2.1⟩
  rw [h1 d e]at h0 ⊢
  exact h.on d hd h0
 rw [hn]at hd he
 by_cases a:d=c
 ·by_cases b:e=c
  ·omega
  subst a
  rw [h2]at hde h0
  rw [h1 e b]at hde
  rcases h3 with h3|h3
  ·omega
  exact absurd hde.symm (h3.2.2.2 e he b)
 by_cases b:e=c
 ·subst b
  rw [h2,h1 d a]at hde
  rw [h1 d a]at h0
  rcases h3 with h3|h3
  ·omega
  exact absurd hde (h3.2.2.2 d hd a)
 rw [h1 d a,h1 e b]at hde
 rw [h1 d a]at h0
 exact h.ds d e hd he hde h0
theorem zV.Good.wake {S:zV} (h:S.Good) (p:Int):(S.wake p).Good:=by
 unfold zV.wake
 split
 ·refine⟨fun d hd h0=>⟨(h.on d hd h0).1,?_⟩,h.ds⟩
  show(if(S.on d).toNat=p.toNat then true else S.al (S.on d).toNat)=true
  split
  ·rfl
  exact(h.on d hd h0).2
 exact h
theorem zV.fin_n (S:zV) (p:Int):(S.fin p).n=S.n:=by
 unfold zV.fin
 split
 ·dsimp only;split<;>rfl
 rfl
theorem zV.fin_al (S:zV) (p:Nat) (hp:S.alive (p:Nat)=true):(S.fin (p:Nat)).al=fun q=>if q=p then false else S.al q:=by
 unfold zV.fin
 rw [if_pos hp]
 dsimp only;split<;>rfl
theorem zV.fin_on (S:zV) (h:S.Good) (p:Nat) (hp:S.alive (p:Nat)=true): ∀d,d<S.n→(S.fin (p:Nat)).on d=if S.on d=(p:Nat)then-1 else S.on d:=by
 have hp4:0≤((p:Nat):Int)∧((p:Nat):Int)<4:=by
  unfold zV.alive at hp
  rw [Bool.and_eq_true]at hp
  exact of_decide_eq_true hp.1
 intro d hd
 unfold zV.fin
 rw [if_pos hp]
 dsimp only
 split
 ·rename_i h0
  obtain⟨g1,g2⟩:=nM (S:=S.setAl (p:Int).toNat false) h0
  have g1:S.on ((S.setAl (p:Int).toNat false).wher p).toNat=(p:Nat):=g1
  have g2:((S.setAl (p:Int).toNat false).wher p).toNat<0+S.n:=g2
  show(if d=((S.setAl (p:Int).toNat false).wher p).toNat then-1 else S.on d)=_
  by_cases e:d=((S.setAl (p:Int).toNat false).wher p).toNat
  ·rw [if_pos e,if_pos (by rw [e];exact g1)]
  rw [if_neg e,if_neg (fun e2=>e (h.ds _ _ hd (by omega) (e2.trans g1.symm) (by omega)))]
 rename_i h0
 have:=Gw (S:=S.setAl (p:Int).toNat false) hp4 (by show zV.wher _ _<0;omega) d (by omega) (by show d<0+S.n;omega)
 rw [if_neg this]
theorem zV.Good.fin {S:zV} (h:S.Good) (p:Nat) (hp:S.alive (p:Nat)=true):(S.fin (p:Nat)).Good:=by
 have hn:=S.fin_n (p:Nat)
 have ha:=S.fin_al p hp
 have ho:=S.fin_on h p hp
 refine⟨fun d hd h0=> ?_,fun d e hd he hde h0=> ?_⟩
 ·rw [hn]at hd
  rw [ho d hd]at h0 ⊢
  by_cases e:S.on d=(p:Nat)
  ·rw [if_pos e]at h0;omega
  rw [if_neg e]at h0 ⊢
  have:=h.on d hd h0
  refine⟨this.1,?_⟩
  rw [ha]
  dsimp only
  rw [if_neg (by omega)]
  exact this.2
 rw [hn]at hd he
 rw [ho d hd]at h0 hde
 by_cases a:S.on d=(p:Nat)
 ·rw [if_pos a]at h0;omega
 rw [if_neg a]at h0 hde
 rw [ho e he]at hde
 by_cases b:S.on e=(p:Nat)
 ·rw [if_pos b]at hde;omega
 rw [if_neg b]at hde
 exact h.ds d e hd he hde h0
structure yg.Ok (x:yg) (b:Nat):Prop where
 w: ∀j,x.w j≤18446744073709551615
 code:x.code.length≤24
 pc:0≤x.pc∧x.pc≤24
 tb:x.S.tables.length≤1000*b
structure KS.Okk (S:KS) (b:Nat):Prop where
 n0:1≤S.Q.n∧S.Q.n≤2
 nN:S.N.n=S.Q.n
 nH:S.H.n=S.Q.n
 q:S.Q.Good
 al: ∀p,p<4→S.Q.al p=(S.pr p).isSome
 no: ∀p,4≤p→S.pr p=none
 pr: ∀p x,S.pr p=some x→x.Ok b
 cn:qe S.Rf (1000*b)
 ww: ∀a,a ∈ S.ww→a≤18446744073709551615
 b1:1≤b
theorem yg.Ok.mono {x:yg} {b c:Nat} (h:x.Ok b) (hc:b≤c):x.Ok c:=⟨h.w,h.code,h.pc,by have:=h.tb;omega⟩
theorem KS.Okk.mono {S:KS} {b c:Nat} (h:S.Okk b) (hc:b≤c):S.Okk c:=⟨h.n0,h.nN,h.nH,h.q,h.al,h.no,fun p x hx=>(h.pr p x hx).mono hc,fun z=>by have:=h.cn z;omega,h.ww,by have:=h.b1;omega⟩
section
variable {S:KS} {b:Nat}
theorem KS.Okk.lt (h:S.Okk b) {p:Nat} {x:yg} (hx:S.pr p=some x):p<4:=by
 rcases Nat.lt_or_ge p 4 with h1|h1
 ·exact h1
 rw [h.no p h1]at hx;cases hx
theorem KS.Okk.runs (h:S.Okk b):S.Runs:=by
 intro d hd h0
 have e:S.Q.cpu (d:Nat)=S.Q.on d:=if_pos (by omega)
 rw [e]at h0 ⊢
 obtain⟨h1,h2⟩:=h.q.on d hd h0
 refine⟨by omega,?_⟩
 rw [h.al _ (by omega)]at h2
 exact Option.isSome_iff_exists.1 h2
theorem KS.Okk.alive (h:S.Okk b) {q:Nat} (hq:q<4):S.Q.alive (q:Nat)=(S.pr q).isSome:=by
 unfold zV.alive
 rw [decide_eq_true (by omega),Bool.true_and,show((q:Nat):Int).toNat=q from rfl,h.al q hq]
theorem KS.Okk.setU (h:S.Okk b) (c:Nat) (u:fQ):(S.setU c u).Okk b:=⟨h.n0,h.nN,h.nH,h.q,h.al,h.no,h.pr,h.cn,h.ww,h.b1⟩
theorem KS.Okk.enter (h:S.Okk b) (c p:Nat) (x:yg):(S.enter c p x).Okk b:=h.setU _ _
theorem KS.Okk.halt (h:S.Okk b) (c:Nat):(S.halt c).Okk b:=h.setU _ _
theorem KS.Okk.leave1 (h:S.Okk b) (c p:Nat) (x:yg):(S.leave1 c p x).Okk b:=⟨h.n0,by show((S.N.ask p).2.2.take c (S.N.ask p).1).2.n=_;rw [zW.take_n,zW.ask_n];exact h.nN,h.nH,h.q,h.al,h.no,h.pr,h.cn,h.ww,h.b1⟩
theorem KS.Okk.leaveP (h:S.Okk b) (c:Nat):(S.leaveP c).Okk b:=by
 unfold KS.leaveP;split
 ·exact h.leave1 _ _ _
 exact h
theorem KS.Okk.bareTo (h:S.Okk b) (j:Nat):(S.bareTo j).Okk b:=⟨h.n0,h.nN,h.nH,h.q,h.al,h.no,h.pr,h.cn,h.ww,h.b1⟩
theorem KS.Okk.others (h:S.Okk b) (c i:Nat):(S.others c i).Okk b:=by
 unfold KS.others;split
 ·exact h.leaveP _
 exact h
theorem KS.Okk.fold (c:Nat): ∀(l:List Nat) {S:KS},S.Okk b→(l.foldl (fun S i=>S.others c i) S).Okk b:=by
 intro l
 induction l with
 |nil=>intro S h;exact h
 |cons i l ih=>intro S h;exact ih (h.others c i)
theorem KS.Okk.leave (h:S.Okk b) (c:Nat):(S.leave c).Okk b:=by
 unfold KS.leave
 split
 ·exact h.halt c
 split
 ·exact KS.Okk.fold c _ ((h.leaveP c).bareTo _)
 exact h.leaveP c
theorem UU (S:KS) (c:Nat):(S.leaveP c).N.gen≤S.N.gen+1:=by
 unfold KS.leaveP;split
 ·show((S.N.ask _).2.2.take c (S.N.ask _).1).2.gen≤_
  rw [zW.take_gen,zW.ask_gen]
  split<;>omega
 omega
theorem uE (h:S.Okk b) (c:Nat):(S.leave c).N.gen≤S.N.gen+3:=by
 have hl:=UU S c
 have hf: ∀(l:List Nat) (T:KS),(l.foldl (fun S i=>S.others c i) T).N.gen≤T.N.gen+l.length:=by
  intro l
  induction l with
  |nil=>intro T;simp
  |cons i l ih=>
   intro T
   have h1:=ih (T.others c i)
   have h2:(T.others c i).N.gen≤T.N.gen+1:=by
    unfold KS.others;split
    ·exact UU T i
    omega
   rw [List.foldl_cons,List.length_cons];push_cast;omega
 unfold KS.leave
 split
 ·show S.N.gen≤_;omega
 split
 ·have h1:=hf (List.range S.Q.n) (S.leaveP c).bare
  rw [List.length_range]at h1
  have h2:(S.leaveP c).bare.N.gen=(S.leaveP c).N.gen:=rfl
  have:=h.n0.2
  omega
 omega
theorem zW.mustAll_n (N:zW) (v:Int):(N.mustAll v).n=N.n∧(N.mustAll v).gen=N.gen:=by unfold zW.mustAll;split<;>exact⟨rfl,rfl⟩
theorem zW.drop_n (N:zW) (p:Int):(N.drop p).n=N.n∧(N.drop p).gen=N.gen:=by
 unfold zW.drop;split
 ·exact N.mustAll_n _
 exact⟨rfl,rfl⟩
theorem KS.Okk.flush (h:S.Okk b) (p:Nat):(S.flush p).Okk b:=⟨h.n0,by show(S.N.mustAll _).n=_;rw [(S.N.mustAll_n _).1];exact h.nN,h.nH,h.q,h.al,h.no,h.pr,h.cn,h.ww,h.b1⟩
theorem KS.Okk.putV (h:S.Okk b) {p:Nat} {x:yg} (hx:S.pr p=some x) {v:z7} (hg:(S.vs x).Gr v 600):(S.putV p x v).Okk (b+1):=by
 refine⟨h.n0,h.nN,h.nH,h.q,fun q hq=> ?_,fun q hq=> ?_,fun q y hy=> ?_,?_,h.ww,by omega⟩
 ·rw [h.al q hq]
  show _=(if q=p then some (x.of v)else S.pr q).isSome
  split
  ·rename_i e;subst e;rw [hx];rfl
  rfl
 ·show(if q=p then some (x.of v)else S.pr q)=none
  have:=h.lt hx
  rw [if_neg (by omega)];exact h.no q hq
 ·have hy:(if q=p then some (x.of v)else S.pr q)=some y:=hy
  split at hy
  ·cases hy
   have hxo:=h.pr p x hx
   exact⟨hxo.w,hxo.code,hxo.pc,by have:=hxo.tb;have:=hg.t;show v.S.tables.length≤_;dsimp only at this;omega⟩
  exact(h.pr q y hy).mono (by omega)
 have h1:=hg.c (1000*b) (by have:=h.b1;omega) h.cn
 intro z;have:=h1 z;show vr v.s.R z≤_;omega
theorem KS.Okk.done (h:S.Okk b) (p:Nat) (z:Int):(S.done p z).2.Okk b:=by
 unfold KS.done;dsimp only;split
 ·exact h.flush p
 exact h
theorem YJ (z:Nat):YK z≤18446744073709551615:=kj _ _
theorem Qk {w:Nat→Nat} (h: ∀j,w j≤18446744073709551615) (k:Nat) {v:Nat} (hv:v≤18446744073709551615): ∀j,ZI w k v j≤18446744073709551615:=by
 intro j;unfold ZI;split
 ·exact hv
 exact h j
theorem J4 {w:Nat→Nat} (h: ∀j,w j≤18446744073709551615) (i:yl) {v:Nat} (hv:v≤18446744073709551615): ∀j,qF w i v j≤18446744073709551615:=by
 unfold qF
 split
 ·exact h
 split
 ·exact Qk h _ hv
 split
 ·exact Qk h _ hv
 exact h
theorem Zg {code:List yl} (hc:code.length≤24) {pc:Int} (h:0≤pc):0≤qb code pc∧qb code pc≤24:=by
 unfold qb;split<;>omega
theorem yg.Ok.done {x:yg} (h:x.Ok b) (i:yl) {v:Nat} (hv:v≤18446744073709551615):(x.done i v).Ok b:=⟨J4 h.w i hv,h.code,Zg h.code (by have:=h.pc;omega),h.tb⟩
theorem yg.Ok.fault {x:yg} (h:x.Ok b) {z:Int} (hz:z≤1000):(x.fault z).Ok b:=⟨Qk h.w _ (by omega),h.code,Zg h.code (by have:=h.pc;omega),h.tb⟩
theorem KS.Okk.setP (h:S.Okk b) {p:Nat} {x y:yg} (hx:S.pr p=some x) (hy:y.Ok b):(S.setP p (some y)).Okk b:=by
 refine⟨h.n0,h.nN,h.nH,h.q,fun q hq=> ?_,fun q hq=> ?_,fun q z hz=> ?_,h.cn,h.ww,h.b1⟩
 ·rw [h.al q hq]
  show _=(if q=p then some y else S.pr q).isSome
  split
  ·rename_i e;subst e;rw [hx];rfl
  rfl
 ·show(if q=p then some y else S.pr q)=none
  have:=h.lt hx
  rw [if_neg (by omega)];exact h.no q hq
 have hz:(if q=p then some y else S.pr q)=some z:=hz
 split at hz
 ·cases hz;exact hy
 exact h.pr q z hz
theorem KS.Okk.upP (h:S.Okk b) (p:Nat) {f:yg→yg} (hf: ∀x,S.pr p=some x→(f x).Ok b):(S.upP p f).Okk b:=by
 refine⟨h.n0,h.nN,h.nH,h.q,fun q hq=> ?_,fun q hq=> ?_,fun q z hz=> ?_,h.cn,h.ww,h.b1⟩
 ·rw [h.al q hq]
  show _=(if q=p then(S.pr q).map f else S.pr q).isSome
  split
  ·rename_i e;subst e;rw [Option.isSome_map]
  rfl
 ·show(if q=p then(S.pr q).map f else S.pr q)=none
  split
  ·rename_i e;subst e;rw [h.no q hq];rfl
  exact h.no q hq
 have hz:(if q=p then(S.pr q).map f else S.pr q)=some z:=hz
 by_cases e:q=p
 ·rw [if_pos e]at hz
  cases hp:S.pr q with
  |none=>rw [hp]at hz;cases hz
  |some x=>rw [hp]at hz;cases hz;exact hf x (by rw [←e];exact hp)
 rw [if_neg e]at hz
 exact h.pr q z hz
theorem KS.Okk.pick (h:S.Okk b) {c:Nat} (hc:c<S.Q.n):(S.pick c).Okk b:=⟨by show 1≤(S.Q.pick c).2.n∧(S.Q.pick c).2.n≤2;rw [zV.pick_n];exact h.n0,by show S.N.n=(S.Q.pick c).2.n;rw [zV.pick_n];exact h.nN,by show S.H.n=(S.Q.pick c).2.n;rw [zV.pick_n];exact h.nH,
 h.q.pick c hc,fun p hp=>by show(S.Q.pick c).2.al p=_;rw [zV.pick_al];exact h.al p hp,h.no,h.pr,h.cn,h.ww,h.b1⟩
theorem KS.Okk.exit (h:S.Okk b) {p:Nat} {x:yg} (hx:S.pr p=some x):(S.exit p x).Okk b:=by
 have hp:=h.lt hx
 have ha:S.Q.alive (p:Nat)=true:=by rw [h.alive hp,hx];rfl
 refine⟨by show 1≤(S.Q.fin p).n∧(S.Q.fin p).n≤2;rw [zV.fin_n];exact h.n0,by show(S.N.drop p).n=(S.Q.fin p).n;rw [zV.fin_n,(S.N.drop_n _).1];exact h.nN,by show S.H.n=(S.Q.fin p).n;rw [zV.fin_n];exact h.nH,h.q.fin p ha,fun q hq=> ?_,fun q hq=> ?_,fun q z hz=> ?_,?_,h.ww,h.b1⟩
 ·show(S.Q.fin p).al q=(if q=p then none else S.pr q).isSome
  rw [zV.fin_al _ _ ha]
  dsimp only
  split
  ·rfl
  exact h.al q hq
 ·show(if q=p then none else S.pr q)=none
  split
  ·rfl
  exact h.no q hq
 ·have hz:(if q=p then none else S.pr q)=some z:=hz
  split at hz
  ·cases hz
  exact h.pr q z hz
 exact xE (S.vs x) _ (by have:=h.b1;omega) h.cn
theorem KS.Okk.fork (h:S.Okk b) {p:Nat} {x:yg} (hx:S.pr p=some x) (i:yl):(S.fork p x i).2.Okk (b+1)∧(S.fork p x i).1≤18446744073709551615∧ ∃y,(S.fork p x i).2.pr p=some y∧y.w=x.w∧y.pc=x.pc∧y.code=x.code:=by
 have hp:=h.lt hx
 have hxo:=h.pr p x hx
 unfold KS.fork
 split
 ·exact⟨h.mono (by omega),YJ _,x,hx,rfl,rfl,rfl⟩
 rename_i q hq
 obtain⟨_,q4,hqn,_⟩:=(gz (i:=0) (k:=4)).1 q hq
 have hpq:p≠q:=fun e=>by rw [e,hqn]at hx;cases hx
 have hft:=bB (S.vs x) S.W0 (q:Nat)
 have hfc:=cT (S.vs x) S.W0 (q:Nat) (1000*b) (by have:=h.b1;omega) h.cn
 split
 ·rename_i bad v hfk
  rw [hfk]at hft hfc
  have hcn:qe v.s.R (1000*b+300):=hfc
  have htv:v.S.tables.length≤x.S.tables.length+600:=hft.1
  refine⟨⟨h.n0,h.nN,h.nH,h.q,fun r hr=> ?_,fun r hr=> ?_,fun r y hy=> ?_,fun z=> ?_,h.ww,by omega⟩,YJ _,x.of v,if_pos rfl,rfl,rfl,rfl⟩
  ·rw [h.al r hr]
   show _=(if r=p then some (x.of v)else S.pr r).isSome
   split
   ·rename_i e;subst e;rw [hx];rfl
   rfl
  ·show(if r=p then some (x.of v)else S.pr r)=none
   rw [if_neg (by omega)];exact h.no r hr
  ·have hy:(if r=p then some (x.of v)else S.pr r)=some y:=hy
   split at hy
   ·cases hy
    exact⟨hxo.w,hxo.code,hxo.pc,by have:=hxo.tb;show v.S.tables.length≤_;omega⟩
   exact(h.pr r y hy).mono (by omega)
  have:=hcn z;show vr v.s.R z≤_;omega
 rename_i bad cf cS v hfk
 rw [hfk]at hft hfc
 have hcn:qe v.s.R (1000*b+300):=hfc
 have htv:v.S.tables.length≤x.S.tables.length+600:=hft.1
 have htc:cS.tables.length≤600:=hft.2.1 _ rfl
 have hpr: ∀r,((((S.putV p x v).setP q (some ⟨qF x.w i 0,qb x.code (x.pc+1),x.code,x.A,cf,[],cS⟩))).pr r)=if r=q then some ⟨qF x.w i 0,qb x.code (x.pc+1),x.code,x.A,cf,[],cS⟩else if r=p then some (x.of v)else S.pr r:=fun r=>rfl
 refine⟨KS.Okk.flush (S:= { ((S.putV p x v).setP q (some ⟨qF x.w i 0,qb x.code (x.pc+1),x.code,x.A,cf,[],cS⟩))with Q:=S.Q.wake q }) ⟨by show 1≤(S.Q.wake q).n∧(S.Q.wake q).n≤2;rw [zV.wake_n];exact h.n0,by show S.N.n=(S.Q.wake q).n;rw [zV.wake_n];exact h.nN,by show S.H.n=(S.Q.wake q).n;rw [zV.wake_n];exact h.nH,h.q.wake q,fun r hr=> ?_,fun r hr=> ?_,fun r y hy=> ?_,fun z=> ?_,h.ww,by omega⟩ p,by show q≤_;omega,x.of v,?_,rfl,rfl,rfl⟩
 ·show(S.Q.wake q).al r=(if r=q then some (yg.mk (qF x.w i 0) (qb x.code (x.pc+1)) x.code x.A cf [] cS)else if r=p then some (x.of v)else S.pr r).isSome
  unfold zV.wake
  rw [if_pos (by omega)]
  show(if r=(q:Int).toNat then true else S.Q.al r)=_
  rw [show((q:Nat):Int).toNat=q from rfl]
  by_cases e:r=q
  ·rw [if_pos e,if_pos e];rfl
  rw [if_neg e,if_neg e,h.al r hr]
  split
  ·rename_i e;subst e;rw [hx];rfl
  rfl
 ·show(if r=q then some (yg.mk (qF x.w i 0) (qb x.code (x.pc+1)) x.code x.A cf [] cS)else if r=p then some (x.of v)else S.pr r)=none
  rw [if_neg (by omega),if_neg (by omega)];exact h.no r hr
 ·have hy:(if r=q then some (yg.mk (qF x.w i 0) (qb x.code (x.pc+1)) x.code x.A cf [] cS)else if r=p then some (x.of v)else S.pr r)=some y:=hy
  split at hy
  ·cases hy
   exact⟨J4 hxo.w i (by omega),hxo.code,Zg hxo.code (by have:=hxo.pc;omega),by have:=h.b1;show cS.tables.length≤_;omega⟩
  split at hy
  ·cases hy
   exact⟨hxo.w,hxo.code,hxo.pc,by have:=hxo.tb;show v.S.tables.length≤_;omega⟩
  exact(h.pr r y hy).mono (by omega)
 ·have:=hcn z;show vr v.s.R z≤_;omega
 show(if p=q then some (yg.mk (qF x.w i 0) (qb x.code (x.pc+1)) x.code x.A cf [] cS)else if p=p then some (x.of v)else S.pr p)=_
 rw [if_neg hpq,if_pos rfl]
theorem KS.Okk.answer (h:S.Okk b) {p:Nat} {x:yg} (hx:S.pr p=some x) (i:yl):(S.answer p x i).2.Okk (b+1)∧(S.answer p x i).1≤18446744073709551615∧ ∃y,(S.answer p x i).2.pr p=some y∧y.w=x.w∧y.pc=x.pc∧y.code=x.code:=by
 have hv: ∀(v:z7) (z:Int),(S.vs x).Gr v 600→((S.putV p x v).done p z).2.Okk (b+1)∧((S.putV p x v).done p z).1≤18446744073709551615∧ ∃y,((S.putV p x v).done p z).2.pr p=some y∧y.w=x.w∧y.pc=x.pc∧y.code=x.code:=by
  intro v z hg
  refine⟨(h.putV hx hg).done p z,YJ _,x.of v,?_,rfl,rfl,rfl⟩
  unfold KS.done
  dsimp only
  split
  ·exact if_pos rfl
  exact if_pos rfl
 have hs: ∀z,z≤18446744073709551615→(z,S).2.Okk (b+1)∧(z,S).1≤18446744073709551615∧ ∃y,(z,S).2.pr p=some y∧y.w=x.w∧y.pc=x.pc∧y.code=x.code:=fun z hz=>⟨h.mono (by omega),hz,x,hx,rfl,rfl,rfl⟩
 unfold KS.answer
 split
 ·exact hv _ _ (z7.Gr.map _ _ _ _ _ _)
 split
 ·exact hv _ _ (z7.Gr.unmap _ _ _ _)
 split
 ·exact hv _ _ (z7.Gr.protect _ _ _ _ _)
 split
 ·exact hv _ _ (z7.Gr.out _ _ _)
 split
 ·exact h.fork hx i
 split
 ·split
  ·have hm:=h.mono (c:=b+1) (by omega)
   refine⟨⟨hm.n0,hm.nN,hm.nH,hm.q,hm.al,hm.no,hm.pr,hm.cn,fun a ha=> ?_,hm.b1⟩,by show 0≤_;omega,x,hx,rfl,rfl,rfl⟩
   rcases List.mem_append.1 ha with ha|ha
   ·exact h.ww a ha
   rw [List.mem_singleton.1 ha];exact(h.pr p x hx).w 0
  exact hs _ (YJ _)
 split
 ·split
  ·exact hs _ (YJ _)
  rename_i a l hl
  have hm:=h.mono (c:=b+1) (by omega)
  exact⟨⟨hm.n0,hm.nN,hm.nH,hm.q,hm.al,hm.no,hm.pr,hm.cn,fun c hc=>h.ww c (by rw [hl];exact List.mem_cons_of_mem _ hc),hm.b1⟩,h.ww a (by rw [hl];exact List.mem_cons_self),x,hx,rfl,rfl,rfl⟩
 exact hs 0 (by omega)
theorem KS.Okk.call1 (h:S.Okk b) {p:Nat} {x:yg} (hx:S.pr p=some x) (i:yl):(S.call1 p x i).Okk (b+1):=by
 unfold KS.call1
 split
 ·exact(h.exit hx).mono (by omega)
 obtain⟨h1,h2,_⟩:=h.answer hx i
 exact h1.upP p fun y hy=>(h1.pr p y hy).done i h2
theorem xI (h:S.Okk b) {p:Nat} {x:yg} (hx:S.pr p=some x) (i:yl):(S.answer p x i).2.Q.n=S.Q.n∧(S.answer p x i).2.N.gen=S.N.gen:=by
 have hv: ∀(v:z7) (z:Int),((S.putV p x v).done p z).2.Q.n=S.Q.n∧((S.putV p x v).done p z).2.N.gen=S.N.gen:=by
  intro v z
  unfold KS.done
  dsimp only
  split
  ·exact⟨rfl,(S.N.mustAll_n _).2⟩
  exact⟨rfl,rfl⟩
 have hf:(S.fork p x i).2.Q.n=S.Q.n∧(S.fork p x i).2.N.gen=S.N.gen:=by
  unfold KS.fork
  split
  ·exact⟨rfl,rfl⟩
  split
  ·exact⟨rfl,rfl⟩
  exact⟨zV.wake_n _ _,(S.N.mustAll_n _).2⟩
 unfold KS.answer
 split
 ·exact hv _ _
 split
 ·exact hv _ _
 split
 ·exact hv _ _
 split
 ·exact hv _ _
 split
 ·exact hf
 split
 ·split<;>exact⟨rfl,rfl⟩
 split
 ·split<;>exact⟨rfl,rfl⟩
 exact⟨rfl,rfl⟩
theorem Ji (h:S.Okk b) {p:Nat} {x:yg} (hx:S.pr p=some x) (i:yl):(S.call1 p x i).Q.n=S.Q.n∧(S.call1 p x i).N.gen=S.N.gen:=by
 unfold KS.call1
 split
 ·exact⟨zV.fin_n _ _,(S.N.drop_n _).2⟩
 exact xI h hx i
def KS.call2 (S:KS) (c p:Nat) (x:yg) (i:yl):KS:=if i.n=6∨i.n=7 then((S.enter c p x).call1 p x i).pick c else(S.enter c p x).call1 p x i
theorem W6 (S:KS) (c p:Nat) (x:yg) (i:yl):S.call c p x i=(S.call2 c p x i).leave c:=rfl
theorem KS.Okk.call2 (h:S.Okk b) {c p:Nat} {x:yg} (hc:c<S.Q.n) (hx:S.pr p=some x) (i:yl):(S.call2 c p x i).Okk (b+1)∧(S.call2 c p x i).Q.n=S.Q.n∧(S.call2 c p x i).N.gen=S.N.gen:=by
 have h1:=(h.enter c p x).call1 (p:=p) (x:=x) hx i
 obtain⟨h2,h3⟩:=Ji (h.enter c p x) (p:=p) (x:=x) hx i
 unfold KS.call2
 split
 ·exact⟨h1.pick (by rw [h2];exact hc),(zV.pick_n _ _).trans h2,h3⟩
 exact⟨h1,h2,h3⟩
def KS.fault2 (S:KS) (c p:Nat) (x:yg) (at_:Nat) (write:Bool):KS:=
 if(z7.fix (S.vs x) S.inv p ((at_/8:Nat):Int) write).1≠0 then((S.enter c p x).putV p x (z7.fix (S.vs x) S.inv p ((at_/8:Nat):Int) write).2).upP p fun y=>y.fault (z7.fix (S.vs x) S.inv p ((at_/8:Nat):Int) write).1
  else((S.enter c p x).putV p x (z7.fix (S.vs x) S.inv p ((at_/8:Nat):Int) write).2).flush p
theorem vx (S:KS) (c p:Nat) (x:yg) (z:Int) (at_:Nat) (write:Bool):S.faulted c p x z at_ write=if z=3∨z=4 then S.setP p (some (x.fault z))else(S.fault2 c p x at_ write).leave c:=rfl
theorem KS.Okk.fault2 (h:S.Okk b) {c p:Nat} {x:yg} (hx:S.pr p=some x) (at_:Nat) (write:Bool):(S.fault2 c p x at_ write).Okk (b+1)∧(S.fault2 c p x at_ write).Q.n=S.Q.n∧(S.fault2 c p x at_ write).N.gen=S.N.gen:=by
 have h1:=(h.enter c p x).putV (p:=p) (x:=x) hx (z7.Gr.fix (S.vs x) S.inv p ((at_/8:Nat):Int) write)
 have hb:=z7.fix_bd (x:=S.vs x) (inv:=S.inv) (o:=p) (page:=((at_/8:Nat):Int)) (w:=write)
 unfold KS.fault2
 split
 ·exact⟨h1.upP p fun y hy=>(h1.pr p y hy).fault (by omega),rfl,rfl⟩
 exact⟨h1.flush p,rfl,(S.N.mustAll_n _).2⟩
theorem KS.Okk.call (h:S.Okk b) {c p:Nat} {x:yg} (hc:c<S.Q.n) (hx:S.pr p=some x) (i:yl):(S.call c p x i).Okk (b+1):=(h.call2 hc hx i).1.leave c
theorem KS.Okk.faulted (h:S.Okk b) {c p:Nat} {x:yg} (hx:S.pr p=some x) (z:Int) (at_:Nat) (write:Bool):(S.faulted c p x z at_ write).Okk (b+1):=by
 rw [vx]
 split
 ·exact((h.mono (by omega)).setP hx (((h.pr p x hx).mono (by omega)).fault (by omega)))
 exact(h.fault2 hx at_ write).1.leave c
theorem KS.Okk.setX (h:S.Okk b) (c:Nat) (xs:List vB) {H:zw} (hH:H.n=S.H.n):(S.setX c xs H).Okk b:=⟨h.n0,h.nN,hH.trans h.nH,h.q,h.al,h.no,h.pr,h.cn,h.ww,h.b1⟩
end
theorem tJ (R:List SP) (k:Nat) (L:KL) (S:KS) (b:Nat) (hok:S.Okk b) (hb:b≤300) (hg:S.N.gen≤1000000000) (c p:Nat) (x:yg) (hc:c<S.Q.n) (hx:S.pr p=some x) (i:yl):zy 88 [vp k 0,vi c,vi p,.agg (qN i)] (ent zp k (L,S)::R) fun w L2=>w= .tuple []∧L2=ent zp k (L,S.call c p x i)::R:=by
 have hp:=hok.lt hx
 have hxo:=hok.pr p x hx
 have htb:=hxo.tb
 have hcd:=hxo.code
 have hpc:=hxo.pc
 refine SW.intro rfl Tryz.func88 rfl ?_
 refine O0 2 J (yW rfl rfl rfl rfl fun i7=> ?_)
 refine Z 6 J (Z1 (G7 _ _ _ S c p x hc hp hx) J Y ?_)
 obtain⟨S1,hS1⟩: ∃S1,S1=S.enter c p x:=⟨_,rfl⟩
 rw [←hS1]
 have hx1:S1.pr p=some x:=by rw [hS1];exact hx
 have hok1:S1.Okk b:=by rw [hS1];exact hok.enter c p x
 have hQ1:S1.Q.n=S.Q.n:=by rw [hS1]
 have hg1:S1.N.gen=S.N.gen:=by rw [hS1]
 refine Z 4 J (fa J Y (ld J Y J (Z 1 J (z0 (fun h16=> ?_) (fun h16=> ?_)))))
 ·refine Z 4 J (qw (zr k L S1) fun y _=> ?_)
  dsimp only [yE,List.cons_append,List.nil_append]
  refine zR (Sub.trans (M:=yE k L S1 y (ent z8 i7 (AVal.agg (qN i)).cells::R)) Y (Zh (y:=y) hp hx1)) ?_
  dsimp only [Zn,Zq]
  refine Z 3 J (fa J Y (zf rfl (fun _=>zh rfl rfl rfl (by omega) (by omega)) ?_))
  refine lf J Y (yy (p:=p) (L:=L) (S:=S1) (y:=y) hp hx1) (Z 1 J (fa J Y (ld J Y J (Z4 (tB _ _ (x.vm (S1.W L) p) S1.M S1.Rf S1.Ws (by show x.S.tables.length≤500000;omega)) J Y Y Y Y (Z 5 J (fa J Y (lf J Y (QQ (L:=L) (S:=S1) (y:=y)) (Z 1 J (Z1 (aV _ _ S1.N (p:Nat)) J Y (Z 5 J (fa J Y (lf J Y (Q7 (L:=L) (S:=S1) (y:=y)) (Z 1 J (Z1 (Ab _ _ S1.Q (p:Nat)) J Y (Z 5 J (fa J Y (zf rfl (fun _=>zh rfl rfl rfl (by omega) (by omega)) ?_)))))))))))))))))
  refine sF J Y J J (zR (Sub.trans (Sub.one (K:=zI) (a:=k) (K2:=zI) (a2:=k) (x2:=(18,vK (kF L S1 y) (p+9) (.ptr none))) fun _ e=>e) (Sub.trans ?_ (bh (k:=k) (R:=(ent z8 i7 (AVal.agg (qN i)).cells::R)) (L:=L) (S:=S1) (S':=S1.exit p x) (y:=y) (y':=y) hp (zV.fin_n _ _) (fun _=>rfl) (if_pos rfl) (fun j hj=>by simp only [KS.prs,KS.exit,if_neg hj]) rfl (?_:vK (kF L S1 y) (p+9) (.ptr none)=_)))) ?_)
  ·exact Y
  ·funext j
   refine pJ (S:=S1) (S':=S1.exit p x) (y:=y) (y':=y) hp (by simp only [KS.pcell,KS.exit,if_true]) (fun j hj=> ?_) (fun j h=> ?_) j
   ·simp only [KS.pcell,KS.exit,if_neg hj]
   exact We h
  obtain⟨S3,hS3⟩: ∃S3,S3=S1.exit p x:=⟨_,rfl⟩
  rw [←hS3]
  have hS3c:S3=S1.call1 p x i:=by { rw [hS3];unfold KS.call1;rw [if_pos h16] }
  have hQ3:S3.Q.n=S.Q.n:=by rw [hS3c,(Ji hok1 hx1 i).1,hQ1]
  refine Z 4 J (fa J Y (ld J Y J (zf rfl (fun _=>zC rfl rfl rfl (bK rfl)) (GM (h16) ?_))))
  refine Z 8 J (qw (zr k L S3) fun y3 _=> ?_)
  dsimp only [yE,List.cons_append,List.nil_append]
  refine Z 2 J (fa J Y (lf J Y (Q7 (L:=L) (S:=S3) (y:=y3)) (Z 1 J (Z1 (Qv _ _ S3.Q (c:Nat)) J Y (zR (Sub.trans ?_ (vP (k:=k) (R:=(ent z8 i7 (AVal.agg (qN i)).cells::R)) (L:=L) (S:=S3) (S':=S3.pick c) (y:=y3) (y':=y3) (zV.pick_n _ _) (fun _=>rfl) rfl rfl (show kF L S3 y3=kF L (S3.pick c) y3 from rfl))) ?_)))))
  ·exact Y
  obtain⟨S4,hS4⟩: ∃S4,S4=S3.pick c:=⟨_,rfl⟩
  rw [←hS4]
  have hS4c:S4=S.call2 c p x i:=by { rw [hS4,hS3c];unfold KS.call2;rw [hS1,if_pos (.inl h16)] }
  obtain⟨hok4,hn4,hg4⟩:=hok.call2 hc hx i
  rw [←hS4c]at hok4 hn4 hg4
  refine Z 4 J (Z1 (vo _ _ _ S4 c (by omega) hok4.runs (by omega)) J Y (Z 1 J (qz J J ?_)))
  rw [W6,←hS4c]
  exact fq
 refine Z 6 J (lN J Y Y J J (Z1 (nW _ _ _ S1 p x hp hx1 i hxo.w (by omega) ⟨by omega,by omega⟩ (by omega) (fun z=>by have:=hok1.cn z;omega) (fun q hq hn=>by rw [hok1.alive hq,hn];rfl)) J Y ?_))
 obtain⟨hok2,hv1,x2,hx2,hw2,hpc2,hco2⟩:=hok1.answer hx1 i
 obtain⟨hQ2,hg2⟩:=xI hok1 hx1 i
 rcases hans:S1.answer p x i with⟨v1,S2⟩
 rw [hans]at hok2 hv1 hx2 hQ2 hg2
 dsimp only at hok2 hv1 hx2 hQ2 hg2 ⊢
 have hx2o:=hok2.pr p x2 hx2
 have hc2:=hx2o.code
 have hp2:=hx2o.pc
 refine qw (zr k L S2) fun y _=> ?_
 dsimp only [yE,List.cons_append,List.nil_append]
 refine zR (Sub.trans (M:=yE k L S2 y (ent z8 i7 (AVal.agg (qN i)).cells::R)) Y (Zh (y:=y) hp hx2)) ?_
 dsimp only [Zn,Zq]
 refine uL (K:=zP qN 4) (q6 (y.cd p) x2.code) fun hcdo=> ?_
 refine Z 3 J (zO [0,0,1,5,15,31,63,127,255,0,0,2047,0,8191] [([0,1,2,3,4,5,6,7,8,9,10,12],[5,8,9],some 11),([],[],some 13),([],[],none)] (by kernel_rfl) ?_)
 refine z4 (ZK 3 J (zj J Y (vN rfl (fun _=>zh rfl rfl rfl (by omega) (by omega)) ?_)))
 refine jS J Y (yy (p:=p) (L:=L) (S:=S2) (y:=y) hp hx2) (ZK 1 J (zj J Y (Vl J Y Y J J (Vl J Y Y J J (ZK 1 J (Vv rfl rfl rfl fun i9=> ?_))))))
 refine z5 ⟨(uY J Y (yy (p:=p) (L:=L) (S:=S2) (y:=y) hp hx2) J (z3 _ rfl) (YC J Y Y J J J (z3 _ (ZP hcdo)) (YC J Y Y J J J (z3 _ rfl) z6))),?_⟩
 refine yG (Qa _ x2.w (y.cd p) x2.code (by omega) x2.pc ⟨by omega,by omega⟩ i v1) rfl (fun _=>rfl) ?_
 rintro _ _ ⟨u59,rfl,rfl⟩
 refine uL (K:=zP qN 4) (q6 u59 x2.code) fun hu59=> ?_
 refine yD (v:=u59) fun au59 cu59 eu59 hvu59 _=> ?_
 subst hvu59
 refine zF (z4 (z5 ⟨z6,?_⟩))
 refine sN J Y Y J J J (zF (z4 (z5 ⟨z6,?_⟩)))
 refine zO [0,0,1,5,15,31,0,127,255,511] [([0,1,2,3,4,5,6,7,8],[5,6],some 9),([],[],none)] (by kernel_rfl) ?_
 refine z4 (ZK 3 J (zj J Y (vN rfl (fun _=>zh rfl rfl rfl (by omega) (by omega)) ?_)))
 refine jS J Y (yy (p:=p) (L:=L) (S:=S2) (y:=y) hp hx2) (Vl J Y Y J J (ZK 1 J (zj J Y (z5 ⟨(uY J Y (yy (p:=p) (L:=L) (S:=S2) (y:=y) hp hx2) J (z3 _ rfl) (YC J Y Y J J J (z3 _ (ZP hu59)) z6)),?_⟩))))
 refine sN J Y Y J J J (zR (Sub.trans (Sub.one (K:=z8) (a:=y.a p) (K2:=z8) (a2:=y.a p) (x2:=jC (qF x2.w i v1) ((.slice au59 x2.code.length cu59 eu59)) (qb x2.code (x2.pc+1))++ [vp (y.v p) 0]) fun _ e=>e) (Sub.trans ?_ (kern_closeP (k:=k) (R:=(ent z8 i7 (AVal.agg (qN i)).cells::R)) (L:=L) (S:=S2) (S':=(S2.upP p fun z=>z.done i v1)) (y:=y) (y':=(y.setCd p (.slice au59 x2.code.length cu59 eu59))) (x':=x2.done i v1) hp rfl (fun _=>rfl) (mV hx2) (fun j hj=>mL hj) rfl (iS hx2)))) ?_)
 ·exact Y
 obtain⟨S3,hS3⟩: ∃S3,S3=(S2.upP p fun z=>z.done i v1):=⟨_,rfl⟩
 rw [←hS3]
 have hS3c:S3=S1.call1 p x i:=by { rw [hS3];unfold KS.call1;rw [if_neg h16,hans] }
 have hQ3:S3.Q.n=S.Q.n:=by rw [hS3c,(Ji hok1 hx1 i).1,hQ1]
 refine zF (z4 (z5 ⟨z6,?_⟩))
 refine OX 3 J (fa J Y (ld J Y J (zf rfl (fun _=>zC rfl rfl rfl (bK rfl)) (qM (h16) ?_))))
 refine Z 1 J (fa J Y (ld J Y J (Z 1 J (z0 (fun h75=> ?_) (fun h75=> ?_)))))
 ·refine Z 4 J (qw (zr k L S3) fun y3 _=> ?_)
  dsimp only [yE,List.cons_append,List.nil_append]
  refine Z 2 J (fa J Y (lf J Y (Q7 (L:=L) (S:=S3) (y:=y3)) (Z 1 J (Z1 (Qv _ _ S3.Q (c:Nat)) J Y (zR (Sub.trans ?_ (vP (k:=k) (R:=(ent z8 i7 (AVal.agg (qN i)).cells::R)) (L:=L) (S:=S3) (S':=S3.pick c) (y:=y3) (y':=y3) (zV.pick_n _ _) (fun _=>rfl) rfl rfl (show kF L S3 y3=kF L (S3.pick c) y3 from rfl))) ?_)))))
  ·exact Y
  obtain⟨S4,hS4⟩: ∃S4,S4=S3.pick c:=⟨_,rfl⟩
  rw [←hS4]
  have hS4c:S4=S.call2 c p x i:=by { rw [hS4,hS3c];unfold KS.call2;rw [hS1,if_pos (.inr h75)] }
  obtain⟨hok4,hn4,hg4⟩:=hok.call2 hc hx i
  rw [←hS4c]at hok4 hn4 hg4
  refine Z 4 J (Z1 (vo _ _ _ S4 c (by omega) hok4.runs (by omega)) J Y (Z 1 J (qz J J ?_)))
  rw [W6,←hS4c]
  exact fq
 refine Z 5 J ?_
 obtain⟨S4,hS4⟩: ∃S4,S4=S3:=⟨_,rfl⟩
 rw [←hS4]
 have hS4c:S4=S.call2 c p x i:=by { rw [hS4,hS3c];unfold KS.call2;rw [hS1,if_neg (by rintro (h|h);exact h16 h;exact h75 h)] }
 obtain⟨hok4,hn4,hg4⟩:=hok.call2 hc hx i
 rw [←hS4c]at hok4 hn4 hg4
 refine Z 2 J (Z1 (vo _ _ _ S4 c (by omega) hok4.runs (by omega)) J Y (Z 1 J (qz J J ?_)))
 rw [W6,←hS4c]
 exact fq
theorem lv (R:List SP) (k:Nat) (L:KL) (S:KS) (y:KY) (c p:Nat) (x:yg) (hc:c<S.Q.n) (hp:p<4) (hx:S.pr p=some x):zy 91 [vp k 0,vi c,vi p] (yE k L S y R) fun w L2=>w= .tuple []∧L2=yE k L (S.enter c p x) y R:=by
 refine SW.sub ?_ (W5 hc hp hx (k:=k) (L:=L) (S:=S) (y:=y) (R:=R))
 dsimp only [WR,Zq]
 have hl:((List.range S.Q.n).map L.c).length=S.Q.n:=by simp
 have hlc:((List.range S.Q.n).map L.c)[c]? =some (L.c c):=vw L.c hc
 refine yQ (K:=zP uJ 1) (q6 y.cv ((List.range S.Q.n).map L.c)) fun hcv=> ?_
 replace hcv:=uK hcv
 refine SW.intro rfl Tryz.func91 rfl ?_
 refine zO [0,1,3,7,0,31,63,0,128,384,896,0,0,2048,10240,30720,63488,129024,260096,522240,0,2097151] [([0,1,2,3,4,5,6,7,8,9,10,11,12,13,14,15,16,17,18,19,20],[3,6,10,16,19],some 21),([],[],none)] (by kernel_rfl) ?_
 refine z4 (ZK 2 J (zj J Y (jS J Y wt (ZK 1 J (uW rfl (fun _ h=>yM rfl rfl rfl (by omega) (by omega) h) ?_)))))
 refine Wm 0 J Y J hlc J (ZK 2 J (zj J Y (jS J Y QQ (ZK 3 J (zj J Y (vN rfl (fun _=>zh rfl rfl rfl (by omega) (by omega)) ?_))))))
 refine jS J Y (yy (p:=p) (L:=L) (S:=S) (y:=y) hp hx) (ZK 1 J (zj J Y (ye J Y J (ZK 1 J (z5 ⟨(uY J Y wt J (z3 _ hcv) (wV rfl (fun _ h=>qo (j:=0) rfl rfl rfl hlc rfl h) rfl rfl (z3 _ rfl) (uY J Y QQ J (z3 _ rfl) (uY J Y (yy (p:=p) (L:=L) (S:=S) (y:=y) hp hx) J (z3 _ rfl) (y6 J Y J J J z6))))),?_⟩)))))
 refine Z3 (bm _ _ (S.cpu L c) _ _ S.N (x.vm (S.W L) p) (p:Nat)) J Y Y Y (zF (z4 (z5 ⟨z6,?_⟩)))
 refine qz J J (⟨_,⟨rfl,rfl⟩,Sub.trans (M:=ent zI k (18,kF L (S.enter c p x) y)::ent (zP uJ 1) y.cv ((List.range S.Q.n).map L.c)::ent zQ L.m S.M::ent zX L.p ⟨L.m,S.Rf⟩::ent y5 L.sw S.Ws::ent qI L.h S.H::ent qm L.n S.N::ent z8 L.pp [.chan (some y.ch)]::ent yh y.ch (4,S.ww.map vu)::ent wO L.q S.Q::ent vv (L.c c) { S.cpu L c with X:= { (S.cpu L c).X with root:=(x.S.kernel:Nat),pcid:=(S.cpu L c).kern (S.N.pair (p:Nat)) } } ::ent (zG Zo) k ((List.range S.Q.n).erase c,fun i=>(L.c i,S.cpu L i))::Zq (y.a p) (y.v p) (y.cd p) x.w x.pc x.code (x.vm (S.W L) p) (ent (zG ve) k ((List.range 4).erase p,S.prs L y)::R)) ?_ ?_⟩)
 ·exact Sub.trans (Sub.one (K:=zI) (a:=k) (K2:=zI) (a2:=k) (x2:=(18,kF L (S.enter c p x) y)) fun _ e=>e) Y
 iterate 10 refine Sub.keep ?_
 refine(Vc (G':=fun i=>(S.enter c p x).cpu L i) hc (Gv S L c p x) (fun j hj=>kd hj)).trans ?_
 refine Sub.keep ?_
 exact Ze hp (wE hx) (fun j _=>rfl)
theorem hJ (R:List SP) (k:Nat) (L:KL) (S:KS) (b:Nat) (hok:S.Okk b) (hb:b≤300) (hg:S.N.gen≤1000000000) (c p:Nat) (x:yg) (hc:c<S.Q.n) (hx:S.pr p=some x) (z:Int) (hz:0≤z∧z≤100) (at_:Nat) (hat:at_≤18446744073709551615) (write:Bool):zy 137 [vp k 0,vi c,vi p,vi z,vu at_,.bool write] (ent zp k (L,S)::R) fun w L2=>w= .tuple []∧L2=ent zp k (L,S.faulted c p x z at_ write)::R:=by
 have hp:=hok.lt hx
 have hxo:=hok.pr p x hx
 have htb:=hxo.tb
 have hcd:=hxo.code
 have hpc:=hxo.pc
 refine zS (zr k L S) fun y _=> ?_
 dsimp only [yE,List.cons_append,List.nil_append]
 refine SW.sub ?_ (Zh hp hx (k:=k) (L:=L) (S:=S) (y:=y) (R:=R))
 dsimp only [Zn,Zq]
 refine SW.intro rfl Tryz.func137 rfl ?_
 refine O0 5 J (fa J Y (zf rfl (fun _=>zh rfl rfl rfl (by omega) (by omega)) ?_))
 refine lf J Y (yy (p:=p) (L:=L) (S:=S) (y:=y) hp hx) (Z 7 J (z0 (fun h21=> ?_) (fun h21=> ?_)))
 ·refine Z 11 J (fa J Y (lN J Y Y J J (Z 1 J (yG (Uw _ x.w (y.cd p) x.code (by omega) x.pc ⟨by omega,by omega⟩ z ⟨by omega,by omega⟩) rfl (fun _=>rfl) ?_))))
  rintro _ _ ⟨u32,rfl,rfl⟩
  refine uL (K:=zP qN 4) (q6 u32 x.code) fun hu32=> ?_
  refine yD (v:=u32) fun au32 cu32 eu32 hvu32 _=> ?_
  subst hvu32
  refine Z 1 J (fa J Y (sN J Y Y J J J (Z 2 J (qz J J ?_))))
  rw [vx,if_pos (.inl h21)]
  refine⟨_,⟨rfl,rfl⟩,Sub.trans (Sub.one (K:=z8) (a:=y.a p) (K2:=z8) (a2:=y.a p) (x2:=jC (Yt x.w z) ((.slice au32 x.code.length cu32 eu32)) (qb x.code (x.pc+1))++ [vp (y.v p) 0]) fun _ e=>e) (Sub.trans ?_ (kern_closeP (k:=k) (R:=R) (L:=L) (S:=S) (S':=(S.setP p (some (x.fault z)))) (y:=y) (y':=(y.setCd p (.slice au32 x.code.length cu32 eu32))) (x':=x.fault z) hp rfl (fun _=>rfl) jM (fun j hj=>jJ hj) rfl (QF hx)))⟩
  exact Y
 refine Z 3 J (z0 (fun h24=> ?_) (fun h24=> ?_))
 ·refine Z 8 J (fa J Y (lN J Y Y J J (Z 1 J (yG (Uw _ x.w (y.cd p) x.code (by omega) x.pc ⟨by omega,by omega⟩ z ⟨by omega,by omega⟩) rfl (fun _=>rfl) ?_))))
  rintro _ _ ⟨u32,rfl,rfl⟩
  refine uL (K:=zP qN 4) (q6 u32 x.code) fun hu32=> ?_
  refine yD (v:=u32) fun au32 cu32 eu32 hvu32 _=> ?_
  subst hvu32
  refine Z 1 J (fa J Y (sN J Y Y J J J (Z 2 J (qz J J ?_))))
  rw [vx,if_pos (.inr h24)]
  refine⟨_,⟨rfl,rfl⟩,Sub.trans (Sub.one (K:=z8) (a:=y.a p) (K2:=z8) (a2:=y.a p) (x2:=jC (Yt x.w z) ((.slice au32 x.code.length cu32 eu32)) (qb x.code (x.pc+1))++ [vp (y.v p) 0]) fun _ e=>e) (Sub.trans ?_ (kern_closeP (k:=k) (R:=R) (L:=L) (S:=S) (S':=(S.setP p (some (x.fault z)))) (y:=y) (y':=(y.setCd p (.slice au32 x.code.length cu32 eu32))) (x':=x.fault z) hp rfl (fun _=>rfl) jM (fun j hj=>jJ hj) rfl (QF hx)))⟩
  exact Y
 refine Z 9 J (zR (Sub.trans ?_ (Sub.trans (M:=Zn k L S y p x R) (Sub.refl _) (lH (y:=y) hp hx))) ?_)
 ·exact Y
 refine Z0 (SW.sub (M:=yE k L S y R) (lv R k L S y c p x hc hp hx) Y) J (zR (Sub.trans (M:=yE k L (S.enter c p x) y R) (Sub.refl _) (Zh (y:=y) hp (show(S.enter c p x).pr p=some x from hx))) ?_)
 dsimp only [Zn,Zq]
 refine Z 6 J (fa J Y (ld J Y J (Z 1 J (zf rfl (fun _=>zC rfl rfl rfl (pW (y:=8) (by omega) (by decide))) ?_))))
 refine zf rfl (fun _=>qT rfl rfl (wi (by omega))) ?_
 refine yn (w:=vi ((at_/8:Nat):Int)) (by congr 2) ?_
 refine Z 1 J (Z4 (AO _ _ (x.vm (S.W L) p) S.M S.Rf S.Ws (by show x.S.tables.length≤800000;omega) ((at_/8:Nat):Int) write) J Y Y Y Y ?_)
 have hfb:=z7.fix_bd (x:=S.vs x) (inv:=S.inv) (o:=(p:Nat)) (page:=((at_/8:Nat):Int)) (w:=write)
 rcases hfx:z7.fix (S.vs x) S.inv (p:Nat) ((at_/8:Nat):Int) write with⟨bad,v2⟩
 rw [hfx]at hfb
 dsimp only at hfb ⊢
 refine Z 6 J (z0 (fun h49=> ?_) (fun h49=> ?_))
 ·refine Z 6 J (fa J Y (lN J Y Y J J (Z 1 J (yG (Uw _ x.w (y.cd p) x.code (by omega) x.pc ⟨by omega,by omega⟩ bad ⟨by omega,by omega⟩) rfl (fun _=>rfl) ?_))))
  rintro _ _ ⟨u56,rfl,rfl⟩
  refine uL (K:=zP qN 4) (q6 u56 x.code) fun hu56=> ?_
  refine yD (v:=u56) fun au56 cu56 eu56 hvu56 _=> ?_
  subst hvu56
  refine Z 1 J (fa J Y (sN J Y Y J J J (zR (Sub.trans (Sub.one (K:=z8) (a:=y.a p) (K2:=z8) (a2:=y.a p) (x2:=jC (Yt x.w bad) ((.slice au56 x.code.length cu56 eu56)) (qb x.code (x.pc+1))++ [vp (y.v p) 0]) fun _ e=>e) (Sub.trans ?_ (kern_closeP (k:=k) (R:=R) (L:=L) (S:=(S.enter c p x)) (S':=(((S.enter c p x).putV p x v2).upP p fun z=>z.fault bad)) (y:=y) (y':=(y.setCd p (.slice au56 x.code.length cu56 eu56))) (x':=(x.of v2).fault bad) hp rfl (fun _=>rfl) (mV (x:=x.of v2) (if_pos rfl)) (fun j hj=>(mL hj).trans (QS hj)) rfl ((YL (S:=S.enter c p x) hx).trans (iS (x:=x.of v2) (if_pos rfl)))))) ?_)))
  ·exact Y
  obtain⟨S3,hS3⟩: ∃S3,S3=(((S.enter c p x).putV p x v2).upP p fun z=>z.fault bad):=⟨_,rfl⟩
  rw [←hS3]
  have hS3c:S3=S.fault2 c p x at_ write:=by { rw [hS3];unfold KS.fault2;rw [hfx,if_pos h49] }
  obtain⟨hok3,hn3,hg3⟩:=hok.fault2 (c:=c) hx at_ write
  rw [←hS3c]at hok3 hn3 hg3
  refine Z 4 J (Z1 (vo _ _ _ S3 c (by omega) hok3.runs (by omega)) J Y (Z 1 J (qz J J ?_)))
  rw [vx,if_neg (by rintro (h|h);exact h21 h;exact h24 h),←hS3c]
  exact fq
 refine Z 5 J (zR (Sub.trans ?_ (kern_closeP (k:=k) (R:=R) (L:=L) (S:=(S.enter c p x)) (S':=(((S.enter c p x)).putV p x v2)) (y:=y) (y':=y) (x':=x.of v2) hp rfl (fun _=>rfl) Yo (fun j hj=>QS hj) rfl (YL (S:=S.enter c p x) hx))) ?_)
 ·exact Y
 refine Z1 (G3 _ _ _ ((S.enter c p x).putV p x v2) p) J Y ?_
 obtain⟨S3,hS3⟩: ∃S3,S3=(((S.enter c p x).putV p x v2).flush p):=⟨_,rfl⟩
 rw [←hS3]
 have hS3c:S3=S.fault2 c p x at_ write:=by { rw [hS3];unfold KS.fault2;rw [hfx,if_neg h49] }
 obtain⟨hok3,hn3,hg3⟩:=hok.fault2 (c:=c) hx at_ write
 rw [←hS3c]at hok3 hn3 hg3
 refine Z 4 J (Z1 (vo _ _ _ S3 c (by omega) hok3.runs (by omega)) J Y (Z 1 J (qz J J ?_)))
 rw [vx,if_neg (by rintro (h|h);exact h21 h;exact h24 h),←hS3c]
 exact fq
theorem zw.touch_c (C:zw) (cpu line:Int):(C.touch cpu line).2.n=C.n:=by unfold zw.touch;split<;>rfl
theorem zw.evict_c (C:zw) (cpu line:Int):(C.evict cpu line).2.n=C.n:=by unfold zw.evict;split<;>rfl
theorem zw.clear_c (C:zw) (line:Int):(C.clear line).2.n=C.n:=rfl
theorem zw.all_c (cpu:Int): ∀(l:List Int) (C:zw),(C.all_ cpu l).n=C.n:=by
 intro l
 induction l with
 |nil=>intro C;rfl
 |cons z l ih=>
  intro C
  show(zw.all_ (C.touch cpu z).2 cpu l).n=_
  rw [ih,zw.touch_c]
theorem bw (X:yB) (M:zA) (C:zw) (u w:Bool) (page:Int) (t:Nat):
 ((X.frame M C u w page).2.1.cpu=X.cpu∧(X.frame M C u w page).2.1.root=X.root∧(X.frame M C u w page).2.1.pcid=X.pcid∧(X.frame M C u w page).2.1.t=X.t)∧(X.frame M C u w page).2.2.n=C.n∧
  yB.frame { X with t:=t } M C u w page=((X.frame M C u w page).1,{ (X.frame M C u w page).2.1 with t:=t },(X.frame M C u w page).2.2):=by
 unfold yB.frame
 by_cases h1:X.hit u w page=true
 ·have h1':yB.hit { X with t:=t } u w page=true:=h1
  rw [if_pos h1,if_pos h1']
  exact⟨⟨rfl,rfl,rfl,rfl⟩,rfl,rfl⟩
 have h1': ¬yB.hit { X with t:=t } u w page=true:=h1
 rw [if_neg h1,if_neg h1']
 by_cases h2:uS M X u w page≠0
 ·have h2':uS M { X with t:=t } u w page≠0:=h2
  rw [if_pos h2,if_pos h2']
  exact⟨⟨rfl,rfl,rfl,rfl⟩,zw.all_c _ _ _,rfl⟩
 have h2': ¬uS M { X with t:=t } u w page≠0:=h2
 rw [if_neg h2,if_neg h2']
 exact⟨⟨rfl,rfl,rfl,rfl⟩,zw.all_c _ _ _,rfl⟩
theorem tj (M:zA) (page:Nat): ∀k s,0≤(M.walk page k s).2∧(M.walk page k s).2≤100:=by
 intro k
 induction k with
 |zero=>intro s;exact⟨Int.le_refl _,by show(0:Int)≤100;omega⟩
 |succ k ih=>
  intro s
  unfold zA.walk
  dsimp only
  split
  ·dsimp only;split<;>omega
  split
  ·exact ih _
  exact⟨by show(0:Int)≤4;omega,by show(4:Int)≤100;omega⟩
theorem m8 (X:yB) (M:zA) (C:zw) (u w:Bool) (page:Int):0≤(X.frame M C u w page).1.2∧(X.frame M C u w page).1.2≤100:=by
 have hw:0≤uS M X u w page∧uS M X u w page≤100:=by
  show 0≤(if(M.walkTo X.root page).2=0 then _ else(M.walkTo X.root page).2)∧(if(M.walkTo X.root page).2=0 then _ else(M.walkTo X.root page).2)≤100
  split
  ·unfold gE.Right;split<;>omega
  unfold zA.walkTo
  split
  ·exact⟨by show(0:Int)≤3;omega,by show(3:Int)≤100;omega⟩
  split
  ·exact tj _ _ _ _
  exact⟨by show(0:Int)≤4;omega,by show(4:Int)≤100;omega⟩
 unfold yB.frame
 split
 ·exact⟨Int.le_refl _,by show(0:Int)≤100;omega⟩
 split
 ·exact hw
 exact⟨Int.le_refl _,by show(0:Int)≤100;omega⟩
theorem vT (X:yB) (M:zA) (C:zw) (u w:Bool) (a:Nat) (t:Nat):
 ((X.trans M C u w a).2.1.cpu=X.cpu∧(X.trans M C u w a).2.1.root=X.root∧(X.trans M C u w a).2.1.pcid=X.pcid∧(X.trans M C u w a).2.1.t=X.t)∧(X.trans M C u w a).2.2.n=C.n∧
  yB.trans { X with t:=t } M C u w a=((X.trans M C u w a).1,{ (X.trans M C u w a).2.1 with t:=t },(X.trans M C u w a).2.2)∧0≤(X.trans M C u w a).1.2∧(X.trans M C u w a).1.2≤100:=by
 obtain⟨h1,h2,h3⟩:=bw X M C u w ((a/8:Nat):Int) t
 have h4:=m8 X M C u w ((a/8:Nat):Int)
 unfold yB.trans
 by_cases ha:4096≤a
 ·rw [if_pos ha,if_pos ha]
  exact⟨⟨rfl,rfl,rfl,rfl⟩,rfl,rfl,by show(0:Int)≤3;omega,by show(3:Int)≤100;omega⟩
 rw [if_neg ha,if_neg ha,h3]
 dsimp only
 by_cases hz:(X.frame M C u w ((a/8:Nat):Int)).1.2≠0
 ·rw [if_pos hz,if_pos hz]
  exact⟨h1,h2,rfl,h4⟩
 rw [if_neg hz,if_neg hz]
 exact⟨h1,h2,rfl,Int.le_refl _,by show(0:Int)≤100;omega⟩
theorem JO (S:KS) (L:KL) (c:Nat) (u w:Bool) (a:Nat):(S.cpu L c).X.trans S.M S.H u w a=(((S.mm c).trans S.M S.H u w a).1,{ ((S.mm c).trans S.M S.H u w a).2.1 with t:=L.t c },((S.mm c).trans S.M S.H u w a).2.2):=
 (vT (S.mm c) S.M S.H u w a (L.t c)).2.2.1
theorem jx (S:KS) (L:KL) (c:Nat) (H:zw) {X:yB} (h1:X.cpu=(c:Nat)) (h2:X.root=(S.U c).root) (h3:X.pcid=(S.U c).pcid):(S.setX c X.xs H).cpu L c= { S.cpu L c with X:= { X with t:=L.t c } } :=by
 obtain⟨a,b,d,e,f⟩:=X
 dsimp only at h1 h2 h3
 subst h1 h2 h3
 simp only [KS.cpu,KS.setX,if_true]
theorem QU (S:KS) (L:KL) {c j:Nat} (xs:List vB) (H:zw) (h:j≠c):(S.setX c xs H).cpu L j=S.cpu L j:=by
 simp only [KS.cpu,KS.setX,if_neg h]
theorem rd_le {M:zA} (h:M.Ok) (z:Int):M.rd z≤18446744073709551615:=by
 unfold zA.rd zA.read
 split
 ·exact h.2.2 _ _
 show 0≤_;omega
theorem ff {w:Nat→Nat} {cd:AVal} {pc:Int} {n:Nat} (h:n<8):(jC w cd pc)[n]? =some (vu (w n)):=by
 rcases(by omega:n=0∨n=1∨n=2∨n=3∨n=4∨n=5∨n=6∨n=7)with rfl|rfl|rfl|rfl|rfl|rfl|rfl|rfl<;>rfl
theorem CX {i:yl} (h:i.ok=true):1≤i.op∧i.op≤7:=by
 unfold yl.ok yp at h
 rw [Bool.and_eq_true]at h
 exact of_decide_eq_true h.1
theorem Be {i:yl} (h:i.ok=true) (h4:i.op=4):0≤i.a∧i.a<8:=by
 unfold yl.ok yp at h
 rw [h4]at h
 simp only [Bool.and_eq_true]at h
 have:=h.2.1
 unfold Qt at this
 rw [if_pos (by decide)]at this
 exact of_decide_eq_true this
theorem Yh {code:List yl} {pc:Int} {i:yl} (h:qh code pc=some i):i.ok=true:=by
 unfold qh at h
 split at h
 ·split at h
  ·split at h
   ·cases h;assumption
   cases h
  cases h
 cases h
section
variable {S:KS} {b:Nat}
theorem KS.Okk.setH (h:S.Okk b) {H:zw} (hH:H.n=S.H.n) {M:zA} :({ S with H:=H,M:=M } :KS).Okk b:=⟨h.n0,h.nN,hH.trans h.nH,h.q,h.al,h.no,h.pr,h.cn,h.ww,h.b1⟩
theorem KS.Okk.setHH (h:S.Okk b) {H:zw} (hH:H.n=S.H.n):({ S with H:=H } :KS).Okk b:=⟨h.n0,h.nN,hH.trans h.nH,h.q,h.al,h.no,h.pr,h.cn,h.ww,h.b1⟩
theorem KS.Okk.memory (h:S.Okk b) (hM:S.M.Ok) {p:Nat} {x:yg} (hx:S.pr p=some x) (c:Nat) (i:yl):(S.memory c p x i).Okk (b+1):=by
 obtain⟨_,hn,_⟩:=vT (S.mm c) S.M S.H true (decide (i.op=4)) (vA x.w i) 0
 have h1:=h.setX c ((S.mm c).trans S.M S.H true (decide (i.op=4)) (vA x.w i)).2.1.xs hn
 have hxo:=(h.pr p x hx).mono (c:=b+1) (by omega)
 unfold KS.memory
 dsimp only
 split
 ·exact h1.faulted (p:=p) (x:=x) hx _ _ _
 have h2:=h1.mono (c:=b+1) (by omega)
 split
 ·exact(h2.setHH (zw.touch_c _ _ _)).setP (p:=p) (x:=x) hx (hxo.done i (rd_le hM _))
 split
 ·exact(h2.setH (zw.touch_c _ _ _)).setP (p:=p) (x:=x) hx (hxo.done i (by omega))
 exact(h2.setHH (zw.clear_c _ _)).setP (p:=p) (x:=x) hx (hxo.done i (by omega))
theorem fi {x:yg} (h:x.Ok b):(yg.mk ((qn x.w x.code x.pc).getD (x.w,x.pc)).1 ((qn x.w x.code x.pc).getD (x.w,x.pc)).2 x.code x.A x.fm x.sm x.S).Ok b:=by
 have hp:=h.pc
 have hc:=h.code
 unfold qn
 split
 ·exact h
 rename_i i hi
 have hk:=Yh hi
 have hn:0≤i.n∧i.n≤1000000∨True:= .inr trivial
 split
 ·refine⟨Qk h.w _ ?_,hc,Zg hc (by omega),h.tb⟩
  rename_i ho
  unfold yl.ok yp at hk
  rw [ho]at hk
  simp only [Bool.and_eq_true]at hk
  have:=of_decide_eq_true hk.2.2.2
  have e1:cO ((1:Int)-1).toNat≤1000000:=by decide
  omega
 split
 ·exact⟨Qk h.w _ (kj _ _),hc,Zg hc (by omega),h.tb⟩
 split
 ·rename_i ho
  have hj:0≤i.n:=by
   unfold yl.ok yp at hk
   rw [ho]at hk
   simp only [Bool.and_eq_true]at hk
   have:=of_decide_eq_true hk.2.2.2
   have e1:0≤rZ ((6:Int)-1).toNat:=by decide
   omega
  split
  ·exact⟨h.w,hc,Zg hc hj,h.tb⟩
  exact⟨h.w,hc,Zg hc (by omega),h.tb⟩
 exact h
theorem KS.Okk.instr (h:S.Okk b) (hM:S.M.Ok) {c p:Nat} {x:yg} (hc:c<S.Q.n) (hx:S.pr p=some x) (i:yl):(S.instr c p x i).Okk (b+1):=by
 unfold KS.instr
 split
 ·exact h.call hc hx i
 split
 ·exact h.memory hM hx c i
 exact(h.mono (by omega)).setP hx ((fi (h.pr p x hx)).mono (by omega))
theorem KS.Okk.runP (h:S.Okk b) (hM:S.M.Ok) {c:Nat} (hc:c<S.Q.n):(S.runP c).2.Okk (b+1):=by
 unfold KS.runP
 split
 ·exact h.mono (by omega)
 rename_i x hx
 split
 ·exact h.mono (by omega)
 exact h.instr hM hc hx _
theorem gA (S:KS) (c:Nat):(S.leaveP c).M=S.M∧(S.leaveP c).Q=S.Q∧(S.leaveP c).pr=S.pr∧(S.leaveP c).Rf=S.Rf∧(S.leaveP c).Ws=S.Ws∧(S.leaveP c).H=S.H∧(S.leaveP c).ww=S.ww:=by
 unfold KS.leaveP;split<;>exact⟨rfl,rfl,rfl,rfl,rfl,rfl,rfl⟩
theorem ui (S:KS) (c:Nat):(S.leave c).M=S.M∧(S.leave c).Q=S.Q∧(S.leave c).pr=S.pr∧(S.leave c).Rf=S.Rf∧(S.leave c).Ws=S.Ws∧(S.leave c).H=S.H∧(S.leave c).ww=S.ww:=by
 have ho: ∀(T:KS) (i:Nat),(T.others c i).M=T.M∧(T.others c i).Q=T.Q∧(T.others c i).pr=T.pr∧(T.others c i).Rf=T.Rf∧(T.others c i).Ws=T.Ws∧(T.others c i).H=T.H∧(T.others c i).ww=T.ww:=by
  intro T i
  unfold KS.others
  split
  ·exact gA T i
  exact⟨rfl,rfl,rfl,rfl,rfl,rfl,rfl⟩
 have hf: ∀(l:List Nat) (T:KS),(l.foldl (fun S i=>S.others c i) T).M=T.M∧(l.foldl (fun S i=>S.others c i) T).Q=T.Q∧(l.foldl (fun S i=>S.others c i) T).pr=T.pr∧(l.foldl (fun S i=>S.others c i) T).Rf=T.Rf∧(l.foldl (fun S i=>S.others c i) T).Ws=T.Ws∧(l.foldl (fun S i=>S.others c i) T).H=T.H∧(l.foldl (fun S i=>S.others c i) T).ww=T.ww:=by
  intro l
  induction l with
  |nil=>intro T;exact⟨rfl,rfl,rfl,rfl,rfl,rfl,rfl⟩
  |cons i l ih=>
   intro T
   obtain⟨a1,a2,a3,a4,a5,a6,a7⟩:=ih (T.others c i)
   obtain⟨b1,b2,b3,b4,b5,b6,b7⟩:=ho T i
   exact⟨a1.trans b1,a2.trans b2,a3.trans b3,a4.trans b4,a5.trans b5,a6.trans b6,a7.trans b7⟩
 unfold KS.leave
 split
 ·exact⟨rfl,rfl,rfl,rfl,rfl,rfl,rfl⟩
 split
 ·obtain⟨a1,a2,a3,a4,a5,a6,a7⟩:=hf (List.range S.Q.n) (S.leaveP c).bare
  obtain⟨b1,b2,b3,b4,b5,b6,b7⟩:=gA S c
  exact⟨a1.trans b1,a2.trans b2,a3.trans b3,a4.trans b4,a5.trans b5,a6.trans b6,a7.trans b7⟩
 exact gA S c
theorem KS.Okk.run (h:S.Okk b) (hM:S.M.Ok) {c:Nat} (hc:c<S.Q.n):(S.run c).2.Okk (b+1):=by
 unfold KS.run
 split
 ·split
  ·exact(h.pick hc).mono (by omega)
  have e:=ui (S.pick c) c
  refine((h.pick hc).leave c).runP (by rw [e.1];exact hM) ?_
  rw [e.2.1]
  show c<(S.Q.pick c).2.n
  rw [zV.pick_n];exact hc
 exact h.runP hM hc
theorem KS.Okk.enterP (h:S.Okk b) (c:Nat) (z:Int):(S.enterP c z).Okk b:=by
 unfold KS.enterP;split
 ·exact h.enter _ _ _
 exact h
theorem KS.Okk.tick (h:S.Okk b) {c:Nat} (hc:c<S.Q.n):(S.tick c).Okk b:=by
 unfold KS.tick
 refine KS.Okk.leave ?_ c
 split
 ·exact(h.pick hc).enterP _ _
 exact h.pick hc
theorem KS.Okk.warm1 (h:S.Okk b) (c:Nat) (f w:Int):(S.warm1 c f w).2.Okk b:=by
 obtain⟨_,hn,_⟩:=vT (S.mm c) S.M S.H false false (8*(256+f)+w).toNat 0
 unfold KS.warm1
 split
 ·dsimp only
  split
  ·exact h.setX c _ hn
  exact h.setX c _ ((zw.touch_c _ _ _).trans hn)
 exact h
theorem KS.Okk.warm (h:S.Okk b) (c:Nat) (f w:Int):(S.warm c f w).2.Okk b:=by
 unfold KS.warm
 split
 ·exact h
 exact((h.enterP c _).warm1 c f w).leave c
theorem l5 (X:yB) (M:zA) (C:zw) (cpu page:Int):(X.seen M C cpu page).2.n=C.n:=by
 unfold yB.seen;split
 ·rfl
 exact zw.all_c _ _ _
theorem pQ (X:yB) (M:zA) (C:zw) (cpu:Int) (a:Nat):(X.spec M C cpu a).2.n=C.n:=by
 unfold yB.spec;split
 ·rfl
 dsimp only;split
 ·exact l5 _ _ _ _ _
 exact(zw.touch_c _ _ _).trans (l5 _ _ _ _ _)
theorem sT (X:yB) (M:zA) (C:zw) (cpu:Int) (a d:Nat) (e:Int):(X.chain M C cpu a d e).2.n=C.n:=by
 unfold yB.chain;split
 ·exact pQ _ _ _ _ _
 dsimp only;split<;>exact(pQ _ _ _ _ _).trans (pQ _ _ _ _ _)
theorem KS.Okk.stepAt (h:S.Okk b) (hM:S.M.Ok) {c:Nat} (hc:c<S.Q.n) (x:wN):(S.stepAt c x).2.Okk (b+1):=by
 have hm:=h.mono (c:=b+1) (by omega)
 unfold KS.stepAt
 split
 ·exact h.run hM hc
 split
 ·exact hm.tick hc
 split
 ·exact hm.setHH (zw.evict_c _ _ _)
 split
 ·unfold KS.forget;split
  ·exact hm.setU _ _
  exact hm
 split
 ·exact hm.warm c _ _
 split
 ·split
  ·exact hm
  exact hm.setHH (sT _ _ _ _ _ _ _)
 exact hm
theorem KS.Okk.step (h:S.Okk b) (hM:S.M.Ok) (x:wN):(S.step x).2.Okk (b+1):=by
 unfold KS.step
 split
 ·exact h.stepAt hM (by omega) x
 exact h.mono (by omega)
end
theorem lQ {X:yB} (h:X.Ok) {M:zA} (hM:M.Ok) (C:zw) (u w:Bool) (a:Nat):0≤(X.trans M C u w a).1.1∧(X.trans M C u w a).1.1≤600:=by
 have h1:=yB.frame_ok h hM C u w ((a/8:Nat):Int)
 unfold yB.trans
 split
 ·exact⟨Int.le_refl _,by show(0:Int)≤600;omega⟩
 dsimp only
 split
 ·exact⟨Int.le_refl _,by show(0:Int)≤600;omega⟩
 dsimp only;omega
theorem oA {S:KS} {L:KL} {y:KY} {p:Nat} {x:yg} {v:AVal} (hx:S.pr p=some x):S.prs L (y.setCd p v) p=(y.a p,y.v p,v,some (x,x.vm (S.W L) p)):=by
 simp only [KS.prs,KY.setCd,if_true,hx,Option.map_some]
theorem eC {S:KS} {L:KL} {y:KY} {p j:Nat} {v:AVal} (h:j≠p):S.prs L (y.setCd p v) j=S.prs L y j:=by
 simp only [KS.prs,KY.setCd,if_neg h]
theorem nS (w:Nat→Nat) (i:yl):vA w i≤18446744073709551615:=by
 unfold vA;split
 ·exact kj _ _
 omega
theorem gx (R:List SP) (k:Nat) (L:KL) (S:KS) (b:Nat) (hok:S.Okk b) (hb:b≤300) (hg:S.N.gen≤1000000000) (c p:Nat) (x:yg) (hc:c<S.Q.n) (hx:S.pr p=some x) (i:yl) (hi:i.ok=true):zy 89 [vp k 0,vi c,vi p,.agg (qN i)] (ent zp k (L,S)::R) fun w L2=>w= .tuple []∧L2=ent zp k (L,S.memory c p x i)::R:=by
 have hp:=hok.lt hx
 have hxo:=hok.pr p x hx
 have htb:=hxo.tb
 have hcd:=hxo.code
 have hpc:=hxo.pc
 have hat:=nS x.w i
 refine zS (zr k L S) fun y _=> ?_
 dsimp only [yE,List.cons_append,List.nil_append]
 have hl:((List.range S.Q.n).map L.c).length=S.Q.n:=by simp
 refine SW.sub ?_ (W5 hc hp hx (k:=k) (L:=L) (S:=S) (y:=y) (R:=R))
 dsimp only [WR,Zq]
 have hlc:((List.range S.Q.n).map L.c)[c]? =some (L.c c):=vw L.c hc
 refine yQ (K:=zP uJ 1) (q6 y.cv ((List.range S.Q.n).map L.c)) fun hcv=> ?_
 replace hcv:=uK hcv
 refine yQ (qD L.m S.M) fun hMo=> ?_
 refine SW.intro rfl Tryz.func89 rfl ?_
 refine O0 2 J (yW rfl rfl rfl rfl fun i7=> ?_)
 refine Z 3 J (uL (K:=zP qN 4) (q6 (y.cd p) x.code) fun hcd0=> ?_)
 generalize y.cd p=cd0 at hcd0 ⊢
 refine yD (v:=cd0) fun acd0 ccd0 ecd0 hvcd0 _=> ?_
 subst hvcd0
 refine Z 3 J (fa J Y (zf rfl (fun _=>zh rfl rfl rfl (by omega) (by omega)) ?_))
 refine lf J Y (yy (p:=p) (L:=L) (S:=S) (y:=y) hp hx) (Z 1 J (fa J Y (lN J Y Y J J (zd rfl rfl rfl fun i8=> ?_))))
 refine sN J Y Y J J J (Z 2 J (zO [0,0,3,0,8,24,7,127] [([0,1,3,4,5],[0,1,4,5],some 2),([6,7],[4,5],none)] (by kernel_rfl) ?_))
 refine z4 (Vl J Y Y J J (Vl J Y Y J J (zj J Y (ye J Y J (ZK 1 J (z5 ⟨(YC J Y Y J J J (z3 _ (ZP hcd0)) (YC J Y Y J J J (z3 _ rfl) (y6 J Y J J J (gv J J J (z3 _ rfl) z6)))),?_⟩))))))
 refine Z0 (sX _ x.w (.slice acd0 x.code.length ccd0 ecd0) x.pc i) J (zF (z4 (ZK 2 J (z5 ⟨(y6 J Y J J J (gv J J J (z3 _ rfl) z6)),?_⟩))))
 refine OX 1 J (zO [0,1,3,7,0,31,63,127,0,256,768,1792,3840,0,8192,24576,57344,0,0,524287,1048575,2097151,2097151,4194303,16777215] [([0,1,2,3,4,5,6,8,9,10,11,12,13,14,15,16,17,18],[3,6,12,16],some 7),([],[12,16],some 19),([20,21,22,23,24],[],none)] (by kernel_rfl) ?_)
 refine z4 (ZK 2 J (zj J Y (jS J Y wt (ZK 1 J (uW rfl (fun _ h=>yM rfl rfl rfl (by omega) (by omega) h) ?_)))))
 refine Wm 0 J Y J hlc J (ZK 2 J (zj J Y (zj J Y (jS J Y xD (ZK 2 J (zj J Y (jS J Y VS (ZK 2 J (z5 ⟨(uY J Y wt J (z3 _ hcv) (wV rfl (fun _ h=>qo (j:=0) rfl rfl rfl hlc rfl h) rfl rfl (z3 _ rfl) (uY J Y xD J (z3 _ rfl) (uY J Y VS J (z3 _ rfl) z6)))),?_⟩)))))))))
 refine Z1 (Qw _ _ (S.cpu L c)) J Y (zF (z4 (z5 ⟨(uY J Y xD J (z3 _ rfl) (uY J Y VS J (z3 _ rfl) z6)),?_⟩)))
 refine qw (wz (L.c c) (S.cpu L c)) fun _ _=> ?_
 dsimp only [UZ,List.cons_append,List.nil_append]
 refine uL (YV (L.u c) (S.cpu L c).X) fun hXo=> ?_
 refine Z3 (xF _ _ L.m L.h (S.cpu L c).X S.M S.H true (decide (i.op=4)) (vA x.w i)) J Y Y Y ?_
 rw [JO]
 obtain⟨⟨hX1,hX2,hX3,_⟩,hHn,_,hft0,hft1⟩:=vT (S.mm c) S.M S.H true (decide (i.op=4)) (vA x.w i) 0
 have hpl:=lQ (X:=S.mm c) hXo hMo S.H true (decide (i.op=4)) (vA x.w i)
 rcases hr:(S.mm c).trans S.M S.H true (decide (i.op=4)) (vA x.w i)with⟨⟨pl,ft⟩,X2,H2⟩
 rw [hr]at hX1 hX2 hX3 hHn hft0 hft1 hpl
 dsimp only at hX1 hX2 hX3 hHn hft0 hft1 hpl ⊢
 refine zR (Sub.mk2 (p:=ent vv (L.c c) { S.cpu L c with X:= { X2 with t:=L.t c } }) (yj (C:= { S.cpu L c with X:= { X2 with t:=L.t c } })) (Sub.refl _)) ?_
 refine zF (z4 (ZK 5 J (z5 ⟨z6,?_⟩)))
 refine OX 5 J (z0 (fun h53=> ?_) (fun h53=> ?_))
 ·have hok1:(S.setX c X2.xs H2).Okk b:=hok.setX c X2.xs hHn
  refine zR (Sub.trans (Sub.one (K:=z8) (a:=y.a p) (K2:=z8) (a2:=y.a p) (x2:=jC (x.w) ((.slice acd0 x.code.length ccd0 ecd0)) (x.pc)++ [vp (y.v p) 0]) fun _ e=>e) (Sub.trans ?_ (wH (k:=k) (R:=R) (L:=L) (S:=S) (S':=(S.setX c X2.xs H2)) (y:=y) (y':=(y.setCd p (.slice acd0 x.code.length ccd0 ecd0))) (x':=x) (u:= { S.cpu L c with X:= { X2 with t:=L.t c } }) hc hp rfl (jx S L c H2 hX1 hX2 hX3) (fun j hj=>QU S L X2.xs H2 hj) (oA (S:=(S.setX c X2.xs H2)) hx) (fun j hj=>eC (S:=(S.setX c X2.xs H2)) hj) rfl (show kF L S y=kF L (S.setX c X2.xs H2) (y.setCd p (.slice acd0 x.code.length ccd0 ecd0))from rfl)))) ?_
  ·exact Y
  refine Z 10 J (Z1 (hJ _ _ _ (S.setX c X2.xs H2) b hok1 hb hg c p x hc hx ft ⟨hft0,hft1⟩ (vA x.w i) hat (decide (i.op=4))) J Y (Z 2 J (qz J J ?_)))
  have e:S.memory c p x i=(S.setX c X2.xs H2).faulted c p x ft (vA x.w i) (decide (i.op=4)):=by { unfold KS.memory;simp only [hr];exact if_pos h53 }
  rw [e]
  exact fq
 refine Z 10 J (fa J Y (ld J Y J (Z 5 J (z0 (fun h70=> ?_) (fun h70=> ?_)))))
 ·refine Z 7 J (fa J Y (lf J Y VS (Z 2 J (Z1 (uD _ _ H2 (c:Nat) pl) J Y (Z 4 J (fa J Y (fa J Y (lf J Y xD (Z 1 J (Z1 (Wt _ _ S.M pl (by omega)) J Y (Z 5 J (zO [0,0,1,5,15,31,0,0,0,448,1023,2047,4095] [([0,1,2,3,4,5,6,7,8],[5,6,7],some 9),([10,11],[5],some 12),([],[],none)] (by kernel_rfl) ?_))))))))))))
  refine z4 (ZK 3 J (zj J Y (vN rfl (fun _=>zh rfl rfl rfl (by omega) (by omega)) ?_)))
  refine jS J Y (yy (p:=p) (L:=L) (S:=S) (y:=y) hp hx) (Vl J Y Y J J (Vl J Y Y J J (ZK 1 J (z5 ⟨(uY J Y (yy (p:=p) (L:=L) (S:=S) (y:=y) hp hx) J (z3 _ rfl) (YC J Y Y J J J (z3 _ (ZP hcd0)) (YC J Y Y J J J (z3 _ rfl) z6))),?_⟩))))
  refine yG (Qa _ x.w (.slice acd0 x.code.length ccd0 ecd0) x.code (by omega) x.pc ⟨by omega,by omega⟩ i (S.M.rd pl)) rfl (fun _=>rfl) ?_
  rintro _ _ ⟨u118,rfl,rfl⟩
  refine uL (K:=zP qN 4) (q6 u118 x.code) fun hu118=> ?_
  refine yD (v:=u118) fun au118 cu118 eu118 hvu118 _=> ?_
  subst hvu118
  refine zF (z4 (ZK 1 J (zj J Y (z5 ⟨(uY J Y (yy (p:=p) (L:=L) (S:=S) (y:=y) hp hx) J (z3 _ rfl) z6),?_⟩))))
  refine sN J Y Y J J J (zF (z4 (z5 ⟨z6,?_⟩)))
  refine qz J J ?_
  have e:S.memory c p x i=(({ S.setX c X2.xs H2 with H:=(H2.touch c pl).2 } :KS).setP p (some (x.done i (S.M.rd pl)))):=by { unfold KS.memory;simp only [hr];rw [if_neg h53,if_pos h70] }
  rw [e]
  refine⟨_,⟨rfl,rfl⟩,Sub.trans (Sub.one (K:=z8) (a:=y.a p) (K2:=z8) (a2:=y.a p) (x2:=jC (qF x.w i (S.M.rd pl)) ((.slice au118 x.code.length cu118 eu118)) (qb x.code (x.pc+1))++ [vp (y.v p) 0]) fun _ e=>e) (Sub.trans ?_ (wH (k:=k) (R:=R) (L:=L) (S:=S) (S':=(({ S.setX c X2.xs H2 with H:=(H2.touch c pl).2 } :KS).setP p (some (x.done i (S.M.rd pl))))) (y:=y) (y':=(y.setCd p (.slice au118 x.code.length cu118 eu118))) (x':=x.done i (S.M.rd pl)) (u:= { S.cpu L c with X:= { X2 with t:=L.t c } }) hc hp rfl (jx S L c H2 hX1 hX2 hX3) (fun j hj=>QU S L X2.xs H2 hj) (jM (S:=({ S.setX c X2.xs H2 with H:=(H2.touch c pl).2 } :KS))) (fun j hj=>jJ (S:=({ S.setX c X2.xs H2 with H:=(H2.touch c pl).2 } :KS)) hj) rfl ((show kF L S y=kF L ({ S.setX c X2.xs H2 with H:=(H2.touch c pl).2 } :KS) y from rfl).trans (QF (S:=({ S.setX c X2.xs H2 with H:=(H2.touch c pl).2 } :KS)) (x:=x) hx))))⟩
  exact Y
 refine Z 6 J (z0 (fun h89=> ?_) (fun h89=> ?_))
 ·have hia:=Be hi h89
  refine Z 7 J (fa J Y (lf J Y VS (Z 2 J (Z1 (uD _ _ H2 (c:Nat) pl) J Y (Z 1 J (zO [0,1,3,7,15,0,0,64,0,448,960,2047] [([0,1,2,3,4,5,6,7,8,9,10],[4,7,10],some 11),([],[],none)] (by kernel_rfl) ?_))))))
  refine z4 ?_
  have hia:=Be hi h89
  refine ZK 2 J (zj J Y (zj J Y (jS J Y xD (ZK 1 J (zj J Y (ye J Y J (zj J Y (vN rfl (fun _=>zh rfl rfl rfl (by omega) (by omega)) ?_))))))))
  refine uW rfl (fun _ h=>Zp rfl rfl (ff (w:=x.w) (n:=i.a.toNat) (by omega)) h) ?_
  refine z5 ⟨(uY J Y xD J (z3 _ rfl) (y6 J Y J J J (wV rfl (fun _ h=>Zp rfl rfl (ff (w:=x.w) (n:=i.a.toNat) (by omega)) h) rfl rfl (z3 _ rfl) z6))),?_⟩
  refine Z1 (jT _ _ S.M pl (by omega) (x.w i.a.toNat) (hxo.w _)) J Y (zF (z4 (z5 ⟨z6,?_⟩)))
  refine zO [0,0,1,5,15,31,0,0,0,448,1023,2047,4095] [([0,1,2,3,4,5,6,7,8],[5,6,7],some 9),([10,11],[5],some 12),([],[],none)] (by kernel_rfl) ?_
  refine z4 (ZK 3 J (zj J Y (vN rfl (fun _=>zh rfl rfl rfl (by omega) (by omega)) ?_)))
  refine jS J Y (yy (p:=p) (L:=L) (S:=S) (y:=y) hp hx) (Vl J Y Y J J (Vl J Y Y J J (ZK 1 J (z5 ⟨(uY J Y (yy (p:=p) (L:=L) (S:=S) (y:=y) hp hx) J (z3 _ rfl) (YC J Y Y J J J (z3 _ (ZP hcd0)) (YC J Y Y J J J (z3 _ rfl) z6))),?_⟩))))
  refine yG (Qa _ x.w (.slice acd0 x.code.length ccd0 ecd0) x.code (by omega) x.pc ⟨by omega,by omega⟩ i (0)) rfl (fun _=>rfl) ?_
  rintro _ _ ⟨u118,rfl,rfl⟩
  refine uL (K:=zP qN 4) (q6 u118 x.code) fun hu118=> ?_
  refine yD (v:=u118) fun au118 cu118 eu118 hvu118 _=> ?_
  subst hvu118
  refine zF (z4 (ZK 1 J (zj J Y (z5 ⟨(uY J Y (yy (p:=p) (L:=L) (S:=S) (y:=y) hp hx) J (z3 _ rfl) z6),?_⟩))))
  refine sN J Y Y J J J (zF (z4 (z5 ⟨z6,?_⟩)))
  refine qz J J ?_
  have e:S.memory c p x i=(({ S.setX c X2.xs H2 with H:=(H2.touch c pl).2,M:=S.M.write pl (x.w i.a.toNat) } :KS).setP p (some (x.done i (0)))):=by { unfold KS.memory;simp only [hr];rw [if_neg h53,if_neg h70,if_pos h89] }
  rw [e]
  refine⟨_,⟨rfl,rfl⟩,Sub.trans (Sub.one (K:=z8) (a:=y.a p) (K2:=z8) (a2:=y.a p) (x2:=jC (qF x.w i (0)) ((.slice au118 x.code.length cu118 eu118)) (qb x.code (x.pc+1))++ [vp (y.v p) 0]) fun _ e=>e) (Sub.trans ?_ (wH (k:=k) (R:=R) (L:=L) (S:=S) (S':=(({ S.setX c X2.xs H2 with H:=(H2.touch c pl).2,M:=S.M.write pl (x.w i.a.toNat) } :KS).setP p (some (x.done i (0))))) (y:=y) (y':=(y.setCd p (.slice au118 x.code.length cu118 eu118))) (x':=x.done i (0)) (u:= { S.cpu L c with X:= { X2 with t:=L.t c } }) hc hp rfl (jx S L c H2 hX1 hX2 hX3) (fun j hj=>QU S L X2.xs H2 hj) (jM (S:=({ S.setX c X2.xs H2 with H:=(H2.touch c pl).2,M:=S.M.write pl (x.w i.a.toNat) } :KS))) (fun j hj=>jJ (S:=({ S.setX c X2.xs H2 with H:=(H2.touch c pl).2,M:=S.M.write pl (x.w i.a.toNat) } :KS)) hj) rfl ((show kF L S y=kF L ({ S.setX c X2.xs H2 with H:=(H2.touch c pl).2,M:=S.M.write pl (x.w i.a.toNat) } :KS) y from rfl).trans (QF (S:=({ S.setX c X2.xs H2 with H:=(H2.touch c pl).2,M:=S.M.write pl (x.w i.a.toNat) } :KS)) (x:=x) hx))))⟩
  exact Y
 refine Z 6 J (fa J Y (lf J Y VS (Z 1 J (Z1 (hZ _ _ H2 pl) J Y (Z 1 J (zO [0,0,1,5,15,31,0,0,0,448,1023,2047,4095] [([0,1,2,3,4,5,6,7,8],[5,6,7],some 9),([10,11],[5],some 12),([],[],none)] (by kernel_rfl) ?_))))))
 refine z4 (ZK 3 J (zj J Y (vN rfl (fun _=>zh rfl rfl rfl (by omega) (by omega)) ?_)))
 refine jS J Y (yy (p:=p) (L:=L) (S:=S) (y:=y) hp hx) (Vl J Y Y J J (Vl J Y Y J J (ZK 1 J (z5 ⟨(uY J Y (yy (p:=p) (L:=L) (S:=S) (y:=y) hp hx) J (z3 _ rfl) (YC J Y Y J J J (z3 _ (ZP hcd0)) (YC J Y Y J J J (z3 _ rfl) z6))),?_⟩))))
 refine yG (Qa _ x.w (.slice acd0 x.code.length ccd0 ecd0) x.code (by omega) x.pc ⟨by omega,by omega⟩ i (0)) rfl (fun _=>rfl) ?_
 rintro _ _ ⟨u118,rfl,rfl⟩
 refine uL (K:=zP qN 4) (q6 u118 x.code) fun hu118=> ?_
 refine yD (v:=u118) fun au118 cu118 eu118 hvu118 _=> ?_
 subst hvu118
 refine zF (z4 (ZK 1 J (zj J Y (z5 ⟨(uY J Y (yy (p:=p) (L:=L) (S:=S) (y:=y) hp hx) J (z3 _ rfl) z6),?_⟩))))
 refine sN J Y Y J J J (zF (z4 (z5 ⟨z6,?_⟩)))
 refine qz J J ?_
 have e:S.memory c p x i=(({ S.setX c X2.xs H2 with H:=(H2.clear pl).2 } :KS).setP p (some (x.done i (0)))):=by { unfold KS.memory;simp only [hr];rw [if_neg h53,if_neg h70,if_neg h89] }
 rw [e]
 refine⟨_,⟨rfl,rfl⟩,Sub.trans (Sub.one (K:=z8) (a:=y.a p) (K2:=z8) (a2:=y.a p) (x2:=jC (qF x.w i (0)) ((.slice au118 x.code.length cu118 eu118)) (qb x.code (x.pc+1))++ [vp (y.v p) 0]) fun _ e=>e) (Sub.trans ?_ (wH (k:=k) (R:=R) (L:=L) (S:=S) (S':=(({ S.setX c X2.xs H2 with H:=(H2.clear pl).2 } :KS).setP p (some (x.done i (0))))) (y:=y) (y':=(y.setCd p (.slice au118 x.code.length cu118 eu118))) (x':=x.done i (0)) (u:= { S.cpu L c with X:= { X2 with t:=L.t c } }) hc hp rfl (jx S L c H2 hX1 hX2 hX3) (fun j hj=>QU S L X2.xs H2 hj) (jM (S:=({ S.setX c X2.xs H2 with H:=(H2.clear pl).2 } :KS))) (fun j hj=>jJ (S:=({ S.setX c X2.xs H2 with H:=(H2.clear pl).2 } :KS)) hj) rfl ((show kF L S y=kF L ({ S.setX c X2.xs H2 with H:=(H2.clear pl).2 } :KS) y from rfl).trans (QF (S:=({ S.setX c X2.xs H2 with H:=(H2.clear pl).2 } :KS)) (x:=x) hx))))⟩
 exact Y
theorem fW {P:Program} {F:z9} {o:Oper} {T:Tm} {H:Hp} {c:Call} {t:TypeId} {ts:List TypeId} {x:Operand} {sz n k e:Nat} {a:Option (Nat×Nat)} [hs:SL P t sz] (ho:o.op= .call c) (hc:c.callee= .builtin .cap) (ht:c.argTypes.toList=t::ts) (ha:c.args.toList= [x]) (hx:opnd T x=some (.slice a n (some k) e)):yJ P F T H o=some (.val (.int .i64 (.lit ((k:Nat):Int))) H):=by
 obtain⟨e,g1,g2⟩:=hs.h
 simp only [yJ,ho,hc,ht,ha,qf,hx,yU,yI,g1,YM]
 rfl
theorem sJ {P:Program} {F:z9} {o:Oper} {T:Tm} {H:Hp} {t:TypeId} {x hi:Operand} {sz e:Nat} [hs:SL P t sz] (ho:o.op= .slice t x none (some hi) none) (hx:opnd T x=some (.slice none 0 (some 0) e)) (hh:opnd T hi=some (.int .i64 (.lit ((0:Nat):Int)))):yJ P F T H o=some (.val (.slice none 0 (some 0) e) H):=by
 obtain⟨e0,g1,g2⟩:=hs.h
 have n1:vU (.int .i64 (.lit ((0:Nat):Int)))=some 0:=rfl
 have b0:Nat.ble 0 0=true:=rfl
 simp only [yJ,ho,qr,Option.map,Option.getD,hx,hh,wb,g1,g2,yv,j4,wR,wI,n1,b0,cond_true,zH.ofVal]
theorem aM: ∀e z,yO Tryz.prog 48=some (.slice e)→qk Tryz.prog e=some z→yL z.cells=true:=by
 intro e z h1 h2
 have h3:yO Tryz.prog 48=some (.slice 54):=Tryz.underlying48
 rw [h3]at h1
 cases h1
 have h4:(match qk Tryz.prog 54 with
  |some z=>yL z.cells
  |none=>false)=true:=by kernel_rfl
 rw [h2]at h4
 exact h4
def sumL (yP:Nat→List vB):Nat→Nat
 |0=>0
 |j+1=>sumL yP j+(yP j).length
theorem ap {yP:Nat→List vB} (h: ∀j,(yP j).length≤100): ∀j,sumL yP j≤100*j:=by
 intro j
 induction j with
 |zero=>exact Nat.le_refl 0
 |succ j ih=>have:=h j;show sumL yP j+(yP j).length≤_;omega
def xA (yP:Nat→List vB):Nat→List vB
 |0=> []
 |j+1=>xA yP j++yP j
theorem rg (yP:Nat→List vB): ∀j,(xA yP j).length=sumL yP j:=by
 intro j
 induction j with
 |zero=>rfl
 |succ j ih=>show(xA yP j++yP j).length=sumL yP j+(yP j).length;rw [List.length_append,ih]
theorem eG (R:List SP) (n:Nat) (hn:n≤1000):zy 147 [.slice none 0 (some 0) 0,vi n] (R) fun w L=>L=ent (zP u6 6) w []::R:=by
 refine SW.intro rfl Tryz.func147 rfl ?_
 refine O0 8 J (zf rfl (fun _=>zC rfl rfl rfl (QX rfl)) (qM (by omega) ?_))
 refine Z 8 J (zf rfl (fun _=>fW rfl rfl rfl rfl rfl) ?_)
 refine Z 1 J (zf rfl (fun _=>wD rfl rfl rfl rfl rfl) ?_)
 refine sb J (sb J (yn (w:=vi (n:Nat)) (by congr 2) ?_))
 refine Z 6 J (z0 (fun h16=> ?_) (fun h16=> ?_))
 ·refine Z 5 J (zf rfl (fun _=>fW rfl rfl rfl rfl rfl) ?_)
  refine zf rfl (fun _=>sJ rfl rfl rfl) ?_
  refine Z 1 J (B0 (es:=6) (n:=n) ⟨_,(show yO Tryz.prog 3=some (.int _)from Tryz.underlying3)⟩ rfl rfl rfl rfl rfl rfl rfl (by omega) (by omega) (by decide) aM fun i22 f22=> ?_)
  refine Z 1 J (zf rfl (fun _=>wD rfl rfl rfl rfl rfl) ?_)
  refine zf rfl (fun _=>UI (es:=6) rfl rfl rfl (by decide) (by omega) nofun) ?_
  exact Z 8 J (zE J J J ⟨_,rfl,Sub.one (K:=zI) (a:=i22) (K2:=zP u6 6) (a2:= .slice (some (i22,0)) 0 none 6) (x2:= []) fun f hf=>⟨.own i22 0 0 _ 6 _ [] hf (by omega) rfl,fun _=>rfl,by decide⟩⟩)
 exact Z 9 J (zE J J J ⟨_,rfl,Sub.nilE (α:=vB) (en:=u6) (es:=6) (fun _=>rfl) (by decide) 0 _⟩)
theorem eX (R:List SP) (v:AVal) (xs:List vB) (i:Nat) (sP:Nat→AVal) (yP:Nat→List vB) (hs: ∀j,j<2→ ∀f,zP u6 6 v xs f→zP u6 6 (sP j) (yP j) f) (hl: ∀j,(yP j).length≤100):zy 94 [.slice (some (i,0)) 2 (some 2) 1] (ent (zP u6 6) v xs::ent zI i (2,sP)::R) fun w L=>L=ent (zP u6 6) w (xA yP 2)::ent (zP u6 6) v xs::ent zI i (2,sP)::R:=by
 have hsl:=ap hl
 refine SW.intro rfl Tryz.func94 rfl ?_
 refine O0 12 J (zf rfl (fun _=>wD rfl rfl rfl rfl rfl) ?_)
 refine Z 3 J (zl (fun j T LZ=> ∃(j1:Nat),(j1≤2)∧j=2-j1∧T.len=3∧Tm.get 0 T=some (.slice (some (i,0)) 2 (some 2) 1)∧Tm.get 3 T=some (vi (sumL yP j1:Nat))∧Tm.get 9 T=some (.slice (some (i,0)) 2 (some 2) 1)∧Tm.get 10 T=some (vi 2)∧Tm.get 11 T=some (vi (j1:Nat))∧Sub LZ (ent (zP u6 6) v xs::ent zI i (2,sP)::R)) (2) ⟨0,by omega,by omega,rfl,rfl,rfl,rfl,rfl,rfl,Y⟩ ?_)
 rintro j T L0 ⟨j1,hj0,rfl,hl,g0,g3,g9,g10,g11,hsb⟩
 obtain⟨tg,rfl⟩:=ef hl g0 g3 g9 g10 g11
 clear hl g0 g3 g9 g10 g11
 refine zu hsb ?_
 clear hsb L0
 refine O0 3 J (z0 (fun h12=> ?_) (fun h12=> ?_))
 ·have hj:j1<2:=by omega
  have hj1:=hl j1
  have hj2:=hsl j1
  refine Z 8 J (zf rfl (fun _=>ug rfl rfl rfl (by omega) (by omega)) ?_)
  refine lf J Y rfl (Z 6 J (yo rfl (fun _ h=>Ax (ys:=yP j1) (hs j1 hj _ (show zP u6 6 v xs _ from h.el)) rfl rfl rfl rfl rfl) ?_))
  refine ad J (yn (w:=vi (sumL yP (j1+1):Nat)) (by show _=vi ((sumL yP j1+(yP j1).length:Nat):Int);congr 2) ?_)
  refine Z 5 J (zf rfl (fun _=>zC rfl rfl rfl (QX rfl)) (qM (by omega) ?_))
  refine Z 4 J (ad J (Z 2 J ?_))
  exact Or.inl ⟨rfl,_,by omega,j1+1,by omega,rfl,rfl,rfl,rfl,rfl,rfl,rfl,Y⟩
 refine Z 4 J (Or.inr ⟨nofun,?_⟩)
 refine OX 2 J ?_
 have h2:j1=2:=by omega
 subst h2
 refine Z 1 J (o_call (eG _ (sumL yP 2) (by have:=hsl 2;omega)) rfl (fun _=>rfl) ?_)
 rintro u24 _ rfl
 refine Z 6 J (zf rfl (fun _=>wD rfl rfl rfl rfl rfl) ?_)
 refine Z 3 J (zl (fun j T LZ=> ∃(j2:Nat) (u:AVal),(j2≤2)∧j=2-j2∧T.len=3∧Tm.get 0 T=some (.slice (some (i,0)) 2 (some 2) 1)∧Tm.get 6 T=some (u)∧Tm.get 25 T=some (.slice (some (i,0)) 2 (some 2) 1)∧Tm.get 26 T=some (vi 2)∧Tm.get 27 T=some (vi (j2:Nat))∧Sub LZ (ent (zP u6 6) u (xA yP j2)::ent (zP u6 6) v xs::ent zI i (2,sP)::R)) (2) ⟨0,u24,by omega,by omega,rfl,rfl,rfl,rfl,rfl,rfl,(show Px.Sub _ (ent (zP u6 6) _ ([]:List vB)::ent (zP u6 6) v xs::ent zI i (2,sP)::R)from Y)⟩ ?_)
 rintro j T L0 ⟨j2,u,hj0,rfl,hl,g0,g6,g25,g26,g27,hsb⟩
 obtain⟨tg,rfl⟩:=ef hl g0 g6 g25 g26 g27
 clear hl g0 g6 g25 g26 g27
 refine zu hsb ?_
 clear hsb L0
 refine O0 3 J (z0 (fun h28=> ?_) (fun h28=> ?_))
 ·have hj:j2<2:=by omega
  have hj1:=hl j2
  have hj2:=hsl j2
  have hcl:=rg yP j2
  refine Z 8 J (zf rfl (fun _=>ug rfl rfl rfl (by omega) (by omega)) ?_)
  refine lf J Y rfl (Z 5 J (Az (xs:=xA yP j2) (ys:=yP j2) (fun H hH=>by { have hE:zP u6 6 v xs fun k=>H.t.get k:=hH.el;exact hs j2 (by omega) _ hE }) rfl rfl rfl rfl rfl rfl rfl (by omega) (fun _=>rfl) fun a33 c33 e33=> ?_))
  refine Z 3 J (ad J (Z 2 J ?_))
  exact Or.inl ⟨rfl,_,by omega,j2+1,_,by omega,rfl,rfl,rfl,rfl,rfl,rfl,rfl,(show Px.Sub _ (ent (zP u6 6) _ (xA yP j2++yP j2)::ent (zP u6 6) v xs::ent zI i (2,sP)::R)from Y)⟩
 refine Z 4 J (Or.inr ⟨nofun,?_⟩)
 refine OX 6 J (zE J J J ?_)
 have h2:j2=2:=by omega
 subst h2
 exact⟨_,rfl,Y⟩
theorem QT {i off n:Nat} (c:Option Nat):lx (.slice (some (i,off)) n c 6)=true:=by cases c<;>rfl
theorem fX (i off n:Nat) (c:Option Nat) (a:Nat): ∃o m d,eZ i off n c 6 a= .slice (some (i,o)) m d 6:=by
 unfold eZ
 cases c with
 |none=>exact⟨_,_,_,rfl⟩
 |some k=>dsimp only;cases Nat.beq k a<;>exact⟨_,_,_,rfl⟩
theorem kQ {i off:Nat} {c:Option Nat} {xs:List vB} {z:Int} (hz:0≤z∧z<(xs.length:Nat)) {f:yc} (hf:zP u6 6 (.slice (some (i,off)) xs.length c 6) xs f): ∀j,j<2→zP u6 6 (ul [.slice (some (i,off)) z.toNat c 6,eZ i off xs.length c 6 (z+1).toNat] j) (if j=0 then xs.take z.toNat else xs.drop (z+1).toNat) f:=by
 intro j hj
 rcases(by omega:j=0∨j=1)with rfl|rfl
 ·exact A8 hf (by omega)
 exact AA hf (by omega)
theorem pN {xs:List vB} (h:xs.length≤8) (z:Int): ∀j:Nat,(if j=0 then xs.take z.toNat else xs.drop (z+1).toNat).length≤100:=by
 intro j
 split
 ·rw [List.length_take];omega
 rw [List.length_drop];omega
theorem fL (R:List SP) (a:Nat) (xs:List vB) (z:Int):zy 56 [vp a 0,vi z] (ent uz a xs::R) fun w L=>w= .bool (decide (0≤z∧z<(xs.length:Nat)))∧L=ent uz a (if 0≤z∧z<(xs.length:Nat)then xs.eraseIdx z.toNat else xs)::R:=by
 refine zS (ju a xs) fun v hxs=> ?_
 dsimp only [tX,List.cons_append,List.nil_append]
 refine SW.intro rfl Tryz.func56 rfl ?_
 refine O0 9 J (z0 (fun h6=> ?_) (fun h6=> ?_))
 ·refine Z 16 J (zE J J J ?_)
  have hz: ¬(0≤z∧z<(xs.length:Nat)):=by omega
  rw [decide_eq_false hz,if_neg hz]
  exact⟨_,⟨rfl,rfl⟩,Sub.mk2 (wP hxs) Y⟩
 refine Z 4 J (fa J Y (ld J Y J (yo rfl (fun _ h=>y0 rfl rfl rfl rfl rfl h) ?_)))
 refine Z 1 J (z0 (fun h14=> ?_) (fun h14=> ?_))
 ·refine Z 8 J (zE J J J ?_)
  have hz: ¬(0≤z∧z<(xs.length:Nat)):=by omega
  rw [decide_eq_false hz,if_neg hz]
  exact⟨_,⟨rfl,rfl⟩,Sub.mk2 (wP hxs) Y⟩
 have hz:0≤z∧z<(xs.length:Nat):=by omega
 have hne:xs≠ []:=fun e=>by { rw [e]at hz;simp at hz;omega }
 refine uw (K:=zP u6 6) (a:=v) (x:=xs) (fun f hf=>cR hf hne) fun hsh=> ?_
 obtain⟨i0,off,c,rfl,hc⟩:=hsh
 refine Z 5 J (zO [0,0,2,6,14,0,62,0,128,384,896,0,2048,8064,16382,32766,65535,131071,262143] [([0,1,2,3,4,5,6,7,8,9,10,11,12,13,14],[4,6,10,12,13],some 15),([16,17],[],some 18),([],[],none)] (by kernel_rfl) ?_)
 refine z4 (ZK 3 J (zj J Y (ye J Y J (ZK 1 J (vN rfl (fun _=>UI rfl rfl rfl (by omega) (by omega) hc) ?_)))))
 refine ZK 2 J (zj J Y (ye J Y J (ZK 1 J (BK J ?_))))
 obtain⟨o9,n9,c9,he9⟩:=fX i0 off xs.length c (z+1).toNat
 refine vN rfl (fun _=>tD rfl rfl rfl (by omega) (by omega) hc) ?_
 refine js he9 ?_
 refine va (cs:= [_,_]) rfl rfl rfl (by decide) rfl fun i30=> ?_
 refine z5 ⟨(wV rfl (fun _ h=>Zp rfl rfl rfl h) rfl rfl (z3 _ (QT c)) (vF rfl (fun _=>UI rfl rfl rfl (by omega) (by omega) hc) rfl rfl (z3 _ (QT c)) (wV rfl (fun _ h=>Zp rfl rfl rfl h) rfl rfl (z3 _ (QT c)) (vF rfl (fun _=>zC rfl rfl rfl (vj (by omega))) rfl rfl (z3 _ rfl) (vF rfl (fun _=>tD rfl rfl rfl (by omega) (by omega) hc) rfl rfl (by rw [he9];exact z3 _ (QT c9)) z6))))),?_⟩
 refine zR (Sub.one (K:=z8) (a:=i30) (K2:=zI) (a2:=i30) (x2:=(2,ul [.slice (some (i0,off)) z.toNat c 6,AVal.slice (some (i0,o9)) n9 c9 6])) fun f hf=>wG (cs:= [.slice (some (i0,off)) z.toNat c 6,AVal.slice (some (i0,o9)) n9 c9 6]) (fun j hj=>ZU hj) f hf) ?_
 refine Yc (eX _ (.slice (some (i0,off)) xs.length c 6) xs i30 (ul [.slice (some (i0,off)) z.toNat c 6,AVal.slice (some (i0,o9)) n9 c9 6]) (fun j=>if j=0 then xs.take z.toNat else xs.drop (z+1).toNat) (fun j hj f hf=>by rw [←he9];exact kQ hz hf j hj) (pN hxs z)) rfl (fun _=>rfl) ?_
 rintro u31 _ rfl
 refine yD (v:=u31) fun a2 c2 e2 hv2 _=> ?_
 subst hv2
 refine zF (z4 (ZK 1 J (zj J Y (z5 ⟨z6,?_⟩))))
 refine sO J Y J J J (zF (z4 (z5 ⟨z6,?_⟩)))
 refine OX 5 J (zE J J J ?_)
 have hd:decide (0≤z∧z<(xs.length:Nat))=true:=decide_eq_true hz
 rw [hd,if_pos hz]
 refine⟨_,⟨rfl,rfl⟩,?_⟩
 have e9:xA (fun j=>if j=0 then xs.take z.toNat else xs.drop (z+1).toNat) 2=xs.eraseIdx z.toNat:=by { show([]++xs.take z.toNat)++xs.drop (z+1).toNat=_;rw [List.nil_append,show(z+1).toNat=z.toNat+1 by omega,List.eraseIdx_eq_take_drop_succ] }
 rw [e9]
 have h9:(xs.eraseIdx z.toNat).length≤8:=by { have:=List.length_eraseIdx_le xs z.toNat;omega }
 exact Sub.mk2 (wP h9) Y
end Go.Proofs.YtlhcpplnlgehbaaGreat
