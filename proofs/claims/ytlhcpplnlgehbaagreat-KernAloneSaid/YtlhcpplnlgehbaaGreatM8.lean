/- Part of the proof: KKernS, KKern, KKern2, KKernP, KKernQ, KKern3, KKernR, KKern4, KTlb2. Names and blanks are cut short to keep within the size of a claim. -/
import Derived.Test.YtlhcpplnlgehbaaGreatM4
import Derived.Test.YtlhcpplnlgehbaaGreatM6
import Derived.Test.YtlhcpplnlgehbaaGreatM7
set_option linter.unusedVariables false
set_option linter.unusedSimpArgs false
set_option maxRecDepth 100000
namespace Go.Proofs.YtlhcpplnlgehbaaGreat
open Go Go.RowKit Go.Px
structure Av where
 root:Int
 yC:Int
 xs:List uO
structure qB where
 w:Nat→Nat
 pc:Int
 code:List qG
 A:Nat→Int
 fm:List (Int×Int)
 sm:List (Int×Int)
 S:y5
structure KS where
 fr:Int
 zE:Int
 zM:Bool
 inv:Bool
 M:zF
 Rf:List (Int×Int)
 Ws:Q4
 H:yF
 N:zh
 Q:zg
 ww:List Nat
 U:Nat→Av
 pr:Nat→Option qB
structure KL where
 m:Nat
 p:Nat
 sw:Nat
 h:Nat
 n:Nat
 pp:Nat
 q:Nat
 c:Nat→Nat
 u:Nat→Nat
 t:Nat→Nat
structure KY where
 cv:z0
 a:Nat→Nat
 v:Nat→Nat
 cd:Nat→z0
 ch:Nat
abbrev KS.W (S:KS) (L:KL):Wd:=⟨S.fr,S.zE,S.zM,S.inv,L.m,L.p,L.sw,3,13⟩
abbrev KS.zQ (S:KS) (L:KL) (c:Nat):gT:=⟨S.fr,S.zE,S.zM,S.inv,(c:Nat),L.u c,⟨(c:Nat),(S.U c).root,(S.U c).yC,L.t c,(S.U c).xs⟩⟩
abbrev qB.vm (x:qB) (W:Wd) (p:Nat):YV:=⟨W,(p:Nat),x.A,x.fm,x.sm,x.S⟩
abbrev KS.vs (S:KS) (x:qB):zA:=⟨x.A,x.fm,x.sm,x.S,⟨S.M,S.Rf⟩,S.Ws⟩
abbrev KS.WL (S:KS) (c:Nat) (u:Av):KS:= { S with U:=fun d=>if d=c then u else S.U d }
abbrev KS.vA (S:KS) (p:Nat) (x:Option qB):KS:= { S with pr:=fun q=>if q=p then x else S.pr q }
abbrev qB.of (x:qB) (v:zA):qB:= { x with A:=v.A,fm:=v.fm,sm:=v.sm,S:=v.S }
abbrev KS.qu (S:KS) (p:Nat) (x:qB) (v:zA):KS:= { S with M:=v.s.M,Rf:=v.s.R,Ws:=v.w,pr:=fun q=>if q=p then some (x.of v)else S.pr q }
def KS.dv (S:KS) (pair:Int):Int:=if S.zM then 2*pair+1 else 2*pair
abbrev KS.enter (S:KS) (c p:Nat) (x:qB):KS:=S.WL c { S.U c with root:=(x.S.kernel:Nat),yC:=S.dv (S.N.pair p) }
abbrev KS.halt (S:KS) (c:Nat):KS:=S.WL c { S.U c with root:=0,yC:=0 }
abbrev KS.vd (S:KS) (c p:Nat) (x:qB):KS:=
 { S with N:=((S.N.ask p).2.2.take c (S.N.ask p).1).2,U:=fun d=>if d=c then⟨(x.S.user:Nat),2*(S.N.ask p).1,if((S.N.ask p).2.2.take c (S.N.ask p).1).1 then uV (uV (S.U c).xs (2*(S.N.ask p).1)) (2*(S.N.ask p).1+1)else(S.U c).xs⟩else S.U d }
def KS.told (S:KS) (p:Nat):Bool:=(S.N.ask p).2.1
abbrev KS.qM (S:KS) (j:Nat):KS:= { S with U:=fun d=>if d<j then { S.U d with xs:= [] } else S.U d }
abbrev KS.bare (S:KS):KS:=S.qM S.Q.n
def KS.yx (S:KS) (c:Nat):KS:=match S.pr (S.Q.zQ c).toNat with
 |some x=>S.vd c (S.Q.zQ c).toNat x
 |none=>S
def KS.others (S:KS) (c:Nat) (i:Nat):KS:=if i≠c∧0≤S.Q.zQ i then S.yx i else S
def KS.leave (S:KS) (c:Nat):KS:=
 if S.Q.zQ c<0 then S.halt c else
 if S.told (S.Q.zQ c).toNat then(List.range S.Q.n).foldl (fun S i=>S.others c i) (S.yx c).bare else S.yx c
abbrev KS.flush (S:KS) (p:Nat):KS:= { S with N:=S.N.uW (S.N.pair p) }
def KS.done (S:KS) (p:Nat) (bad:Int):Nat×KS:=(Ww bad.toNat,if bad=0 then S.flush p else S)
def KS.Wl (S:KS) (i:Nat):Nat→Option Nat
 |0=>none
 |k+1=>if(S.pr i).isSome then S.Wl (i+1) k else some i
def KS.free (S:KS):Option Nat:=S.Wl 0 4
abbrev KS.W0 (S:KS):Wd:=⟨S.fr,S.zE,S.zM,S.inv,0,0,0,3,13⟩
abbrev qB.done (x:qB) (i:qG) (v:Nat):qB:= { x with w:=qg x.w i v,pc:=wK x.code (x.pc+1) }
abbrev qB.fault (x:qB) (z:Int):qB:= { x with w:=VG x.w z,pc:=wK x.code (x.pc+1) }
def KS.fork (S:KS) (p:Nat) (x:qB) (i:qG):Nat×KS:=match S.free with
 |none=>(Ww 4,S)
 |some q=>match zA.fork (S.vs x) S.W0 (q:Nat)with
  |(bad,none,v)=>(Ww bad.toNat,S.qu p x v)
  |(_,some (cf,cS),v)=>
   let S1:=(S.qu p x v).vA q (some ⟨qg x.w i 0,wK x.code (x.pc+1),x.code,x.A,cf,[],cS⟩)
   (q,({ S1 with Q:=S1.Q.gQ q } :KS).flush p)
def KS.answer (S:KS) (p:Nat) (x:qB) (i:qG):Nat×KS:=
 if i.n=1 then(S.qu p x (zA.map (S.vs x) S.inv p (x.w 0) (x.w 1) (x.w 2)).2).done p (zA.map (S.vs x) S.inv p (x.w 0) (x.w 1) (x.w 2)).1 else
 if i.n=2 then(S.qu p x (zA.ZH (S.vs x) S.inv (x.w 0) (x.w 1)).2).done p (zA.ZH (S.vs x) S.inv (x.w 0) (x.w 1)).1 else
 if i.n=3 then(S.qu p x (zA.vN (S.vs x) S.inv (x.w 0) (x.w 1) (x.w 2)).2).done p (zA.vN (S.vs x) S.inv (x.w 0) (x.w 1) (x.w 2)).1 else
 if i.n=4 then(S.qu p x (zA.out (S.vs x) S.inv (x.w 0)).2).done p (zA.out (S.vs x) S.inv (x.w 0)).1 else
 if i.n=5 then S.fork p x i else
 if i.n=8 then(if S.ww.length<4 then(0,{ S with ww:=S.ww++ [x.w 0] })else(Ww 4,S))else
 if i.n=9 then(match S.ww with
  | []=>(Ww 4,S)
  |a::l=>(a,{ S with ww:=l }))else(0,S)
abbrev KS.exit (S:KS) (p:Nat) (x:qB):KS:=
 { S with M:=(zA.drop (S.vs x)).s.M,Rf:=(zA.drop (S.vs x)).s.R,Ws:=(zA.drop (S.vs x)).w,N:=S.N.drop p,Q:=S.Q.fin p,pr:=fun q=>if q=p then none else S.pr q }
abbrev KS.l9 (S:KS) (p:Nat) (f:qB→qB):KS:= { S with pr:=fun q=>if q=p then(S.pr q).map f else S.pr q }
def KS.jv (S:KS) (p:Nat) (x:qB) (i:qG):KS:=if i.n=6 then S.exit p x else(S.answer p x i).2.l9 p fun y=>y.done i (S.answer p x i).1
abbrev KS.pick (S:KS) (c:Nat):KS:= { S with Q:=(S.Q.pick c).2 }
def KS.call (S:KS) (c p:Nat) (x:qB) (i:qG):KS:=
 (if i.n=6∨i.n=7 then((S.enter c p x).jv p x i).pick c else(S.enter c p x).jv p x i).leave c
def KS.jh (S:KS) (c p:Nat) (x:qB) (z:Int) (at_:Nat) (write:Bool):KS:=
 if z=3∨z=4 then S.vA p (some (x.fault z))else
 (if(zA.fix (S.vs x) S.inv p ((at_/8:Nat):Int) write).1≠0 then((S.enter c p x).qu p x (zA.fix (S.vs x) S.inv p ((at_/8:Nat):Int) write).2).l9 p fun y=>y.fault (zA.fix (S.vs x) S.inv p ((at_/8:Nat):Int) write).1
  else((S.enter c p x).qu p x (zA.fix (S.vs x) S.inv p ((at_/8:Nat):Int) write).2).flush p).leave c
abbrev KS.mm (S:KS) (c:Nat):yS:=⟨(c:Nat),(S.U c).root,(S.U c).yC,0,(S.U c).xs⟩
abbrev KS.q8 (S:KS) (c:Nat) (xs:List uO) (H:yF):KS:= { S with H:=H,U:=fun d=>if d=c then { S.U c with xs:=xs } else S.U d }
def KS.memory (S:KS) (c p:Nat) (x:qB) (i:qG):KS:=
 let at_:=addrOf x.w i
 let r:=(S.mm c).trans S.M S.H true (decide (i.op=4)) at_
 let S1:=S.q8 c r.2.1.xs r.2.2
 if r.1.2≠0 then S1.jh c p x r.1.2 at_ (decide (i.op=4))else
 if i.op=3 then({ S1 with H:=(S1.H.touch c r.1.1).2 } :KS).vA p (some (x.done i (S.M.rd r.1.1)))else
 if i.op=4 then({ S1 with H:=(S1.H.touch c r.1.1).2,M:=S.M.write r.1.1 (x.w i.a.toNat) } :KS).vA p (some (x.done i 0))else
 ({ S1 with H:=(S1.H.clear r.1.1).2 } :KS).vA p (some (x.done i 0))
def KS.ug (S:KS) (c p:Nat) (x:qB) (i:qG):KS:=
 if i.op=7 then S.call c p x i else
 if i.op=3∨i.op=4∨i.op=5 then S.memory c p x i else
 S.vA p (some { x with w:=((wc x.w x.code x.pc).getD (x.w,x.pc)).1,pc:=((wc x.w x.code x.pc).getD (x.w,x.pc)).2 })
def KS.Qt (S:KS) (c:Nat):Bool×KS:=match S.pr (S.Q.zQ c).toNat with
 |none=>(false,S)
 |some x=>match wP x.code x.pc with
  |none=>(false,S)
  |some i=>(true,S.ug c (S.Q.zQ c).toNat x i)
def KS.run (S:KS) (c:Nat):Bool×KS:=
 if S.Q.zQ c<0 then(if(S.Q.pick c).1<0 then(false,S.pick c)else((S.pick c).leave c).Qt c)else S.Qt c
def KS.vQ (S:KS) (c:Nat) (z:Int):KS:=match S.pr z.toNat with
 |some x=>S.enter c z.toNat x
 |none=>S
def KS.tick (S:KS) (c:Nat):KS:=(if 0≤S.Q.zQ c then(S.pick c).vQ c (S.Q.zQ c)else S.pick c).leave c
def KS.YH (S:KS) (c:Nat) (frame word:Int):Bool×KS:=
 if(0≤frame∧frame<S.M.n)∧0≤word∧word<8 then
  (let r:=(S.mm c).trans S.M S.H false false (8*(256+frame)+word).toNat
   if r.1.2≠0 then(false,S.q8 c r.2.1.xs r.2.2)else(true,S.q8 c r.2.1.xs (r.2.2.touch c r.1.1).2))else(false,S)
def KS.jc (S:KS) (c:Nat) (frame word:Int):Bool×KS:=
 if S.Q.zQ c<0 then(false,S)else(((S.vQ c (S.Q.zQ c)).YH c frame word).1,((S.vQ c (S.Q.zQ c)).YH c frame word).2.leave c)
structure vG where
 d:Int
 zQ:Int
 a:Int
 b:Int
 c:Int
def KS.forget (S:KS) (c:Nat) (z:Int):Bool×KS:=if 0≤z∧z<(S.U c).xs.length then(true,S.WL c { S.U c with xs:=(S.U c).xs.eraseIdx z.toNat })else(false,S)
def KS.qV (S:KS) (c:Nat) (x:vG):Bool×KS:=
 if x.d=1 then S.run c else
 if x.d=2 then(true,S.tick c)else
 if x.d=3 then((S.H.W5 c x.a).1,{ S with H:=(S.H.W5 c x.a).2 })else
 if x.d=4 then S.forget c x.a else
 if x.d=5 then S.jc c x.a x.b else
 if x.d=6 then(if S.Q.zQ c<0∨x.a<0∨x.b<0 then(false,S)else(true,{ S with H:=((S.mm c).chain S.M S.H c x.a.toNat x.b.toNat x.c).2 }))else(false,S)
def KS.step (S:KS) (x:vG):Bool×KS:=if 0≤x.zQ∧x.zQ<S.Q.n then S.qV x.zQ.toNat x else(false,S)
theorem qX {α:Type} {en:α→List z0} {es:Nat} (v:z0) (xs:List α): ∀h,zX en es v xs h→kN v=true:=by
 intro h h4
 obtain⟨a,c,e,rfl⟩:=Zh h4
 cases a with
 |some a=>rfl
 |none=>
  obtain⟨g1,g2,g3⟩:=h4
  generalize xs.flatMap en=cs at g1
  generalize xs.length=n at g1
  cases g1 with
  |nil=>rfl
theorem jH {v:z0} (h:kN v=true):Da v=true:=by
 cases v<;>first|exact h|cases h
def KS.wx (S:KS) (y:KY) (j:Nat):z0:=match S.pr j with
 |none=> .ptr none
 |some _=>vp (y.a j) 0
def kF (L:KL) (S:KS) (y:KY):Nat→z0
 |0=>vi S.fr
 |1=>vi S.zE
 |2=> .bool S.zM
 |3=> .bool S.inv
 |4=>vp L.m 0
 |5=>vp L.p 0
 |6=>vp L.sw 0
 |7=>vi 3
 |8=>vi 13
 |9=>S.wx y 0
 |10=>S.wx y 1
 |11=>S.wx y 2
 |12=>S.wx y 3
 |13=>y.cv
 |14=>vp L.h 0
 |15=>vp L.n 0
 |16=>vp L.pp 0
 |_=>vp L.q 0
abbrev WG (x:Nat×gT):SP:=z3 gX x.1 x.2
def gI (x:Nat×Nat×z0×Option (qB×YV)):SP:=match x.2.2.2 with
 |none=>Sat []
 |some (s,X)=>Sat [z3 zC x.1 (YF s.w x.2.2.1 s.pc++ [vp x.2.1 0]),z3 (zX qs 4) x.2.2.1 s.code,z3 WN x.2.1 X]
abbrev KS.qL (S:KS) (L:KL) (y:KY) (i:Nat):Nat×Nat×z0×Option (qB×YV):=(y.a i,y.v i,y.cd i,(S.pr i).map fun x=>(x,x.vm (S.W L) i))
abbrev yV (k:Nat) (L:KL) (S:KS) (y:KY) (R:List SP):List SP:=
 z3 zO k (18,kF L S y)::z3 (zX j3 1) y.cv ((List.range S.Q.n).map L.c)::z3 zY L.m S.M::z3 zi L.p ⟨L.m,S.Rf⟩::z3 yM L.sw S.Ws::z3 qj L.h S.H::z3 wV L.n S.N::z3 zC L.pp [.chan (some y.ch)]::z3 qC y.ch (4,S.ww.map vu)::
 z3 vT L.q S.Q::z3 (zL WG) k (List.range S.Q.n,fun i=>(L.c i,S.zQ L i))::z3 (zL gI) k (List.range 4,S.qL L y)::R
def yA (k:Nat) (x:KL×KS):SP:=fun h=> ∃y:KY,True∧Sat (yV k x.1 x.2 y []) h
theorem yB (k:Nat) (L:KL) (S:KS): ∀h,yA k (L,S) h→ ∃y:KY,True∧Sat (yV k L S y []) h:=fun _ h=>h
theorem yp {k:Nat} {L:KL} {S:KS} {y:KY} {R:List SP} :Sub (yV k L S y R) (z3 yA k (L,S)::R):=⟨fun h s=>by
 have s2:Sat (yV k L S y []++R) h:=s
 obtain⟨a,b,h1,h2,h3,h4,h5⟩:=qo s2
 exact⟨a,b,h1,h2,h3,⟨y,trivial,h4⟩,h5⟩⟩
abbrev WJ (a v:Nat) (cd:z0) (w:Nat→Nat) (pc:Int) (code:List qG) (X:YV) (R:List SP):List SP:=z3 zC a (YF w cd pc++ [vp v 0])::z3 (zX qs 4) cd code::z3 WN v X::R
theorem rS {k p:Nat} {L:KL} {S:KS} {y:KY} {x:qB} {R:List SP} (hp:p<4) (hx:S.pr p=some x):
 Sub (z3 (zL gI) k (List.range 4,S.qL L y)::R) (WJ (y.a p) (y.v p) (y.cd p) x.w x.pc x.code (x.vm (S.W L) p) (z3 (zL gI) k ((List.range 4).erase p,S.qL L y)::R)):=⟨fun h s=>by
 have s1:=(vF (K:=gI) (b:=k) (f:=S.qL L y) (R:=R) (wJ hp)).h h s
 have e:gI (S.qL L y p)=Sat [z3 zC (y.a p) (YF x.w (y.cd p) x.pc++ [vp (y.v p) 0]),z3 (zX qs 4) (y.cd p) x.code,z3 WN (y.v p) (x.vm (S.W L) p)]:=by
  unfold gI KS.qL
  simp only [hx,Option.map_some]
 rw [e]at s1
 exact QJ s1⟩
theorem Qn {k p:Nat} {f g:Nat→Nat×Nat×z0×Option (qB×YV)} {a v:Nat} {cd:z0} {x:qB} {X:YV} {R:List SP} (hp:p<4) (hg:g p=(a,v,cd,some (x,X))) (ho: ∀j,j≠p→g j=f j):
 Sub (WJ a v cd x.w x.pc x.code X (z3 (zL gI) k ((List.range 4).erase p,f)::R)) (z3 (zL gI) k (List.range 4,g)::R):=⟨fun h s=>by
 refine(jJ (K:=gI) (b:=k) (f:=f) (g:=g) (R:=R) (wJ hp) List.nodup_range fun j _ hj=>ho j hj).h h ?_
 have e:gI (g p)=Sat [z3 zC a (YF x.w cd x.pc++ [vp v 0]),z3 (zX qs 4) cd x.code,z3 WN v X]:=by
  rw [hg];rfl
 rw [e]
 exact qo s⟩
theorem Dq {k p:Nat} {f g:Nat→Nat×Nat×z0×Option (qB×YV)} {R:List SP} (hp:p<4) (hg:(g p).2.2.2=none) (ho: ∀j,j≠p→g j=f j):
 Sub (z3 (zL gI) k ((List.range 4).erase p,f)::R) (z3 (zL gI) k (List.range 4,g)::R):=⟨fun h s=>by
 refine(jJ (K:=gI) (b:=k) (f:=f) (g:=g) (R:=R) (wJ hp) List.nodup_range fun j _ hj=>ho j hj).h h ?_
 have e:gI (g p)=Sat []:=by
  unfold gI;rw [hg]
 rw [e]
 exact qo s⟩
theorem rT {k p:Nat} {f:Nat→Nat×Nat×z0×Option (qB×YV)} {R:List SP} (hp:p<4) (hg:(f p).2.2.2=none):
 Sub (z3 (zL gI) k (List.range 4,f)::R) (z3 (zL gI) k ((List.range 4).erase p,f)::R):=⟨fun h s=>by
 have s1:=(vF (K:=gI) (b:=k) (f:=f) (R:=R) (wJ hp)).h h s
 have e:gI (f p)=Sat []:=by
  unfold gI;rw [hg]
 rw [e]at s1
 exact QJ s1⟩
theorem fP {k c n:Nat} {F:Nat→Nat} {G:Nat→gT} {R:List SP} (hc:c<n):Sub (z3 (zL WG) k (List.range n,fun i=>(F i,G i))::R) (z3 gX (F c) (G c)::z3 (zL WG) k ((List.range n).erase c,fun i=>(F i,G i))::R):=
 vF (K:=WG) (b:=k) (f:=fun i=>(F i,G i)) (R:=R) (wJ hc)
theorem kU {k c n:Nat} {F:Nat→Nat} {G G':Nat→gT} {u:gT} {R:List SP} (hc:c<n) (hu:G' c=u) (ho: ∀j,j≠c→G' j=G j):
 Sub (z3 gX (F c) u::z3 (zL WG) k ((List.range n).erase c,fun i=>(F i,G i))::R) (z3 (zL WG) k (List.range n,fun i=>(F i,G' i))::R):=by
 subst hu
 exact jJ (K:=WG) (b:=k) (f:=fun i=>(F i,G i)) (g:=fun i=>(F i,G' i)) (R:=R) (wJ hc) List.nodup_range fun j _ hj=>by rw [ho j hj]
theorem qU {L:KL} {S:KS} {y:KY} {p:Nat} {x:qB} (hp:p<4) (hx:S.pr p=some x):kF L S y (p+9)=vp (y.a p) 0:=by
 rcases(by omega:p=0∨p=1∨p=2∨p=3)with rfl|rfl|rfl|rfl<;>(show S.wx y _=_;unfold KS.wx;rw [hx])
theorem uI {L:KL} {S:KS} {y:KY} :kF L S y 13=y.cv:=rfl
theorem r7 {L:KL} {S:KS} {y:KY} :kF L S y 4=vp L.m 0:=rfl
theorem kI {L:KL} {S:KS} {y:KY} :kF L S y 14=vp L.h 0:=rfl
theorem UK {L:KL} {S:KS} {y:KY} :kF L S y 15=vp L.n 0:=rfl
theorem D4 {L:KL} {S:KS} {y:KY} :kF L S y 16=vp L.pp 0:=rfl
theorem UL {L:KL} {S:KS} {y:KY} :kF L S y 17=vp L.q 0:=rfl
theorem T9 {L:KL} {S:KS} {y:KY} :zj (kF L S y) 0 9=dC (S.W L):=rfl
theorem cy {L:KL} {S S':KS} {y y':KY} {p:Nat} (hp:p<4) {v:z0} (hv:S'.wx y' p=v) (ho: ∀j,j≠p→S'.wx y' j=S.wx y j) (h: ∀j,18≤j+0∨j<9∨13≤j→kF L S' y' j=kF L S y j): ∀j,upd (kF L S y) (p+9) v j=kF L S' y' j:=by
 intro j
 unfold upd
 by_cases e:j=p+9
 ·rw [if_pos e,e]
  rcases(by omega:p=0∨p=1∨p=2∨p=3)with rfl|rfl|rfl|rfl<;>exact hv.symm
 rw [if_neg e]
 by_cases hj:j<9∨13≤j
 ·exact(h j (.inr hj)).symm
 rcases(by omega:j=9∨j=10∨j=11∨j=12)with rfl|rfl|rfl|rfl
 ·exact(ho 0 (by omega)).symm
 ·exact(ho 1 (by omega)).symm
 ·exact(ho 2 (by omega)).symm
 exact(ho 3 (by omega)).symm
theorem tI {L:KL} {S S':KS} {y y':KY} (ho: ∀j,S'.wx y' j=S.wx y j) (h: ∀j,18≤j+0∨j<9∨13≤j→kF L S' y' j=kF L S y j):kF L S y=kF L S' y':=by
 funext j
 by_cases hj:j<9∨13≤j
 ·exact(h j (.inr hj)).symm
 rcases(by omega:j=9∨j=10∨j=11∨j=12)with rfl|rfl|rfl|rfl
 ·exact(ho 0).symm
 ·exact(ho 1).symm
 ·exact(ho 2).symm
 exact(ho 3).symm
section
variable {k c p n:Nat} {L:KL} {S S':KS} {y y':KY} {f:Nat→z0} {cv:z0} {u:gT} {a v:Nat} {cd:z0} {x':qB} {X:YV} {R:List SP}
theorem vL (hc:c<n) (hp:p<4) (hn:S'.Q.n=n) (hU:S'.zQ L c=u) (hUo: ∀j,j≠c→S'.zQ L j=S.zQ L j) (hP:S'.qL L y' p=(a,v,cd,some (x',X))) (My: ∀j,j≠p→S'.qL L y' j=S.qL L y j) (j5:y'.cv=cv) (hf:f=kF L S' y'):
 Sub (z3 zO k (18,f)::z3 (zX j3 1) cv ((List.range n).map L.c)::z3 zY L.m S'.M::z3 zi L.p ⟨L.m,S'.Rf⟩::z3 yM L.sw S'.Ws::z3 qj L.h S'.H::z3 wV L.n S'.N::z3 zC L.pp [.chan (some y'.ch)]::z3 qC y'.ch (4,S'.ww.map vu)::z3 vT L.q S'.Q::
  z3 gX (L.c c) u::z3 (zL WG) k ((List.range n).erase c,fun i=>(L.c i,S.zQ L i))::WJ a v cd x'.w x'.pc x'.code X (z3 (zL gI) k ((List.range 4).erase p,S.qL L y)::R)) (z3 yA k (L,S')::R):=by
 subst hn j5 hf
 refine Sub.trans ?_ (yp (y:=y'))
 iterate 10 refine Sub.wU ?_
 refine(kU (G':=fun i=>S'.zQ L i) hc hU hUo).trans ?_
 refine Sub.wU ?_
 exact Qn hp hP My
theorem qc (hc:c<n) (hn:S'.Q.n=n) (hU:S'.zQ L c=u) (hUo: ∀j,j≠c→S'.zQ L j=S.zQ L j) (hP:S'.qL L y'=S.qL L y) (j5:y'.cv=cv) (hf:f=kF L S' y'):
 Sub (z3 zO k (18,f)::z3 (zX j3 1) cv ((List.range n).map L.c)::z3 zY L.m S'.M::z3 zi L.p ⟨L.m,S'.Rf⟩::z3 yM L.sw S'.Ws::z3 qj L.h S'.H::z3 wV L.n S'.N::z3 zC L.pp [.chan (some y'.ch)]::z3 qC y'.ch (4,S'.ww.map vu)::z3 vT L.q S'.Q::
  z3 gX (L.c c) u::z3 (zL WG) k ((List.range n).erase c,fun i=>(L.c i,S.zQ L i))::z3 (zL gI) k (List.range 4,S.qL L y)::R) (z3 yA k (L,S')::R):=by
 subst hn j5 hf
 refine Sub.trans ?_ (yp (y:=y'))
 iterate 10 refine Sub.wU ?_
 refine(kU (G':=fun i=>S'.zQ L i) hc hU hUo).trans ?_
 rw [hP]
 exact Sub.refl _
theorem zq (hp:p<4) (hn:S'.Q.n=n) (hU: ∀j,S'.zQ L j=S.zQ L j) (hP:S'.qL L y' p=(a,v,cd,some (x',X))) (My: ∀j,j≠p→S'.qL L y' j=S.qL L y j) (j5:y'.cv=cv) (hf:f=kF L S' y'):
 Sub (z3 zO k (18,f)::z3 (zX j3 1) cv ((List.range n).map L.c)::z3 zY L.m S'.M::z3 zi L.p ⟨L.m,S'.Rf⟩::z3 yM L.sw S'.Ws::z3 qj L.h S'.H::z3 wV L.n S'.N::z3 zC L.pp [.chan (some y'.ch)]::z3 qC y'.ch (4,S'.ww.map vu)::z3 vT L.q S'.Q::
  z3 (zL WG) k (List.range n,fun i=>(L.c i,S.zQ L i))::WJ a v cd x'.w x'.pc x'.code X (z3 (zL gI) k ((List.range 4).erase p,S.qL L y)::R)) (z3 yA k (L,S')::R):=by
 subst hn j5 hf
 refine Sub.trans ?_ (yp (y:=y'))
 iterate 10 refine Sub.wU ?_
 have e:(fun i=>(L.c i,S.zQ L i))=fun i=>(L.c i,S'.zQ L i):=by funext j;rw [hU]
 rw [e]
 refine Sub.wU ?_
 exact Qn hp hP My
theorem uh (hn:S'.Q.n=n) (hU: ∀j,S'.zQ L j=S.zQ L j) (hP:S'.qL L y'=S.qL L y) (j5:y'.cv=cv) (hf:f=kF L S' y'):
 Sub (z3 zO k (18,f)::z3 (zX j3 1) cv ((List.range n).map L.c)::z3 zY L.m S'.M::z3 zi L.p ⟨L.m,S'.Rf⟩::z3 yM L.sw S'.Ws::z3 qj L.h S'.H::z3 wV L.n S'.N::z3 zC L.pp [.chan (some y'.ch)]::z3 qC y'.ch (4,S'.ww.map vu)::z3 vT L.q S'.Q::
  z3 (zL WG) k (List.range n,fun i=>(L.c i,S.zQ L i))::z3 (zL gI) k (List.range 4,S.qL L y)::R) (z3 yA k (L,S')::R):=by
 subst hn j5 hf
 refine Sub.trans ?_ (yp (y:=y'))
 iterate 10 refine Sub.wU ?_
 have e:(fun i=>(L.c i,S.zQ L i))=fun i=>(L.c i,S'.zQ L i):=by funext j;rw [hU]
 rw [e,hP]
 exact Sub.refl _
end
abbrev Gx (k:Nat) (L:KL) (S:KS) (y:KY) (c p:Nat) (x:qB) (R:List SP):List SP:=
 z3 zO k (18,kF L S y)::z3 (zX j3 1) y.cv ((List.range S.Q.n).map L.c)::z3 zY L.m S.M::z3 zi L.p ⟨L.m,S.Rf⟩::z3 yM L.sw S.Ws::z3 qj L.h S.H::z3 wV L.n S.N::z3 zC L.pp [.chan (some y.ch)]::z3 qC y.ch (4,S.ww.map vu)::
 z3 vT L.q S.Q::z3 gX (L.c c) (S.zQ L c)::z3 (zL WG) k ((List.range S.Q.n).erase c,fun i=>(L.c i,S.zQ L i))::WJ (y.a p) (y.v p) (y.cd p) x.w x.pc x.code (x.vm (S.W L) p) (z3 (zL gI) k ((List.range 4).erase p,S.qL L y)::R)
abbrev eK (k:Nat) (L:KL) (S:KS) (y:KY) (c:Nat) (R:List SP):List SP:=
 z3 zO k (18,kF L S y)::z3 (zX j3 1) y.cv ((List.range S.Q.n).map L.c)::z3 zY L.m S.M::z3 zi L.p ⟨L.m,S.Rf⟩::z3 yM L.sw S.Ws::z3 qj L.h S.H::z3 wV L.n S.N::z3 zC L.pp [.chan (some y.ch)]::z3 qC y.ch (4,S.ww.map vu)::
 z3 vT L.q S.Q::z3 gX (L.c c) (S.zQ L c)::z3 (zL WG) k ((List.range S.Q.n).erase c,fun i=>(L.c i,S.zQ L i))::z3 (zL gI) k (List.range 4,S.qL L y)::R
abbrev W8 (k:Nat) (L:KL) (S:KS) (y:KY) (p:Nat) (x:qB) (R:List SP):List SP:=
 z3 zO k (18,kF L S y)::z3 (zX j3 1) y.cv ((List.range S.Q.n).map L.c)::z3 zY L.m S.M::z3 zi L.p ⟨L.m,S.Rf⟩::z3 yM L.sw S.Ws::z3 qj L.h S.H::z3 wV L.n S.N::z3 zC L.pp [.chan (some y.ch)]::z3 qC y.ch (4,S.ww.map vu)::
 z3 vT L.q S.Q::z3 (zL WG) k (List.range S.Q.n,fun i=>(L.c i,S.zQ L i))::WJ (y.a p) (y.v p) (y.cd p) x.w x.pc x.code (x.vm (S.W L) p) (z3 (zL gI) k ((List.range 4).erase p,S.qL L y)::R)
theorem b9 {k c:Nat} {L:KL} {S:KS} {y:KY} {R:List SP} (hc:c<S.Q.n):Sub (yV k L S y R) (eK k L S y c R):=by
 iterate 10 refine Sub.wU ?_
 exact fP hc
theorem Qi {k p:Nat} {L:KL} {S:KS} {y:KY} {x:qB} {R:List SP} (hp:p<4) (hx:S.pr p=some x):Sub (yV k L S y R) (W8 k L S y p x R):=by
 iterate 11 refine Sub.wU ?_
 exact rS hp hx
theorem G6 {k c p:Nat} {L:KL} {S:KS} {y:KY} {x:qB} {R:List SP} (hc:c<S.Q.n) (hp:p<4) (hx:S.pr p=some x):Sub (yV k L S y R) (Gx k L S y c p x R):=by
 refine(b9 hc).trans ?_
 iterate 12 refine Sub.wU ?_
 exact rS hp hx
theorem Dr {k p q:Nat} {f g:Nat→Nat×Nat×z0×Option (qB×YV)} {a v a2 v2:Nat} {cd FM:z0} {x x2:qB} {X X2:YV} {R:List SP} (hp:p<4) (hq:q<4) (YN:p≠q) (hf:(f q).2.2.2=none) (hg:g p=(a,v,cd,some (x,X))) (dr:g q=(a2,v2,FM,some (x2,X2))) (ho: ∀j,j≠p→j≠q→g j=f j):
 Sub (WJ a v cd x.w x.pc x.code X (WJ a2 v2 FM x2.w x2.pc x2.code X2 (z3 (zL gI) k ((List.range 4).erase p,f)::R))) (z3 (zL gI) k (List.range 4,g)::R):=by
 have e1:Sub (WJ a v cd x.w x.pc x.code X (WJ a2 v2 FM x2.w x2.pc x2.code X2 (z3 (zL gI) k ((List.range 4).erase p,f)::R))) (WJ a v cd x.w x.pc x.code X (z3 (zL gI) k ((List.range 4).erase p,f)::WJ a2 v2 FM x2.w x2.pc x2.code X2 R)):=Y
 refine e1.trans ((Qn (g:=fun j=>if j=p then g p else f j) hp (by simp only [if_true];exact hg) fun j hj=>if_neg hj).trans ?_)
 refine(rT (p:=q) hq (by rw [if_neg (Ne.symm YN)];exact hf)).trans ?_
 have e2:Sub (z3 (zL gI) k ((List.range 4).erase q,fun j=>if j=p then g p else f j)::WJ a2 v2 FM x2.w x2.pc x2.code X2 R) (WJ a2 v2 FM x2.w x2.pc x2.code X2 (z3 (zL gI) k ((List.range 4).erase q,fun j=>if j=p then g p else f j)::R)):=Y
 refine e2.trans (Qn hq dr fun j hj=> ?_)
 by_cases h:j=p
 ·rw [if_pos h,h]
 rw [if_neg h];exact ho j h hj
theorem tL {k p q n:Nat} {L:KL} {S S':KS} {y y':KY} {f:Nat→z0} {cv:z0} {a v a2 v2:Nat} {cd FM:z0} {x' x2:qB} {X X2:YV} {R:List SP} (hp:p<4) (hq:q<4) (YN:p≠q) (hn:S'.Q.n=n) (hU: ∀j,S'.zQ L j=S.zQ L j) (hSq:S.pr q=none) (hP:S'.qL L y' p=(a,v,cd,some (x',X))) (hP2:S'.qL L y' q=(a2,v2,FM,some (x2,X2)))
 (My: ∀j,j≠p→j≠q→S'.qL L y' j=S.qL L y j) (j5:y'.cv=cv) (hf:f=kF L S' y'):
 Sub (z3 zO k (18,f)::z3 (zX j3 1) cv ((List.range n).map L.c)::z3 zY L.m S'.M::z3 zi L.p ⟨L.m,S'.Rf⟩::z3 yM L.sw S'.Ws::z3 qj L.h S'.H::z3 wV L.n S'.N::z3 zC L.pp [.chan (some y'.ch)]::z3 qC y'.ch (4,S'.ww.map vu)::z3 vT L.q S'.Q::
  z3 (zL WG) k (List.range n,fun i=>(L.c i,S.zQ L i))::WJ a v cd x'.w x'.pc x'.code X (WJ a2 v2 FM x2.w x2.pc x2.code X2 (z3 (zL gI) k ((List.range 4).erase p,S.qL L y)::R))) (z3 yA k (L,S')::R):=by
 subst hn j5 hf
 refine Sub.trans ?_ (yp (y:=y'))
 iterate 10 refine Sub.wU ?_
 have e:(fun i=>(L.c i,S.zQ L i))=fun i=>(L.c i,S'.zQ L i):=by funext j;rw [hU]
 rw [e]
 refine Sub.wU ?_
 exact Dr hp hq YN (by simp only [KS.qL,hSq,Option.map_none]) hP hP2 My
theorem rA {k p n:Nat} {L:KL} {S S':KS} {y y':KY} {f:Nat→z0} {cv:z0} {R:List SP} (hp:p<4) (hn:S'.Q.n=n) (hU: ∀j,S'.zQ L j=S.zQ L j) (hP:S'.pr p=none) (My: ∀j,j≠p→S'.qL L y' j=S.qL L y j) (j5:y'.cv=cv) (hf:f=kF L S' y'):
 Sub (z3 zO k (18,f)::z3 (zX j3 1) cv ((List.range n).map L.c)::z3 zY L.m S'.M::z3 zi L.p ⟨L.m,S'.Rf⟩::z3 yM L.sw S'.Ws::z3 qj L.h S'.H::z3 wV L.n S'.N::z3 zC L.pp [.chan (some y'.ch)]::z3 qC y'.ch (4,S'.ww.map vu)::z3 vT L.q S'.Q::
  z3 (zL WG) k (List.range n,fun i=>(L.c i,S.zQ L i))::z3 (zL gI) k ((List.range 4).erase p,S.qL L y)::R) (z3 yA k (L,S')::R):=by
 subst hn j5 hf
 refine Sub.trans ?_ (yp (y:=y'))
 iterate 10 refine Sub.wU ?_
 have e:(fun i=>(L.c i,S.zQ L i))=fun i=>(L.c i,S'.zQ L i):=by funext j;rw [hU]
 rw [e]
 refine Sub.wU ?_
 exact Dq hp (by simp only [KS.qL,hP,Option.map_none]) My
theorem D9 {k p:Nat} {L:KL} {S:KS} {y:KY} {x:qB} {R:List SP} (hp:p<4) (hx:S.pr p=some x):Sub (W8 k L S y p x R) (yV k L S y R):=by
 iterate 11 refine Sub.wU ?_
 exact Qn hp (by simp only [KS.qL,hx,Option.map_some]) fun _ _=>rfl
abbrev D7 (k:Nat) (L:KL) (S:KS) (y:KY) (p:Nat) (x:qB) (cd:z0) (R:List SP):List SP:=
 z3 zO k (18,kF L S y)::z3 (zX j3 1) y.cv ((List.range S.Q.n).map L.c)::z3 zY L.m S.M::z3 zi L.p ⟨L.m,S.Rf⟩::z3 yM L.sw S.Ws::z3 qj L.h S.H::z3 wV L.n S.N::z3 zC L.pp [.chan (some y.ch)]::z3 qC y.ch (4,S.ww.map vu)::
 z3 vT L.q S.Q::z3 (zL WG) k (List.range S.Q.n,fun i=>(L.c i,S.zQ L i))::WJ (y.a p) (y.v p) cd x.w x.pc x.code (x.vm (S.W L) p) (z3 (zL gI) k ((List.range 4).erase p,S.qL L y)::R)
theorem ik {k p:Nat} {L:KL} {S:KS} {y:KY} {x:qB} {cd:z0} {R:List SP} (hp:p<4) (hx:S.pr p=some x):Sub (D7 k L S y p x cd R) (z3 yA k (L,S)::R):=
 zq (S:=S) (S':=S) (y:=y) (y':= { y with cd:=fun j=>if j=p then cd else y.cd j }) (x':=x) hp rfl (fun _=>rfl) (by simp only [KS.qL,if_true,hx,Option.map_some]) (fun j hj=>by simp only [KS.qL,if_neg hj]) rfl rfl
theorem c5 {S:KS} {L:KL} {c:Nat} {u:Av} :(S.WL c u).zQ L c=⟨S.fr,S.zE,S.zM,S.inv,(c:Nat),L.u c,⟨(c:Nat),u.root,u.yC,L.t c,u.xs⟩⟩:=by
 simp only [KS.zQ,KS.WL,if_true]
theorem mZ {S:KS} {L:KL} {c j:Nat} {u:Av} (h:j≠c):(S.WL c u).zQ L j=S.zQ L j:=by
 simp only [KS.zQ,KS.WL,if_neg h]
theorem vC {S:KS} {L:KL} {y:KY} {p:Nat} {x:qB} (hx:S.pr p=some x):S.qL L y p=(y.a p,y.v p,y.cd p,some (x,x.vm (S.W L) p)):=by
 simp only [KS.qL,hx,Option.map_some]
theorem VV {S:KS} {L:KL} {y:KY} {p:Nat} {x:qB} {v:zA} :(S.qu p x v).qL L y p=(y.a p,y.v p,y.cd p,some (x.of v,(x.of v).vm (S.W L) p)):=by
 simp only [KS.qL,KS.qu,if_true,Option.map_some]
theorem UX {S:KS} {L:KL} {y:KY} {p j:Nat} {x:qB} {v:zA} (h:j≠p):(S.qu p x v).qL L y j=S.qL L y j:=by
 simp only [KS.qL,KS.qu,if_neg h]
theorem bO {S S':KS} {y y':KY} {j:Nat} (h:S'.pr j=S.pr j) (ha:y'.a j=y.a j):S'.wx y' j=S.wx y j:=by
 unfold KS.wx;rw [h,ha]
theorem UU {S S':KS} {y y':KY} {j:Nat} {x x':qB} (h:S'.pr j=some x') (h1:S.pr j=some x) (ha:y'.a j=y.a j):S'.wx y' j=S.wx y j:=by
 unfold KS.wx;rw [h,h1,ha]
theorem Gw {L:KL} {S S':KS} {y y':KY} {j:Nat} (h:18≤j+0∨j<9∨13≤j) (h1:S'.fr=S.fr:=by rfl) (h2:S'.zE=S.zE:=by rfl) (h3:S'.zM=S.zM:=by rfl) (h4:S'.inv=S.inv:=by rfl) (h5:y'.cv=y.cv:=by rfl):kF L S' y' j=kF L S y j:=by
 have d: ∀m,m<9→kF L S' y' m=kF L S y m:=by
  intro m hm
  match m,hm with
  |0,_=>show vi S'.fr=vi S.fr;rw [h1]
  |1,_=>show vi S'.zE=vi S.zE;rw [h2]
  |2,_=>show z0.bool S'.zM= .bool S.zM;rw [h3]
  |3,_=>show z0.bool S'.inv= .bool S.inv;rw [h4]
  |4,_=>rfl
  |5,_=>rfl
  |6,_=>rfl
  |7,_=>rfl
  |8,_=>rfl
 have e: ∀m,13≤m→kF L S' y' m=kF L S y m:=by
  intro m hm
  match m,hm with
  |13,_=>show y'.cv=y.cv;exact h5
  |14,_=>rfl
  |15,_=>rfl
  |16,_=>rfl
  |m+17,_=>rfl
 rcases h with h|h|h
 ·exact e j (by omega)
 ·exact d j h
 exact e j h
theorem Wu {L:KL} {S:KS} {y:KY} {p:Nat} {x:qB} {v:zA} (hx:S.pr p=some x):kF L S y=kF L (S.qu p x v) y:=
 tI (fun j=>by
  by_cases h:j=p
  ·subst h;exact UU (x':=x.of v) (if_pos rfl) hx rfl
  exact bO (if_neg h) rfl) fun j h=>Gw h
abbrev KY.uJ (y:KY) (p:Nat) (v:z0):KY:= { y with cd:=fun j=>if j=p then v else y.cd j }
theorem ef {S:KS} {L:KL} {y:KY} {p:Nat} {x:qB} {f:qB→qB} {v:z0} (hx:S.pr p=some x):(S.l9 p f).qL L (y.uJ p v) p=(y.a p,y.v p,v,some (f x,(f x).vm (S.W L) p)):=by
 simp only [KS.qL,KS.l9,KY.uJ,if_true,hx,Option.map_some]
theorem eg {S:KS} {L:KL} {y:KY} {p j:Nat} {f:qB→qB} {v:z0} (h:j≠p):(S.l9 p f).qL L (y.uJ p v) j=S.qL L y j:=by
 simp only [KS.qL,KS.l9,KY.uJ,if_neg h]
theorem YB {S:KS} {L:KL} {y:KY} {p:Nat} {x:qB} {v:z0} :(S.vA p (some x)).qL L (y.uJ p v) p=(y.a p,y.v p,v,some (x,x.vm (S.W L) p)):=by
 simp only [KS.qL,KS.vA,KY.uJ,if_true,Option.map_some]
theorem YC {S:KS} {L:KL} {y:KY} {p j:Nat} {x:Option qB} {v:z0} (h:j≠p):(S.vA p x).qL L (y.uJ p v) j=S.qL L y j:=by
 simp only [KS.qL,KS.vA,KY.uJ,if_neg h]
theorem Lj {L:KL} {S:KS} {y:KY} {p:Nat} {x:qB} {f:qB→qB} {v:z0} (hx:S.pr p=some x):kF L S y=kF L (S.l9 p f) (y.uJ p v):=
 tI (fun j=>by
  by_cases h:j=p
  ·subst h;exact UU (x':=f x) (by show(if j=j then(S.pr j).map f else S.pr j)=_;rw [if_pos rfl,hx];rfl) hx rfl
  exact bO (if_neg h) rfl) fun j h=>Gw h
theorem UM {L:KL} {S:KS} {y:KY} {p:Nat} {x x':qB} {v:z0} (hx:S.pr p=some x):kF L S y=kF L (S.vA p (some x')) (y.uJ p v):=
 tI (fun j=>by
  by_cases h:j=p
  ·subst h;exact UU (x':=x') (if_pos rfl) hx rfl
  exact bO (if_neg h) rfl) fun j h=>Gw h
theorem pQ (S:KS) (L:KL) (c p:Nat) (x:qB):(S.enter c p x).zQ L c= { S.zQ L c with X:= { (S.zQ L c).X with root:=(x.S.kernel:Nat),yC:=(S.zQ L c).dv (S.N.pair (p:Nat)) } } :=c5
theorem Cc (S:KS) (L:KL) (c:Nat):(S.halt c).zQ L c= { S.zQ L c with X:= { (S.zQ L c).X with root:=0,yC:=0 } } :=c5
theorem b8 (R:List SP) (k:Nat) (L:KL) (S:KS) (c p:Nat) (x:qB) (hc:c<S.Q.n) (hp:p<4) (hx:S.pr p=some x):yH 91 [vp k 0,vi c,vi p] (z3 yA k (L,S)::R) fun w L2=>w= .tuple []∧L2=z3 yA k (L,S.enter c p x)::R:=by
 refine ze (yB k L S) fun y _=> ?_
 dsimp only [yV,List.cons_append,List.nil_append]
 have hl:((List.range S.Q.n).map L.c).length=S.Q.n:=by simp
 refine yl (K:=zX j3 1) (qX y.cv ((List.range S.Q.n).map L.c)) fun j5=> ?_
 replace j5:=jH j5
 refine SW.sub ?_ (G6 hc hp hx (k:=k) (L:=L) (S:=S) (y:=y) (R:=R))
 dsimp only [Gx,WJ]
 have Yi:((List.range S.Q.n).map L.c)[c]? =some (L.c c):=gj L.c hc
 refine SW.intro rfl Tryz.func91 rfl ?_
 refine zW [0,1,3,7,0,31,63,0,128,384,896,0,0,2048,10240,30720,63488,129024,260096,522240,0,2097151] [([0,1,2,3,4,5,6,7,8,9,10,11,12,13,14,15,16,17,18,19,20],[3,6,10,16,19],some 21),([],[],none)] (by kernel_rfl) ?_
 refine z7 (ZK 2 J (zx J Y (YO J Y uI (ZK 1 J (jM rfl (fun _ h=>yg rfl rfl rfl (by omega) (by omega) h) ?_)))))
 refine Gy 0 J Y J Yi J (ZK 2 J (zx J Y (YO J Y UK (ZK 3 J (zx J Y (uc rfl (fun _=>zw rfl rfl rfl (by omega) (by omega)) ?_))))))
 refine YO J Y (qU (p:=p) (L:=L) (S:=S) (y:=y) hp hx) (ZK 1 J (zx J Y (q9 J Y J (ZK 1 J (z8 ⟨(jP J Y uI J (z6 _ j5) (va rfl (fun _ h=>wX (j:=0) rfl rfl rfl Yi rfl h) rfl rfl (z6 _ rfl) (jP J Y UK J (z6 _ rfl) (jP J Y (qU (p:=p) (L:=L) (S:=S) (y:=y) hp hx) J (z6 _ rfl) (yN J Y J J J z9))))),?_⟩)))))
 refine Z3 (fI _ _ (S.zQ L c) _ _ S.N (x.vm (S.W L) p) (p:Nat)) J Y Y Y (zJ (z7 (z8 ⟨z9,?_⟩)))
 refine wq J J (⟨_,⟨rfl,rfl⟩,Sub.trans ?_ (vL (S:=S) (S':=S.enter c p x) (y:=y) (y':=y) (x':=x) hc hp rfl (pQ S L c p x) (fun j hj=>mZ hj) (vC hx) (fun j _=>rfl) rfl (show kF L S y=kF L (S.enter c p x) y from rfl))⟩)
 exact Y
theorem bA (R:List SP) (k:Nat) (L:KL) (S:KS) (p:Nat):yH 192 [vp k 0,vi p] (z3 yA k (L,S)::R) fun w L2=>w= .tuple []∧L2=z3 yA k (L,S.flush p)::R:=by
 refine ze (yB k L S) fun y _=> ?_
 dsimp only [yV,List.cons_append,List.nil_append]
 have hl:((List.range S.Q.n).map L.c).length=S.Q.n:=by simp
 refine yl (K:=zX j3 1) (qX y.cv ((List.range S.Q.n).map L.c)) fun j5=> ?_
 replace j5:=jH j5
 refine SW.intro rfl Tryz.func192 rfl ?_
 refine zW [0,1,3,7,0,16,48,112,0,496,1023] [([0,1,2,3,4,5,6,7,8],[3,7],some 9),([],[3],some 10),([],[],none)] (by kernel_rfl) ?_
 refine z7 (ZK 2 J (zx J Y (YO J Y UK (ZK 2 J (zx J Y (YO J Y UK (ZK 1 J (z8 ⟨(jP J Y UK J (z6 _ rfl) (jP J Y UK J (z6 _ rfl) z9)),?_⟩))))))))
 refine Z1 (ed _ _ S.N (p:Nat)) J Y (zJ (z7 (z8 ⟨(jP J Y UK J (z6 _ rfl) z9),?_⟩)))
 refine Z1 (bQ _ _ S.N (S.N.pair (p:Nat))) J Y (zJ (z7 (z8 ⟨z9,?_⟩)))
 refine wq J J (⟨_,⟨rfl,rfl⟩,Sub.trans ?_ (uh (S:=S) (S':=S.flush p) (y:=y) (y':=y) rfl (fun _=>rfl) rfl rfl (show kF L S y=kF L (S.flush p) y from rfl))⟩)
 exact Y
theorem kr (R:List SP) (k:Nat) (L:KL) (S:KS) (p:Nat) (z:Int) (hz:0≤z∧z≤100):yH 180 [vp k 0,vi p,vi z] (z3 yA k (L,S)::R) fun w L2=>w=vu (S.done p z).1∧L2=z3 yA k (L,(S.done p z).2)::R:=by
 obtain⟨n,rfl⟩: ∃n:Nat,z=n:=⟨z.toNat,by omega⟩
 refine SW.intro rfl Tryz.func180 rfl ?_
 refine O0 9 J (z5 (fun h8=> ?_) (fun h8=> ?_))
 ·refine Z 5 J (Z1 (bA _ _ _ S p) J Y (Z 4 J (Z0 (VO _ _ (by omega)) J (Z 3 J (zI J J J (⟨_,⟨rfl,rfl⟩,?_⟩))))))
  rw [show(S.done p (n:Nat)).2=S.flush p from if_pos h8]
  exact Y
 refine Z 6 J (Z0 (VO _ _ (by omega)) J (Z 3 J (zI J J J (⟨_,⟨rfl,rfl⟩,?_⟩))))
 rw [show(S.done p (n:Nat)).2=S from if_neg h8]
 exact Y
theorem J0 (S:KS) (L:KL) (c p:Nat) (x:qB):(S.vd c p x).zQ L c=(S.zQ L c).leave S.N x.S.user (p:Nat):=by
 simp only [KS.zQ,KS.vd,gT.leave,if_true]
theorem Qj (S:KS) (L:KL) {c j:Nat} (p:Nat) (x:qB) (h:j≠c):(S.vd c p x).zQ L j=S.zQ L j:=by
 simp only [KS.zQ,KS.vd,if_neg h]
theorem im (R:List SP) (k:Nat) (L:KL) (S:KS) (c p:Nat) (x:qB) (hc:c<S.Q.n) (hp:p<4) (hx:S.pr p=some x) (hq:S.Q.zQ (c:Nat)=(p:Nat)) (hg:S.N.gen≤4611686018427387903) (ht:S.told p=false):yH 73 [vp k 0,vi c] (z3 yA k (L,S)::R) fun w L2=>w= .tuple []∧L2=z3 yA k (L,S.vd c p x)::R:=by
 refine ze (yB k L S) fun y _=> ?_
 dsimp only [yV,List.cons_append,List.nil_append]
 have hl:((List.range S.Q.n).map L.c).length=S.Q.n:=by simp
 refine yl (K:=zX j3 1) (qX y.cv ((List.range S.Q.n).map L.c)) fun j5=> ?_
 replace j5:=jH j5
 refine SW.sub ?_ (G6 hc hp hx (k:=k) (L:=L) (S:=S) (y:=y) (R:=R))
 dsimp only [Gx,WJ]
 have Yi:((List.range S.Q.n).map L.c)[c]? =some (L.c c):=gj L.c hc
 refine SW.intro rfl Tryz.func73 rfl ?_
 refine O0 4 J (fa J Y (lf J Y UL (Z 1 J (Z1 (Jt _ _ S.Q (c:Nat)) J Y (qI (congrArg vi hq) ?_)))))
 refine Z 6 J (zo rfl (fun _=>zG rfl rfl rfl (Ui rfl)) (qm (by omega) ?_))
 refine Z 5 J (zW [0,1,3,7,0,31,63,0,128,384,896,0,0,2048,10240,30720,63488,129024,260096,522240,0,2097151,4194303] [([0,1,2,3,4,5,6,7,8,9,10,11,12,13,14,15,16,17,18,19,20],[3,6,10,16,19],some 21),([22],[],none)] (by kernel_rfl) ?_)
 refine z7 (ZK 2 J (zx J Y (YO J Y uI (ZK 1 J (jM rfl (fun _ h=>yg rfl rfl rfl (by omega) (by omega) h) ?_)))))
 refine Gy 0 J Y J Yi J (ZK 2 J (zx J Y (YO J Y UK (ZK 3 J (zx J Y (uc rfl (fun _=>zw rfl rfl rfl (by omega) (by omega)) ?_))))))
 refine YO J Y (qU (p:=p) (L:=L) (S:=S) (y:=y) hp hx) (ZK 1 J (zx J Y (q9 J Y J (ZK 1 J (z8 ⟨(jP J Y uI J (z6 _ j5) (va rfl (fun _ h=>wX (j:=0) rfl rfl rfl Yi rfl h) rfl rfl (z6 _ rfl) (jP J Y UK J (z6 _ rfl) (jP J Y (qU (p:=p) (L:=L) (S:=S) (y:=y) hp hx) J (z6 _ rfl) (yN J Y J J J z9))))),?_⟩)))))
 refine Z3 (fK _ _ (S.zQ L c) _ _ S.N (x.vm (S.W L) p) (p:Nat) hg) J Y Y Y (qI (congrArg z0.bool ht) ?_)
 refine zJ (z7 (ZK 1 J (z8 ⟨z9,?_⟩)))
 refine OX 2 J (wq J J (⟨_,⟨rfl,rfl⟩,Sub.trans ?_ (vL (k:=k) (R:=R) (S:=S) (S':=S.vd c p x) (y:=y) (y':=y) (x':=x) hc hp rfl (J0 S L c p x) (fun j hj=>Qj S L p x hj) (vC hx) (fun j _=>rfl) rfl (show kF L S y=kF L (S.vd c p x) y from rfl))⟩))
 exact Y
def KS.PX (S:KS):Prop:= ∀d,d<S.Q.n→0≤S.Q.zQ (d:Nat)→(S.Q.zQ (d:Nat)).toNat<4∧ ∃x,S.pr (S.Q.zQ (d:Nat)).toNat=some x
theorem zh.EW (S:zh) (c v:Int):(S.take c v).2.qL=S.qL:=by unfold zh.take;split<;>rfl
theorem zh.V5 (S:zh) (c v:Int):(S.take c v).2.gen=S.gen:=by unfold zh.take;split<;>rfl
theorem zh.V6 (S:zh) (c v:Int):(S.take c v).2.n=S.n:=by unfold zh.take;split<;>rfl
theorem zh.Uh (S:zh) (p:Int):(S.ask p).2.2.gen=if(S.ask p).2.1 then S.gen+1 else S.gen:=by
 unfold zh.ask
 split
 ·split
  ·rfl
  split<;>rfl
 rfl
theorem zh.Pb (S:zh) (p:Int):(S.ask p).2.2.n=S.n:=by
 unfold zh.ask
 split
 ·split
  ·rfl
  split<;>rfl
 rfl
theorem zh.Af {S:zh} {p:Int} (h:(S.ask p).2.1=true) (c v q:Int):(((S.ask p).2.2.take c v).2.ask q).2.1=false:=by
 have e: ∃r:Nat,r<4∧ ∀j,(S.ask p).2.2.qL j=if j=r then 1 else 0:=by
  unfold zh.ask at h ⊢
  split at h
  ·rename_i hp
   split at h
   ·cases h
   rename_i hz
   rw [if_pos hp,if_neg hz]
   split at h
   ·cases h
   exact⟨p.toNat,by omega,fun j=>rfl⟩
  cases h
 obtain⟨r,hr,e⟩:=e
 rw [←zh.EW _ c v]at e
 generalize ((S.ask p).2.2.take c v).2=T at e
 have h2:T.least=some 2:=by
  have a1:T.cZ 1=true:=by
   unfold zh.cZ
   rcases(by omega:r=0∨r=1∨r=2∨r=3)with rfl|rfl|rfl|rfl<;>simp [e]
  have a2:T.cZ 2=false:=by
   unfold zh.cZ
   simp only [e]
   rcases(by omega:r=0∨r=1∨r=2∨r=3)with rfl|rfl|rfl|rfl<;>simp
  unfold zh.least
  rw [if_neg (by rw [a1];nofun),if_pos a2]
 unfold zh.ask
 split
 ·split
  ·rfl
  rw [h2]
 rfl
theorem J1 {S:KS} {c p:Nat} {x:qB} (hq:S.Q.zQ (c:Nat)=(p:Nat)) (hx:S.pr p=some x):S.yx c=S.vd c p x:=by
 unfold KS.yx
 rw [hq,show((p:Nat):Int).toNat=p from rfl,hx]
theorem iw {S:KS} {c p:Nat} {x:qB} (hq:S.Q.zQ (c:Nat)=(p:Nat)) (hx:S.pr p=some x) (ht:S.told p=false):S.leave c=S.vd c p x:=by
 unfold KS.leave
 rw [J1 hq hx,hq,if_neg (by omega),show((p:Nat):Int).toNat=p from rfl,ht];rfl
theorem iv {S:KS} {c p:Nat} {x:qB} (hq:S.Q.zQ (c:Nat)=(p:Nat)) (hx:S.pr p=some x) (ht:S.told p=true):S.leave c=(List.range S.Q.n).foldl (fun S i=>S.others c i) (S.vd c p x).bare:=by
 unfold KS.leave
 rw [J1 hq hx,hq,if_neg (by omega),show((p:Nat):Int).toNat=p from rfl,ht,if_pos rfl]
theorem oZ (S:KS) (L:KL):(fun d=>(L.c d,(S.qM 0).zQ L d))=fun d=>(L.c d,S.zQ L d):=by
 funext d;simp only [KS.zQ,KS.qM,if_neg (Nat.not_lt_zero d)]
theorem Fj (S:KS) (L:KL) (i:Nat):(S.qM (i+1)).zQ L i= { (S.qM i).zQ L i with X:= { ((S.qM i).zQ L i).X with xs:= [] } } :=by
 simp only [KS.zQ,KS.qM,if_pos (Nat.lt_succ_self i),if_neg (Nat.lt_irrefl i)]
theorem Fk (S:KS) (L:KL) {i j:Nat} (h:j≠i):(S.qM (i+1)).zQ L j=(S.qM i).zQ L j:=by
 simp only [KS.zQ,KS.qM]
 by_cases h1:j<i
 ·rw [if_pos h1,if_pos (by omega)]
 rw [if_neg h1,if_neg (by omega)]
theorem iH (S:KS) (c:Nat): ∀i,(∀j,j<i→j=c)→(List.range i).foldl (fun S i=>S.others c i) S=S:=by
 intro i
 induction i with
 |zero=>intro _;rfl
 |succ i ih=>
  intro h
  rw [List.range_succ,List.foldl_append,ih fun j hj=>h j (by omega)]
  show S.others c i=S
  unfold KS.others
  rw [if_neg (fun e=>e.1 (h i (by omega)))]
theorem Gp (S:KS) (c i:Nat):(List.range (i+1)).foldl (fun S i=>S.others c i) S=((List.range i).foldl (fun S i=>S.others c i) S).others c i:=by
 rw [List.range_succ,List.foldl_append];rfl
theorem gO (R:List SP) (k:Nat) (L:KL) (S:KS) (c:Nat) (hc:c<S.Q.n) (dq:S.PX) (hg0:S.N.gen≤4611686018427387000):yH 73 [vp k 0,vi c] (z3 yA k (L,S)::R) fun w L2=>w= .tuple []∧L2=z3 yA k (L,S.leave c)::R:=by
 refine ze (yB k L S) fun y _=> ?_
 dsimp only [yV,List.cons_append,List.nil_append]
 have hl:((List.range S.Q.n).map L.c).length=S.Q.n:=by simp
 refine yl (K:=zX j3 1) (qX y.cv ((List.range S.Q.n).map L.c)) fun j5=> ?_
 replace j5:=jH j5
 have Yi:((List.range S.Q.n).map L.c)[c]? =some (L.c c):=gj L.c hc
 refine yl (KA L.q S.Q) fun hQ=> ?_
 have Vn:=hQ.2.1
 have hg:S.N.gen≤4611686018427387903:=by omega
 refine SW.intro rfl Tryz.func73 rfl ?_
 refine O0 4 J (fa J Y (lf J Y UL (Z 1 J (Z1 (Jt _ _ S.Q (c:Nat)) J Y (Z 7 J (z5 (fun YM=> ?_) (fun YM=> ?_)))))))
 ·refine zd (Sub.trans (M:=yV k L S y R) Y (b9 (y:=y) hc)) ?_
  dsimp only [eK]
  refine Z 6 J (fa J Y (lf J Y uI (Z 1 J (qJ rfl (fun _ h=>yg rfl rfl rfl (by omega) (by omega) h) ?_))))
  refine lE 0 J Y J Yi J (Z1 (Fu _ _ (S.zQ L c)) J Y (Z 2 J (wq J J ?_)))
  rw [show S.leave c=S.halt c from if_pos YM]
  refine⟨_,⟨rfl,rfl⟩,Sub.trans ?_ (qc (S:=S) (S':=S.halt c) (y:=y) (y':=y) hc rfl (Cc S L c) (fun j hj=>mZ hj) rfl rfl (show kF L S y=kF L (S.halt c) y from rfl))⟩
  exact Y
 obtain⟨FQ,x,Wr⟩:=dq c hc (by omega)
 obtain⟨p,YN⟩: ∃p:Nat,S.Q.zQ (c:Nat)=p:=⟨(S.Q.zQ c).toNat,by omega⟩
 have hp:p<4:=by rw [YN]at FQ;exact FQ
 have hx:S.pr p=some x:=by rw [YN]at Wr;exact Wr
 rw [YN]
 refine zd (Sub.trans (M:=yV k L S y R) Y (G6 (y:=y) hc hp hx)) ?_
 dsimp only [Gx,WJ]
 refine Z 5 J (zW [0,1,3,7,0,31,63,0,128,384,896,0,0,2048,10240,30720,63488,129024,260096,522240,0,2097151,4194303] [([0,1,2,3,4,5,6,7,8,9,10,11,12,13,14,15,16,17,18,19,20],[3,6,10,16,19],some 21),([22],[],none)] (by kernel_rfl) ?_)
 refine z7 (ZK 2 J (zx J Y (YO J Y uI (ZK 1 J (jM rfl (fun _ h=>yg rfl rfl rfl (by omega) (by omega) h) ?_)))))
 refine Gy 0 J Y J Yi J (ZK 2 J (zx J Y (YO J Y UK (ZK 3 J (zx J Y (uc rfl (fun _=>zw rfl rfl rfl (by omega) (by omega)) ?_))))))
 refine YO J Y (qU (p:=p) (L:=L) (S:=S) (y:=y) hp hx) (ZK 1 J (zx J Y (q9 J Y J (ZK 1 J (z8 ⟨(jP J Y uI J (z6 _ j5) (va rfl (fun _ h=>wX (j:=0) rfl rfl rfl Yi rfl h) rfl rfl (z6 _ rfl) (jP J Y UK J (z6 _ rfl) (jP J Y (qU (p:=p) (L:=L) (S:=S) (y:=y) hp hx) J (z6 _ rfl) (yN J Y J J J z9))))),?_⟩)))))
 refine Z3 (fK _ _ (S.zQ L c) _ _ S.N (x.vm (S.W L) p) (p:Nat) hg) J Y Y Y (zV (fun HF=> ?_) (fun HF=> ?_))
 ·refine zd (Sub.trans ?_ (vL (k:=k) (R:=R) (S:=S) (S':=S.vd c p x) (y:=y) (y':=y) (x':=x) hc hp rfl (J0 S L c p x) (fun j hj=>Qj S L p x hj) (vC hx) (fun j _=>rfl) rfl (show kF L S y=kF L (S.vd c p x) y from rfl))) ?_
  ·exact Y
  obtain⟨S1,ak⟩: ∃S1,S1=S.vd c p x:=⟨_,rfl⟩
  have LM:S1.Q=S.Q:=by rw [ak]
  have hP1:S1.pr=S.pr:=by rw [ak]
  have hN1:S1.N=((S.N.ask p).2.2.take c (S.N.ask p).1).2:=by rw [ak]
  have hT1: ∀q:Nat,S1.told q=false:=fun q=>by unfold KS.told;rw [hN1];exact zh.Af HF _ _ _
  have HV:S1.N.gen≤4611686018427387903:=by { rw [hN1,zh.V5,zh.Uh,HF];simp only [if_true];omega }
  have lU:S1.Q.n=S.Q.n:=by rw [LM]
  rw [←ak]
  refine zJ (z7 (ZK 1 J (z8 ⟨z9,?_⟩)))
  refine OX 5 J (wj (yB k L S1) fun y1 _=> ?_)
  dsimp only [yV,List.cons_append,List.nil_append]
  have LS:((List.range S1.Q.n).map L.c).length=S1.Q.n:=by simp
  refine Z 2 J (fa J Y (lf J Y (uI (L:=L) (S:=S1) (y:=y1)) (qJ rfl (fun _ h=>yI rfl rfl rfl rfl rfl h) ?_)))
  refine qI (congrArg (fun n:Nat=>vi n) LS) ?_
  refine Z 3 J (zy (fun j T LZ=> ∃(i:Nat),(i≤S1.Q.n)∧j=S1.Q.n-i∧T.len=6∧Tm.get 0 T=some (vp k 0)∧Tm.get 1 T=some (vi c)∧Tm.get 50 T=some (y1.cv)∧Tm.get 51 T=some (vi (S1.Q.n:Nat))∧Tm.get 52 T=some (vi (i:Nat))∧Sub LZ (z3 zO k (18,kF L S1 y1)::z3 (zX j3 1) y1.cv ((List.range S1.Q.n).map L.c)::z3 zY L.m S1.M::z3 zi L.p ⟨L.m,S1.Rf⟩::z3 yM L.sw S1.Ws::z3 qj L.h S1.H::z3 wV L.n S1.N::z3 zC L.pp [.chan (some y1.ch)]::z3 qC y1.ch (4,S1.ww.map vu)::z3 vT L.q S1.Q::z3 (zL WG) k (List.range S1.Q.n,fun d=>(L.c d,(S1.qM i).zQ L d))::z3 (zL gI) k (List.range 4,S1.qL L y1)::R)) (S1.Q.n) ⟨0,by omega,by omega,rfl,rfl,rfl,rfl,rfl,rfl,(by rw [oZ];exact Y)⟩ ?_)
  rintro j T L0 ⟨i,hi0,rfl,hl,g0,g1,RU,RW,LF,yU⟩
  obtain⟨tg,rfl⟩:=I3 hl g0 g1 RU RW LF
  clear hl g0 g1 RU RW LF
  refine yE yU ?_
  clear yU L0
  refine O0 3 J (z5 (fun HG=> ?_) (fun HG=> ?_))
  ·have hi:i<S1.Q.n:=by omega
   have hli:((List.range S1.Q.n).map L.c)[i]? =some (L.c i):=gj L.c hi
   refine Z 8 J (qJ rfl (fun _ h=>yg rfl rfl rfl (by omega) (by omega) h) ?_)
   refine lE 0 J Y J hli J (Z 4 J (zd (Sub.trans (M:=z3 (zL WG) k (List.range S1.Q.n,fun d=>(L.c d,(S1.qM i).zQ L d))::z3 zO k (18,kF L S1 y1)::z3 (zX j3 1) y1.cv ((List.range S1.Q.n).map L.c)::z3 zY L.m S1.M::z3 zi L.p ⟨L.m,S1.Rf⟩::z3 yM L.sw S1.Ws::z3 qj L.h S1.H::z3 wV L.n S1.N::z3 zC L.pp [.chan (some y1.ch)]::z3 qC y1.ch (4,S1.ww.map vu)::z3 vT L.q S1.Q::z3 (zL gI) k (List.range 4,S1.qL L y1)::R) Y (fP hi)) ?_))
   refine Z1 (Un _ _ ((S1.qM i).zQ L i)) J Y (wj (uL (L.c i) ((S1.qM i).zQ L i)) fun _ _=> ?_)
   dsimp only [xU,List.cons_append,List.nil_append]
   refine Z1 (br _ _ ((S1.qM i).zQ L i).X) J Y (wj (uM (L.u i) ((S1.qM i).zQ L i).X) fun _ _=> ?_)
   dsimp only [kK,List.cons_append,List.nil_append]
   refine Z1 (KZ _ _ ((S1.qM i).zQ L i).X.xs) J Y (zd (Sub.qi (p:=z3 uz (L.u i) { ((S1.qM i).zQ L i).X with xs:= [] }) (qF (a:=L.u i) (X:= { ((S1.qM i).zQ L i).X with xs:= [] }) (fun _ hx=>by cases hx)) (Sub.refl _)) ?_)
   refine zd (Sub.qi (p:=z3 gX (L.c i) { ((S1.qM i).zQ L i)with X:= { ((S1.qM i).zQ L i).X with xs:= [] } }) (qE (C:= { ((S1.qM i).zQ L i)with X:= { ((S1.qM i).zQ L i).X with xs:= [] } })) (Sub.refl _)) ?_
   refine Z 2 J (ad J (Z 2 J ?_))
   exact Or.inl ⟨rfl,_,by omega,i+1,by omega,rfl,rfl,rfl,rfl,rfl,rfl,rfl,(Sub.trans (M:=z3 gX (L.c i) { ((S1.qM i).zQ L i)with X:= { ((S1.qM i).zQ L i).X with xs:= [] } } ::z3 (zL WG) k ((List.range S1.Q.n).erase i,fun d=>(L.c d,(S1.qM i).zQ L d))::z3 zO k (18,kF L S1 y1)::z3 (zX j3 1) y1.cv ((List.range S1.Q.n).map L.c)::z3 zY L.m S1.M::z3 zi L.p ⟨L.m,S1.Rf⟩::z3 yM L.sw S1.Ws::z3 qj L.h S1.H::z3 wV L.n S1.N::z3 zC L.pp [.chan (some y1.ch)]::z3 qC y1.ch (4,S1.ww.map vu)::z3 vT L.q S1.Q::z3 (zL gI) k (List.range 4,S1.qL L y1)::R) Y ((kU (G':=fun d=>(S1.qM (i+1)).zQ L d) hi (Fj S1 L i) (fun j hj=>Fk S1 L hj)).trans Y))⟩
  refine Z 4 J (Or.inr ⟨nofun,?_⟩)
  refine OX 4 J (fa J Y (lf J Y (uI (L:=L) (S:=S1) (y:=y1)) (qJ rfl (fun _ h=>yI rfl rfl rfl rfl rfl h) ?_)))
  refine qI (congrArg (fun n:Nat=>vi n) LS) ?_
  refine Z 3 J ?_
  have ND:i=S1.Q.n:=by omega
  subst ND
  refine yE (Sub.trans ?_ (uh (k:=k) (R:=R) (S:=S1.bare) (S':=S1.bare) (y:=y1) (y':=y1) rfl (fun _=>rfl) rfl rfl (show kF L S1 y1=kF L S1.bare y1 from rfl))) ?_
  ·exact Y
  refine zy (fun j T LZ=> ∃(i2:Nat),(i2≤S1.Q.n)∧j=S1.Q.n-i2∧T.len=6∧Tm.get 0 T=some (vp k 0)∧Tm.get 1 T=some (vi c)∧Tm.get 65 T=some (vi (S1.Q.n:Nat))∧Tm.get 66 T=some (vi (i2:Nat))∧Sub LZ (z3 yA k (L,((List.range i2).foldl (fun S i=>S.others c i) S1.bare))::R)) (S1.Q.n) ⟨0,by omega,by omega,rfl,rfl,rfl,rfl,rfl,(show Px.Sub _ (z3 yA k (L,S1.bare)::R)from Y)⟩ ?_
  rintro j T L0 ⟨i2,hi2,rfl,hl,g0,g1,af,g66,yU⟩
  obtain⟨tg,rfl⟩:=GY hl g0 g1 af g66
  clear hl g0 g1 af g66
  refine yE yU ?_
  clear yU L0
  refine O0 3 J (z5 (fun dm=> ?_) (fun dm=> ?_))
  ·refine Z 16 J (z5 (fun lR=> ?_) (fun lR=> ?_))
   ·have eF:((List.range i2).foldl (fun S i=>S.others c i) S1.bare)=S1.bare:=iH S1.bare c i2 fun j hj=>by omega
    rw [eF]
    refine wj (yB k L S1.bare) fun y2 _=> ?_
    dsimp only [yV,List.cons_append,List.nil_append]
    refine Z 3 J (fa J Y (lf J Y (UL (L:=L) (S:=S1.bare) (y:=y2)) (Z 1 J (Z1 (Jt _ _ S1.bare.Q (i2:Nat)) J Y (Z 1 J (z5 (fun mz=> ?_) (fun mz=> ?_)))))))
    ·refine zd (Sub.trans (M:=yV k L S1.bare y2 R) Y yp) ?_
     obtain⟨hp2,x2,km⟩:=dq i2 (by omega) (by rw [←LM];exact mz)
     obtain⟨p2,LV⟩: ∃p2:Nat,S1.bare.Q.zQ (i2:Nat)=p2:=⟨(S.Q.zQ i2).toNat,by show S1.Q.zQ _=_;rw [LM];rw [LM]at mz;omega⟩
     have e2:(S.Q.zQ (i2:Nat)).toNat=p2:=by { rw [←LM];show(S1.bare.Q.zQ (i2:Nat)).toNat=p2;rw [LV];rfl }
     rw [e2]at hp2 km
     replace km:S1.bare.pr p2=some x2:=by { show S1.pr p2=some x2;rw [hP1];exact km }
     refine Z 6 J (Z1 (im _ _ _ S1.bare i2 p2 x2 (by show i2<S1.Q.n;omega) hp2 km LV HV (hT1 p2)) J Y (Z 2 J (ad J (Z 2 J ?_))))
     exact Or.inl ⟨rfl,_,by omega,i2+1,by omega,rfl,rfl,rfl,rfl,rfl,rfl,(by rw [Gp,eF];unfold KS.others;rw [if_pos ⟨by omega,mz⟩,J1 LV km];exact Y)⟩
    refine zd (Sub.trans (M:=yV k L S1.bare y2 R) Y yp) ?_
    refine Z 5 J (ad J (Z 2 J ?_))
    exact Or.inl ⟨rfl,_,by omega,i2+1,by omega,rfl,rfl,rfl,rfl,rfl,rfl,(by rw [Gp,eF];unfold KS.others;rw [if_neg (fun h=>mz h.2)];exact Y)⟩
   refine Z 13 J (ad J (Z 2 J ?_))
   exact Or.inl ⟨rfl,_,by omega,i2+1,by omega,rfl,rfl,rfl,rfl,rfl,rfl,(by rw [Gp];unfold KS.others;rw [if_neg (fun h=>h.1 (by omega))];exact Y)⟩
  refine Z 4 J (Or.inr ⟨nofun,?_⟩)
  refine wq J J ?_
  rw [iv YN hx HF,←ak]
  have hi2:i2=S.Q.n:=by omega
  rw [←hi2]
  exact fq
 refine zJ (z7 (ZK 1 J (z8 ⟨z9,?_⟩)))
 refine OX 2 J (wq J J ?_)
 rw [iw YN hx HF]
 refine⟨_,⟨rfl,rfl⟩,Sub.trans ?_ (vL (k:=k) (R:=R) (S:=S) (S':=S.vd c p x) (y:=y) (y':=y) (x':=x) hc hp rfl (J0 S L c p x) (fun j hj=>Qj S L p x hj) (vC hx) (fun j _=>rfl) rfl (show kF L S y=kF L (S.vd c p x) y from rfl))⟩
 exact Y
theorem tB {P:Program} {F:zD} {o:Oper} {T:Tm} {H:Hp} {L R:List SP} {t:TypeId} {x:Operand} {k off n es m:Nat} {f:Nat→z0} [hs:AR P t n es] [tk:Tk L zO k (m,f) R] (ho:o.op= .slice t x none none none) (hx:zK T x=some (.ptr (some (k,off)))) (h0:0<n) (hm:off+n*es≤m) (h:zU L H):
 yd P F T H o=some (.val (.slice (some (k,off)) n (some n) es) H):=by
 obtain⟨e,h1,h2⟩:=hs.h
 obtain⟨a,b,g1,g2,g3,⟨c,w,g4,g5,g6⟩,g7⟩:=tk.h _ h.s
 have g8:H.t.get k=some (.cells true c w):=g2 _ _ g4
 have hr:H.row k=some w:=by unfold Hp.row;rw [g8]
 have g5:m≤w:=g5
 have hb:Nat.ble (off+n*es) w=true:=Nat.ble_eq_true_of_le (by omega)
 have hn:Nat.beq n 0=false:=by rw [←Bool.not_eq_true,Nat.beq_eq];omega
 have Vn:Nat.ble n n=true:=Nat.ble_eq_true_of_le (Nat.le_refl _)
 simp only [yd,ho,wW,Option.map,Option.getD,hx,vf,h1,h2,qQ,Y0,vP,vJ,hr,hb,hn,Vn,cond_true,cond_false,Nat.sub_zero,Nat.zero_mul,Nat.add_zero,zN.qK,Nat.zero_le,show Nat.ble 0 n=true from Nat.ble_eq_true_of_le (Nat.zero_le _)]
def KS.Vx (S:KS):Int:=match S.free with
 |some q=>(q:Nat)
 |none=> -1
theorem Dk {P:Program} {F:zD} {H:Hp} {t:TypeId} {c:Bool} (S:KS) (y:KY) (i:Nat) (h1:vI P F H .eql t c (.ptr none) (.ptr none)=some (.bool true)) (h2: ∀a,vI P F H .eql t c (.ptr none) (vp a 0)=some (.bool false)):vI P F H .eql t c (.ptr none) (S.wx y i)=some (.bool (S.pr i).isNone):=by
 unfold KS.wx
 cases S.pr i with
 |none=>exact h1
 |some x=>exact h2 _
theorem eI {L:KL} {S:KS} {y:KY} {i:Nat} (h:i<4):kF L S y (i+9)=S.wx y i:=by
 rcases(by omega:i=0∨i=1∨i=2∨i=3)with rfl|rfl|rfl|rfl<;>rfl
theorem free_spec {S:KS} {i k:Nat} :(∀q,S.Wl i k=some q→i≤q∧q<i+k∧S.pr q=none∧ ∀j,i≤j→j<q→S.pr j≠none)∧(S.Wl i k=none→ ∀j,i≤j→j<i+k→S.pr j≠none):=by
 induction k generalizing i with
 |zero=>exact⟨fun q h=>(by cases h),fun _ j h1 h2=>by omega⟩
 |succ k ih=>
  unfold KS.Wl
  cases hp:S.pr i with
  |none=>exact⟨fun q h=>(by cases h;exact⟨Nat.le_refl _,by omega,hp,fun j h1 h2=>by omega⟩),fun h=>(by cases h)⟩
  |some x=>
   simp only [Option.isSome_some,if_true]
   refine⟨fun q h=> ?_,fun h j h1 h2=> ?_⟩
   ·obtain⟨a,b,c,d⟩:=(ih (i:=i+1)).1 q h
    refine⟨by omega,by omega,c,fun j h1 h2=> ?_⟩
    rcases Nat.eq_or_lt_of_le h1 with rfl|h1
    ·rw [hp];nofun
    exact d j h1 h2
   rcases Nat.eq_or_lt_of_le h1 with rfl|h1
   ·rw [hp];nofun
   exact(ih (i:=i+1)).2 h j h1 (by omega)
theorem cN {S:KS} {q:Nat} (h4:q<4) (hq:S.pr q=none) (ho: ∀j,j<q→S.pr j≠none):S.Vx=(q:Nat):=by
 unfold KS.Vx
 cases h:S.free with
 |none=>exact absurd hq ((free_spec (i:=0) (k:=4)).2 h q (by omega) (by omega))
 |some r=>
  obtain⟨a,b,c,d⟩:=(free_spec (i:=0) (k:=4)).1 r h
  have:r=q:=by
   rcases Nat.lt_trichotomy r q with h|h|h
   ·exact absurd c (ho r h)
   ·exact h
   exact absurd hq (d q (by omega) h)
  rw [this]
theorem cM {S:KS} (ho: ∀j,j<4→S.pr j≠none):S.Vx= -1:=by
 unfold KS.Vx
 cases h:S.free with
 |none=>rfl
 |some r=>
  obtain⟨a,b,c,d⟩:=(free_spec (i:=0) (k:=4)).1 r h
  exact absurd c (ho r (by omega))
theorem Ng (R:List SP) (k:Nat) (L:KL) (S:KS) (y:KY):yH 226 [.slice (some (k,9)) 4 (some 4) 1,.ptr none] (z3 zO k (18,kF L S y)::R) fun w L2=>w=vi S.Vx∧L2=z3 zO k (18,kF L S y)::R:=by
 refine SW.intro rfl Tryz.func226 rfl ?_
 refine O0 8 J (zo rfl (fun _=>vD rfl rfl rfl rfl rfl) ?_)
 refine Z 3 J (zy (fun j T LZ=> ∃(i:Nat),(i≤4)∧(∀j,j<i→S.pr j≠none)∧j=4-i∧T.len=2∧Tm.get 0 T=some (.slice (some (k,9)) 4 (some 4) 1)∧Tm.get 1 T=some (.ptr none)∧Tm.get 7 T=some (vi 4)∧Tm.get 8 T=some (vi (i:Nat))∧Sub LZ (z3 zO k (18,kF L S y)::R)) (4) ⟨0,by omega,fun j h=>absurd h (Nat.not_lt_zero j),by omega,rfl,rfl,rfl,rfl,rfl,Y⟩ ?_)
 rintro j T L0 ⟨i,hi4,ho,rfl,hl,g0,g1,g7,g8,yU⟩
 obtain⟨tg,rfl⟩:=GY hl g0 g1 g7 g8
 clear hl g0 g1 g7 g8
 refine yE yU ?_
 clear yU L0
 refine O0 3 J (z5 (fun h9=> ?_) (fun h9=> ?_))
 ·have hi:i<4:=by omega
  refine Z 16 J (zo rfl (fun _=>ja rfl rfl rfl (by omega) (by omega)) ?_)
  refine lf J Y (eI (L:=L) (S:=S) (y:=y) hi) (zo rfl (fun _=>zG rfl rfl rfl (Dk S y i rfl (fun _=>rfl))) ?_)
  refine zV (fun j4=> ?_) (fun j4=> ?_)
  ·refine Z 8 J (Or.inr ⟨nofun,?_⟩)
   refine zI J J J (⟨_,⟨congrArg vi (cN hi (Option.isNone_iff_eq_none.1 j4) ho).symm,rfl⟩,Y⟩)
  refine Z 4 J (ad J (Z 2 J ?_))
  exact Or.inl ⟨rfl,_,by omega,i+1,by omega,fun j hj=>by { rcases Nat.lt_succ_iff_lt_or_eq.1 hj with hj|rfl;exact ho j hj;intro e;rw [e]at j4;cases j4 },rfl,rfl,rfl,rfl,rfl,rfl,Y⟩
 refine Z 4 J (Or.inr ⟨nofun,?_⟩)
 refine OX 5 J (zI J J J (⟨_,⟨congrArg vi (cM fun j hj=>ho j (by omega)).symm,rfl⟩,Y⟩))
theorem Li {L:KL} {S:KS} {y:KY} {q:Nat} {v:z0} (h:q<4):upd (kF L S y) (q+9) v 17=vp L.q 0:=if_neg (by omega)
theorem zg.dA (S:zg) (p:Int):(S.gQ p).n=S.n:=by unfold zg.gQ;split<;>rfl
theorem iL {S:KS} (h:S.Vx<0):S.free=none:=by
 unfold KS.Vx at h
 cases e:S.free with
 |none=>rfl
 |some q=>rw [e]at h;dsimp only at h;omega
theorem iM {S:KS} (h: ¬S.Vx<0): ∃q,S.free=some q∧S.Vx=(q:Nat)∧q<4∧S.pr q=none:=by
 unfold KS.Vx at h ⊢
 cases e:S.free with
 |none=>rw [e]at h;exact absurd (show(-1:Int)<0 by decide) h
 |some q=>
  obtain⟨a,b,c,d⟩:=(free_spec (i:=0) (k:=4)).1 q e
  exact⟨q,rfl,rfl,by omega,c⟩
theorem zA.iJ {x:zA} {W:Wd} {o:Int} :(∃cf cS v,zA.fork x W o=(0,some (cf,cS),v))∨ ∃e v,zA.fork x W o=(e,none,v)∧(e=5∨e=2):=by
 unfold zA.fork
 split
 ·exact .inr ⟨_,_,rfl,.inl rfl⟩
 split
 ·exact .inr ⟨_,_,rfl,.inr rfl⟩
 dsimp only
 split
 ·exact .inr ⟨_,_,rfl,.inr rfl⟩
 exact .inl ⟨_,_,_,rfl⟩
theorem Qx {w:Nat→Nat} {cd:z0} {pc:Int} (h:kN cd=true):Da (.agg (YF w cd pc))=true:=by
 show(kN cd && true)=true
 rw [h];rfl
theorem Hv (R:List SP) (k:Nat) (L:KL) (S:KS) (p:Nat) (x:qB) (hp:p<4) (hx:S.pr p=some x) (i:qG) (gE:x.code.length≤1000) (nX: -1000000≤x.pc∧x.pc≤1000000) (hT:x.S.tables.length≤400000) (dO: ∀z,cnt S.Rf z≤1000000) (dq: ∀q:Nat,q<4→S.pr q=none→S.Q.alive (q:Nat)=false):yH 185 [vp k 0,vi p,.agg (qs i)] (z3 yA k (L,S)::R) fun w L2=>w=vu (S.fork p x i).1∧L2=z3 yA k (L,(S.fork p x i).2)::R:=by
 refine ze (yB k L S) fun y _=> ?_
 dsimp only [yV,List.cons_append,List.nil_append]
 have hl:((List.range S.Q.n).map L.c).length=S.Q.n:=by simp
 refine yl (K:=zX j3 1) (qX y.cv ((List.range S.Q.n).map L.c)) fun j5=> ?_
 replace j5:=jH j5
 refine SW.sub ?_ (Qi hp hx (k:=k) (L:=L) (S:=S) (y:=y) (R:=R))
 dsimp only [W8,WJ]
 refine yl (K:=zX qs 4) (qX (y.cd p) x.code) fun N8=> ?_
 refine SW.intro rfl Tryz.func185 rfl ?_
 refine O0 2 J (yu rfl rfl rfl rfl fun i5=> ?_)
 refine Z 6 J (fa J Y (qJ rfl (fun _ h=>tB rfl rfl (by decide) (by decide) h) ?_))
 refine Z1 (Ng _ _ _ S y) J Y (Z 7 J (z5 (fun j4=> ?_) (fun j4=> ?_)))
 ·refine Z 4 J (Z0 (VO _ 4 (by decide)) J (Z 3 J (zI J J J ?_)))
  rw [show S.fork p x i=(Ww 4,S)by unfold KS.fork;rw [iL j4]]
  refine⟨_,⟨rfl,rfl⟩,Sub.trans ?_ (zq (S:=S) (S':=S) (y:=y) (y':=y) (x':=x) hp rfl (fun _=>rfl) (vC hx) (fun j _=>rfl) rfl rfl)⟩
  exact Y
 obtain⟨q,hfq,hqI,XV,hq⟩:=iM j4
 have YN:p≠q:=fun e=>by { rw [e,hq]at hx;cases hx }
 rw [hqI]
 refine Z 8 J (fa J Y (zo rfl (fun _=>zw rfl rfl rfl (by omega) (by omega)) ?_))
 refine lf J Y (qU (p:=p) (L:=L) (S:=S) (y:=y) hp hx) (Z 1 J (fa J Y (ld J Y J (Z 1 J (Yk (Kk _ _ (x.vm (S.W L) p) S.M S.Rf S.Ws hT dO (by show(3:Nat)<1099511627776;decide) (by show(13:Nat)<1099511627776;decide) (q:Nat)) rfl (fun _=>rfl) ?_)))))
 intro u29 L29 tG
 rcases zA.iJ (x:=S.vs x) (W:=S.W L) (o:=(q:Nat))with⟨cf,cS,v2,HT⟩|⟨bad,v2,HT,HR⟩
 ·rw [HT]at tG
  obtain⟨Xf,rfl,rfl⟩:=tG
  refine Z 10 J (zo rfl (fun _=>zG rfl rfl rfl (uT rfl)) (qm (by omega) ?_))
  refine Z 4 J (zW [0,0,0,0,4,20,60,124,252,508,1020,0,4092,0,16380,32764,1,65537,262143,524287] [([0,1,2,3,4,5,6,7,8,9,10,11,13,16,17],[7,10,11],some 12),([14,15,18],[],some 19),([],[],none)] (by kernel_rfl) ?_)
  refine z7 (ZK 5 J (zx J Y (uc rfl (fun _=>zw rfl rfl rfl (by omega) (by omega)) ?_)))
  refine YO J Y (qU (p:=p) (L:=L) (S:=S) (y:=y) hp hx) (ZK 1 J (zx J Y (kv J Y Y J J (kv J Y Y J J (ZK 2 J (zx J Y (z8 ⟨(jP J Y (qU (p:=p) (L:=L) (S:=S) (y:=y) hp hx) J (z6 _ rfl) (Wm J Y Y J J J (z6 _ (Qx N8)) (Wm J Y Y J J J (z6 _ rfl) z9))),?_⟩)))))))
  refine yY (GH _ x.w (y.cd p) x.code gE x.pc nX i 0) rfl (fun _=>rfl) ?_
  rintro _ _ ⟨OT,rfl,rfl⟩
  refine zJ (z7 (cz [_,_,_,_,_,_,_,_,_,_,_] J Y Y J (r8 rfl rfl rfl rfl fun i51=> ?_)))
  refine uc rfl (fun _=>zw rfl rfl rfl (by omega) (by omega)) ?_
  refine z8 ⟨z9,?_⟩
  refine sF J Y J J (zJ (z7 (z8 ⟨z9,?_⟩)))
  refine OX 4 J (fa J Y (lf J Y (Li (L:=L) (S:=S) (y:=y) (q:=q) (v:=vp i51 0) XV) (Z 1 J (Z1 (o8 _ _ S.Q (q:Nat) (dq q XV hq)) J Y (Z 4 J (zd (Sub.trans (Sub.one (K:=zC) (a:=y.a p) (K2:=zC) (a2:=y.a p) (x2:=YF (x.w) (y.cd p) (x.pc)++ [vp (y.v p) 0]) fun _ e=>e) (Sub.trans (Sub.one (K:=zC) (a:=i51) (K2:=zC) (a2:=i51) (x2:=YF (qg x.w i 0) (OT) (wK x.code (x.pc+1))++ [vp (Xf) 0]) fun _ e=>e) (Sub.trans (Sub.one (K:=zO) (a:=k) (K2:=zO) (a2:=k) (x2:=(18,upd (kF L S y) (q+9) (vp i51 0))) fun _ e=>e) (Sub.trans ?_ (tL (k:=k) (R:=R) (L:=L) (a:=y.a p) (v:=y.v p) (cd:=y.cd p) (X:=(x.of v2).vm (S.W L) p) (X2:=YV.mk (S.W L) (q:Nat) x.A cf [] cS) (S:=S) (S':=({ ((S.qu p x v2).vA q (some (qB.mk (qg x.w i 0) (wK x.code (x.pc+1)) x.code x.A cf [] cS)))with Q:=S.Q.gQ (q:Nat) } :KS)) (y:=y) (y':=(KY.mk y.cv (fun j=>if j=q then i51 else y.a j) (fun j=>if j=q then Xf else y.v j) (fun j=>if j=q then OT else y.cd j) y.ch)) (x':=x.of v2) (x2:=(qB.mk (qg x.w i 0) (wK x.code (x.pc+1)) x.code x.A cf [] cS)) (a2:=i51) (v2:=Xf) (FM:=OT) hp XV YN (zg.dA S.Q (q:Nat)) (fun _=>rfl) hq (by simp only [KS.qL,KS.qu,KS.vA,if_true,if_neg YN,if_neg (Ne.symm YN),Option.map_some]<;>rfl) (by simp only [KS.qL,KS.qu,KS.vA,if_true,if_neg YN,if_neg (Ne.symm YN),Option.map_some]<;>rfl) (fun j h1 h2=>by simp only [KS.qL,KS.qu,KS.vA,if_neg h1,if_neg h2]) rfl (?_:upd (kF L S y) (q+9) (vp i51 0)=_)))))) ?_))))))
  ·exact Y
  ·rw [show(kF L S y)=kF L (S.qu p x v2) y from Wu hx]
   funext j
   refine cy (S:=S.qu p x v2) (S':=({ ((S.qu p x v2).vA q (some (qB.mk (qg x.w i 0) (wK x.code (x.pc+1)) x.code x.A cf [] cS)))with Q:=S.Q.gQ (q:Nat) } :KS)) (y:=y) (y':=(KY.mk y.cv (fun j=>if j=q then i51 else y.a j) (fun j=>if j=q then Xf else y.v j) (fun j=>if j=q then OT else y.cd j) y.ch)) XV (by simp only [KS.wx,KS.vA,KS.qu,if_true]) (fun j hj=> ?_) (fun j h=> ?_) j
   ·simp only [KS.wx,KS.vA,KS.qu,if_neg hj]
   exact Gw h
  refine Z 1 J (Z1 (bA _ _ _ ({ ((S.qu p x v2).vA q (some (qB.mk (qg x.w i 0) (wK x.code (x.pc+1)) x.code x.A cf [] cS)))with Q:=S.Q.gQ (q:Nat) } :KS) p) J Y (Z 4 J (zo rfl (fun _=>qy rfl rfl (qR (by omega))) ?_)))
  refine Z 3 J (zI J J J ?_)
  have hfv:zA.fork (S.vs x) S.W0 (q:Nat)=(0,some (cf,cS),v2):=HT
  rw [show S.fork p x i=(q,({ ((S.qu p x v2).vA q (some (qB.mk (qg x.w i 0) (wK x.code (x.pc+1)) x.code x.A cf [] cS)))with Q:=S.Q.gQ (q:Nat) } :KS).flush p)by unfold KS.fork;rw [hfq];simp only [hfv]]
  exact fq
 rw [HT]at tG
 obtain⟨rfl,rfl⟩:=tG
 obtain⟨n,rfl,hn⟩: ∃n:Nat,bad=n∧(n=5∨n=2):=⟨bad.toNat,by omega,by omega⟩
 refine Z 10 J (zo rfl (fun _=>zG rfl rfl rfl (uT rfl)) (dx (by omega) ?_))
 refine Z 5 J (Z0 (VO _ n (by omega)) J (Z 3 J (zI J J J ?_)))
 have hfv:zA.fork (S.vs x) S.W0 (q:Nat)=(((n:Nat):Int),none,v2):=HT
 rw [show S.fork p x i=(Ww n,S.qu p x v2)by unfold KS.fork;rw [hfq];simp only [hfv];rfl]
 refine⟨_,⟨rfl,rfl⟩,Sub.trans ?_ (zq (S:=S) (S':=S.qu p x v2) (y:=y) (y':=y) (x':=x.of v2) hp rfl (fun _=>rfl) VV (fun j hj=>UX hj) rfl (Wu hx))⟩
 exact Y
theorem Ih (R:List SP) (i c:Nat) (ws:List Nat) (x:Nat):yH 186 [vp i 0,vu x] (z3 qC c (4,ws.map vu)::z3 zC i [.chan (some c)]::R) fun w L=>w= .bool (decide (ws.length<4))∧L=z3 qC c (4,(if ws.length<4 then ws++ [x]else ws).map vu)::z3 zC i [.chan (some c)]::R:=by
 refine CZ rfl (fun h=> ?_) fun h=> ?_
 ·rw [List.length_map]at h
  rw [decide_eq_true h,if_pos h,List.map_append];exact⟨rfl,rfl⟩
 rw [List.length_map]at h
 rw [decide_eq_false (by omega),if_neg (by omega)];exact⟨rfl,rfl⟩
theorem Ic (R:List SP) (i c:Nat) (ws:List Nat):yH 188 [vp i 0] (z3 qC c (4,ws.map vu)::z3 zC i [.chan (some c)]::R) fun w L=>w= .tuple [vu (ws.headD 0),.bool (!ws.isEmpty)]∧L=z3 qC c (4,ws.tail.map vu)::z3 zC i [.chan (some c)]::R:=by
 cases ws with
 |nil=>exact cV rfl ⟨rfl,rfl⟩
 |cons a l=>exact cW rfl ⟨rfl,rfl⟩
theorem gU {V:Type} {c:Prop} [Decidable c] {a b:Int×V} (ha:0≤a.1∧a.1≤100) (hb:0≤b.1∧b.1≤100):0≤(if c then a else b).1∧(if c then a else b).1≤100:=by split<;>assumption
theorem Q5 {V:Type} {z:Int} {v:V} (h:0≤z∧z≤100):0≤((z,v):Int×V).1∧((z,v):Int×V).1≤100:=h
theorem zA.Nk {x:zA} {inv:Bool} {o:Int} {f n r:Nat} :0≤(zA.map x inv o f n r).1∧(zA.map x inv o f n r).1≤100:=gU (Q5 (by decide)) (gU (Q5 (by decide)) (gU (Q5 (by decide)) (Q5 (by decide))))
theorem zA.Ej {x:zA} {inv:Bool} {f n:Nat} :0≤(zA.ZH x inv f n).1∧(zA.ZH x inv f n).1≤100:=gU (Q5 (by decide)) (gU (Q5 (by decide)) (Q5 (by decide)))
theorem zA.sc {x:zA} {inv:Bool} {f n r:Nat} :0≤(zA.vN x inv f n r).1∧(zA.vN x inv f n r).1≤100:=gU (Q5 (by decide)) (gU (Q5 (by decide)) (Q5 (by decide)))
theorem zA.Nx {x:zA} {inv:Bool} {f:Nat} :0≤(zA.out x inv f).1∧(zA.out x inv f).1≤100:=gU (Q5 (by decide)) (gU (Q5 (by decide)) (gU (Q5 (by decide)) (gU (Q5 (by decide)) (Q5 (by decide)))))
theorem zA.CK {x:zA} {inv:Bool} {o z4:Int} {w:Bool} :0≤(zA.fix x inv o z4 w).1∧(zA.fix x inv o z4 w).1≤100:=gU (Q5 (by decide)) (gU (Q5 (by decide)) (gU (Q5 (by decide)) (gU (Q5 (by decide)) (Q5 (by decide)))))
theorem ij (R:List SP) (k:Nat) (L:KL) (S:KS) (p:Nat) (x:qB) (hp:p<4) (hx:S.pr p=some x) (i:qG) (hw: ∀j,x.w j≤18446744073709551615) (gE:x.code.length≤1000) (nX: -1000000≤x.pc∧x.pc≤1000000) (hT:x.S.tables.length≤400000) (dO: ∀z,cnt S.Rf z≤1000000) (dq: ∀q:Nat,q<4→S.pr q=none→S.Q.alive (q:Nat)=false):yH 133 [vp k 0,vi p,.agg (qs i)] (z3 yA k (L,S)::R) fun w L2=>w=vu (S.answer p x i).1∧L2=z3 yA k (L,(S.answer p x i).2)::R:=by
 refine ze (yB k L S) fun y _=> ?_
 dsimp only [yV,List.cons_append,List.nil_append]
 have hl:((List.range S.Q.n).map L.c).length=S.Q.n:=by simp
 refine yl (K:=zX j3 1) (qX y.cv ((List.range S.Q.n).map L.c)) fun j5=> ?_
 replace j5:=jH j5
 refine SW.sub ?_ (Qi hp hx (k:=k) (L:=L) (S:=S) (y:=y) (R:=R))
 dsimp only [W8,WJ]
 refine yl (K:=zX qs 4) (qX (y.cd p) x.code) fun N8=> ?_
 refine SW.intro rfl Tryz.func133 rfl ?_
 refine O0 2 J (yu rfl rfl rfl rfl fun i5=> ?_)
 refine Z 3 J (zW [0,0,1,5,15,31,63,127,255,0,0,512,2560,7680,15872,32256,65024,130560,261632,0,524799,2097151] [([0,1,2,3,4,5,6,7,8,9,10,11,12,13,14,15,16,17,18,19,20],[5,8,14,18],some 21),([],[],none)] (by kernel_rfl) ?_)
 refine z7 (ZK 3 J (zx J Y (uc rfl (fun _=>zw rfl rfl rfl (by omega) (by omega)) ?_)))
 refine YO J Y (qU (p:=p) (L:=L) (S:=S) (y:=y) hp hx) (ZK 1 J (zx J Y (q9 J Y J (ZK 3 J (zx J Y (uc rfl (fun _=>zw rfl rfl rfl (by omega) (by omega)) ?_))))))
 refine YO J Y (qU (p:=p) (L:=L) (S:=S) (y:=y) hp hx) (ZK 1 J (zx J Y (zx J Y (kv J Y Y J J (kq rfl rfl rfl fun i8=> ?_)))))
 refine ZK 1 J (z8 ⟨(jP J Y (qU (p:=p) (L:=L) (S:=S) (y:=y) hp hx) J (z6 _ rfl) (yN J Y J J J (jP J Y (qU (p:=p) (L:=L) (S:=S) (y:=y) hp hx) J (z6 _ rfl) (Wm J Y Y J J J (z6 _ rfl) z9)))),?_⟩)
 refine sN J Y Y J J J (zJ (z7 (z8 ⟨z9,?_⟩)))
 refine OX 3 J (fa J Y (ld J Y J (Z 5 J (z5 (fun dk=> ?_) (fun dk=> ?_)))))
 ·refine Z 8 J (zo rfl (fun _=>zw rfl rfl rfl (by omega) (by omega)) ?_)
  refine ld J Y J (zo rfl (fun _=>zw rfl rfl rfl (by omega) (by omega)) ?_)
  refine ld J Y J (zo rfl (fun _=>zw rfl rfl rfl (by omega) (by omega)) ?_)
  refine ld J Y J (Z4 (OZ _ _ (x.vm (S.W L) p) S.M S.Rf S.Ws (Nat.le_trans hT (by decide)) (x.w 0) (x.w 1) (x.w 2) (hw 0) (hw 1) (hw 2)) J Y Y Y Y ?_)
  rcases hr:zA.map (S.vs x) S.inv (p:Nat) (x.w 0) (x.w 1) (x.w 2)with⟨z,v2⟩
  have hz:0≤z∧z≤100:=by { have:=zA.Nk (x:=S.vs x) (inv:=S.inv) (o:=(p:Nat)) (f:=x.w 0) (n:=x.w 1) (r:=x.w 2);rw [hr]at this;exact this }
  dsimp only
  refine zd (Sub.trans ?_ (zq (k:=k) (R:=R) (L:=L) (S:=S) (S':=S.qu p x v2) (y:=y) (y':=y) (x':=x.of v2) hp rfl (fun _=>rfl) VV (fun j hj=>UX hj) rfl (Wu hx))) ?_
  ·exact Y
  refine Z1 (kr _ _ _ (S.qu p x v2) p z hz) J Y (Z 3 J (zI J J J ?_))
  rw [show S.answer p x i=(S.qu p x v2).done p z by unfold KS.answer;rw [if_pos dk];rw [hr]]
  exact fq
 refine Z 6 J (z5 (fun pW=> ?_) (fun pW=> ?_))
 ·refine Z 8 J (zo rfl (fun _=>zw rfl rfl rfl (by omega) (by omega)) ?_)
  refine ld J Y J (zo rfl (fun _=>zw rfl rfl rfl (by omega) (by omega)) ?_)
  refine ld J Y J (Z4 (Eu _ _ (x.vm (S.W L) p) S.M S.Rf S.Ws (Nat.le_trans hT (by decide)) (x.w 0) (x.w 1) (hw 0) (hw 1)) J Y Y Y Y ?_)
  rcases hr:zA.ZH (S.vs x) S.inv (x.w 0) (x.w 1)with⟨z,v2⟩
  have hz:0≤z∧z≤100:=by { have:=zA.Ej (x:=S.vs x) (inv:=S.inv) (f:=x.w 0) (n:=x.w 1);rw [hr]at this;exact this }
  dsimp only
  refine zd (Sub.trans ?_ (zq (k:=k) (R:=R) (L:=L) (S:=S) (S':=S.qu p x v2) (y:=y) (y':=y) (x':=x.of v2) hp rfl (fun _=>rfl) VV (fun j hj=>UX hj) rfl (Wu hx))) ?_
  ·exact Y
  refine Z1 (kr _ _ _ (S.qu p x v2) p z hz) J Y (Z 3 J (zI J J J ?_))
  rw [show S.answer p x i=(S.qu p x v2).done p z by unfold KS.answer;rw [if_neg dk,if_pos pW];rw [hr]]
  exact fq
 refine Z 6 J (z5 (fun iR=> ?_) (fun iR=> ?_))
 ·refine Z 8 J (zo rfl (fun _=>zw rfl rfl rfl (by omega) (by omega)) ?_)
  refine ld J Y J (zo rfl (fun _=>zw rfl rfl rfl (by omega) (by omega)) ?_)
  refine ld J Y J (zo rfl (fun _=>zw rfl rfl rfl (by omega) (by omega)) ?_)
  refine ld J Y J (Z4 (aO _ _ (x.vm (S.W L) p) S.M S.Rf S.Ws (Nat.le_trans hT (by decide)) (x.w 0) (x.w 1) (x.w 2) (hw 0) (hw 1) (hw 2)) J Y Y Y Y ?_)
  rcases hr:zA.vN (S.vs x) S.inv (x.w 0) (x.w 1) (x.w 2)with⟨z,v2⟩
  have hz:0≤z∧z≤100:=by { have:=zA.sc (x:=S.vs x) (inv:=S.inv) (f:=x.w 0) (n:=x.w 1) (r:=x.w 2);rw [hr]at this;exact this }
  dsimp only
  refine zd (Sub.trans ?_ (zq (k:=k) (R:=R) (L:=L) (S:=S) (S':=S.qu p x v2) (y:=y) (y':=y) (x':=x.of v2) hp rfl (fun _=>rfl) VV (fun j hj=>UX hj) rfl (Wu hx))) ?_
  ·exact Y
  refine Z1 (kr _ _ _ (S.qu p x v2) p z hz) J Y (Z 3 J (zI J J J ?_))
  rw [show S.answer p x i=(S.qu p x v2).done p z by unfold KS.answer;rw [if_neg dk,if_neg pW,if_pos iR];rw [hr]]
  exact fq
 refine Z 6 J (z5 (fun iT=> ?_) (fun iT=> ?_))
 ·refine Z 8 J (zo rfl (fun _=>zw rfl rfl rfl (by omega) (by omega)) ?_)
  refine ld J Y J (Z4 (Oa _ _ (x.vm (S.W L) p) S.M S.Rf S.Ws (Nat.le_trans hT (by decide)) (x.w 0) (hw 0)) J Y Y Y Y ?_)
  rcases hr:zA.out (S.vs x) S.inv (x.w 0)with⟨z,v2⟩
  have hz:0≤z∧z≤100:=by { have:=zA.Nx (x:=S.vs x) (inv:=S.inv) (f:=x.w 0);rw [hr]at this;exact this }
  dsimp only
  refine zd (Sub.trans ?_ (zq (k:=k) (R:=R) (L:=L) (S:=S) (S':=S.qu p x v2) (y:=y) (y':=y) (x':=x.of v2) hp rfl (fun _=>rfl) VV (fun j hj=>UX hj) rfl (Wu hx))) ?_
  ·exact Y
  refine Z1 (kr _ _ _ (S.qu p x v2) p z hz) J Y (Z 3 J (zI J J J ?_))
  rw [show S.answer p x i=(S.qu p x v2).done p z by unfold KS.answer;rw [if_neg dk,if_neg pW,if_neg iR,if_pos iT];rw [hr]]
  exact fq
 refine Z 6 J (z5 (fun mz=> ?_) (fun mz=> ?_))
 ·refine Z 7 J (lN J Y Y J J (zd (Sub.trans ?_ (zq (k:=k) (R:=R) (L:=L) (S:=S) (S':=S) (y:=y) (y':=y) (x':=x) hp rfl (fun _=>rfl) (vC hx) (fun j _=>rfl) rfl rfl)) ?_))
  ·exact Y
  refine Z1 (Hv _ _ _ S p x hp hx i gE nX hT dO dq) J Y (Z 3 J (zI J J J ?_))
  rw [show S.answer p x i=S.fork p x i by unfold KS.answer;rw [if_neg dk,if_neg pW,if_neg iR,if_neg iT,if_pos mz]]
  exact fq
 refine Z 6 J (z5 (fun P2=> ?_) (fun P2=> ?_))
 ·refine Z 4 J (zW [0,1,3,7,0,16,63,127] [([0,1,2,3,4,5],[3,5],some 6),([7],[],none)] (by kernel_rfl) ?_)
  refine z7 (ZK 2 J (zx J Y (YO J Y D4 (uc rfl (fun _=>zw rfl rfl rfl (by omega) (by omega)) ?_))))
  refine q9 J Y J (z8 ⟨(jP J Y D4 J (z6 _ rfl) (yN J Y J J J z9)),?_⟩)
  refine Z2 (Ih _ L.pp y.ch S.ww _) J Y Y (zV (fun h92=> ?_) (fun h92=> ?_))
  ·refine zJ (z7 (ZK 1 J (z8 ⟨z9,?_⟩)))
   refine OX 7 J (zI J J J ?_)
   have uE:S.ww.length<4:=of_decide_eq_true (by assumption)
   rw [show S.answer p x i=(0,({ S with ww:=S.ww++ [x.w 0] } :KS))by unfold KS.answer;rw [if_neg dk,if_neg pW,if_neg iR,if_neg iT,if_neg mz,if_pos P2];exact if_pos uE]
   rw [if_pos uE]
   refine⟨_,⟨rfl,rfl⟩,Sub.trans ?_ (zq (k:=k) (R:=R) (L:=L) (S:=S) (S':=({ S with ww:=S.ww++ [x.w 0] } :KS)) (y:=y) (y':=y) (x':=x) hp rfl (fun _=>rfl) (vC hx) (fun j _=>rfl) rfl (show kF L S y=kF L ({ S with ww:=S.ww++ [x.w 0] } :KS) y from rfl))⟩
   exact Y
  refine zJ (z7 (ZK 1 J (z8 ⟨z9,?_⟩)))
  refine OX 3 J (Z0 (VO _ 4 (by decide)) J (Z 3 J (zI J J J ?_)))
  have uE: ¬S.ww.length<4:=of_decide_eq_false (by assumption)
  rw [show S.answer p x i=(Ww 4,S)by unfold KS.answer;rw [if_neg dk,if_neg pW,if_neg iR,if_neg iT,if_neg mz,if_pos P2];exact if_neg uE]
  rw [if_neg uE]
  refine⟨_,⟨rfl,rfl⟩,Sub.trans ?_ (zq (k:=k) (R:=R) (L:=L) (S:=S) (S':=S) (y:=y) (y':=y) (x':=x) hp rfl (fun _=>rfl) (vC hx) (fun j _=>rfl) rfl (show kF L S y=kF L S y from rfl))⟩
  exact Y
 refine Z 6 J (z5 (fun XJ=> ?_) (fun XJ=> ?_))
 ·refine Z 7 J (fa J Y (lf J Y D4 (Z2 (Ic _ L.pp y.ch S.ww) J Y Y ?_)))
  rcases Hl:S.ww with _|⟨wa,wl⟩
  ·refine Z 15 J (Z0 (VO _ 4 (by decide)) J (Z 3 J (zI J J J ?_)))
   rw [show S.answer p x i=(Ww 4,S)by unfold KS.answer;rw [if_neg dk,if_neg pW,if_neg iR,if_neg iT,if_neg mz,if_neg P2,if_pos XJ];rw [Hl]]
   refine⟨_,⟨rfl,rfl⟩,Sub.trans (Sub.one (K:=qC) (a:=y.ch) (K2:=qC) (a2:=y.ch) (x2:=(4,S.ww.map vu)) fun _ e=>by rw [Hl];exact e) (Sub.trans ?_ (zq (k:=k) (R:=R) (L:=L) (S:=S) (S':=S) (y:=y) (y':=y) (x':=x) hp rfl (fun _=>rfl) (vC hx) (fun j _=>rfl) rfl (show kF L S y=kF L S y from rfl)))⟩
   exact Y
  refine Z 20 J (zI J J J ?_)
  rw [show S.answer p x i=(wa,({ S with ww:=wl } :KS))by unfold KS.answer;rw [if_neg dk,if_neg pW,if_neg iR,if_neg iT,if_neg mz,if_neg P2,if_pos XJ];rw [Hl]]
  refine⟨_,⟨rfl,rfl⟩,Sub.trans (Sub.one (K:=qC) (a:=y.ch) (K2:=qC) (a2:=y.ch) (x2:=(4,wl.map vu)) fun _ e=>e) (Sub.trans ?_ (zq (k:=k) (R:=R) (L:=L) (S:=S) (S':=({ S with ww:=wl } :KS)) (y:=y) (y':=y) (x':=x) hp rfl (fun _=>rfl) (vC hx) (fun j _=>rfl) rfl (show kF L S y=kF L ({ S with ww:=wl } :KS) y from rfl)))⟩
  exact Y
 refine Z 9 J (zI J J J ?_)
 rw [show S.answer p x i=(0,S)by unfold KS.answer;rw [if_neg dk,if_neg pW,if_neg iR,if_neg iT,if_neg mz,if_neg P2,if_neg XJ]]
 refine⟨_,⟨rfl,rfl⟩,Sub.trans ?_ (zq (k:=k) (R:=R) (L:=L) (S:=S) (S':=S) (y:=y) (y':=y) (x':=x) hp rfl (fun _=>rfl) (vC hx) (fun j _=>rfl) rfl rfl)⟩
 exact Y
def wM (R:List (Int×Int)) (B:Int):Prop:= ∀z,cnt R z≤B
structure zA.Gr (x y:zA) (k:Nat):Prop where
 t:y.S.tables.length≤x.S.tables.length+k
 c: ∀B:Int,1≤B→wM x.s.R B→wM y.s.R B
 s:y.S.kernel=x.S.kernel∧y.S.user=x.S.user
theorem zA.Gr.refl (x:zA):x.Gr x 0:=⟨Nat.le_refl _,fun _ _ h=>h,rfl,rfl⟩
theorem zA.Gr.trans {x y z:zA} {k j:Nat} (h:x.Gr y k) (g:y.Gr z j):x.Gr z (k+j):=⟨by have:=h.t;have:=g.t;omega,fun B hB hx=>g.c B hB (h.c B hB hx),g.s.1.trans h.s.1,g.s.2.trans h.s.2⟩
theorem zA.Gr.mono {x y:zA} {k j:Nat} (h:x.Gr y k) (hk:k≤j):x.Gr y j:=⟨by have:=h.t;omega,h.c,h.s⟩
theorem We {s:PM} {B:Int} (hB:1≤B) (h:wM s.R B) (c w:Int):wM (s.take c w).R B:=GP h hB c w
theorem xT {s:PM} {B:Int} (h:wM s.R B) (z:Int):wM (s.jO z).R B:=by
 intro y
 unfold PM.jO
 split
 ·exact h y
 show cnt (wG s.R z (cnt s.R z-1)) y≤B
 rw [Wb]
 have:=h z;have:=h y
 split<;>omega
theorem oo {s:PM} {B:Int} (h:wM s.R B) (z:Int):wM (s.share z).R (B+1):=by
 intro y
 rw [tu]
 split
 ·have:=h y;omega
 rw [Wb]
 have:=h z;have:=h y
 split<;>omega
theorem Wc {s:PM} {B:Int} (hB:1≤B) (h:wM s.R B) (S:y5) (z4:Int) (x:Nat):wM (s.yZ S z4 x).1.R B:=by
 have h1: ∀(s:PM) (S:y5) (p:Nat),wM s.R B→wM (kO s S p).1.R B:=by
  intro s S p h;unfold kO;split
  ·exact We (s:=s) hB h 1 S.owner
  exact h
 have h2: ∀(s:PM) (S:y5) (p:Nat),wM s.R B→wM (rR s S p).1.R B:=by
  intro s S p h;unfold rR;split
  ·exact We (s:=s) hB h 1 S.owner
  exact h
 unfold PM.yZ
 split
 ·unfold sy;exact h2 _ _ _ (h1 _ _ _ h)
 exact h
theorem Qv (s:PM) (S:y5) (z4:Int) (x:Nat):(s.yZ S z4 x).2.kernel=S.kernel∧(s.yZ S z4 x).2.user=S.user∧(s.yZ S z4 x).2.tables.length≤S.tables.length+2:=by
 unfold PM.yZ
 split
 ·unfold sy
  have a:=Dl s S z4.toNat
  have b:=Dm (kO s S z4.toNat).1 (kO s S z4.toNat).2 z4.toNat
  exact⟨b.2.1.trans a.2.1,b.2.2.1.trans a.2.2.1,by have:=a.2.2.2;have:=b.2.2.2;show(rR (kO s S z4.toNat).1 (kO s S z4.toNat).2 z4.toNat).2.tables.length≤_;omega⟩
 exact⟨rfl,rfl,by show S.tables.length≤_;omega⟩
theorem zA.Gr.tell (x:zA) (inv:Bool) (z4:Int):x.Gr (x.tell inv z4) 2:=by
 have a:=Qv x.s x.S z4 (vx x.A x.fm x.sm x.s.R inv z4)
 exact⟨a.2.2,fun B hB h=>Wc hB h _ _ _,a.1,a.2.1⟩
theorem zA.Gr.loose (x:zA) (z4:Int):x.Gr (x.loose z4) 0:=by
 refine⟨Nat.le_refl _,fun B hB h=> ?_,rfl,rfl⟩
 show wM (dK.loose _ _).s.R B
 unfold dK.loose
 split
 ·exact h
 exact xT h _
theorem zA.Gr.less (x:zA) (inv:Bool) (z4:Int):x.Gr (x.less inv z4) 2:=(zA.Gr.loose x z4).trans (zA.Gr.tell _ inv z4)|>.mono (by omega)
theorem zA.Gr.fold (f:zA→Int→zA) (k:Nat) (hf: ∀(x:zA) (p:Int),x.Gr (f x p) k): ∀(l:List Int) (x:zA),x.Gr (l.foldl f x) (k*l.length):=by
 intro l
 induction l with
 |nil=>intro x;exact .refl x
 |cons p l ih=>
  intro x
  exact((hf x p).trans (ih _)).mono (by rw [List.length_cons,Nat.mul_succ];omega)
theorem zA.Gr.E7 {x:zA} (A:Nat→Int):x.Gr { x with A:=A } 0:=⟨Nat.le_refl _,fun _ _ h=>h,rfl,rfl⟩
theorem zA.Gr.Eb (x:zA) (o z4:Int):x.Gr { x with fm:=wG x.fm z4 (x.s.got:Nat),s:=x.s.take 2 o } 0:=⟨Nat.le_refl _,fun B hB h=>We hB h _ _,rfl,rfl⟩
theorem zA.Gr.more (x:zA) (inv:Bool) (o z4:Int):x.Gr (zA.more inv o x z4) 2:=(zA.Gr.Eb x o z4).trans (zA.Gr.tell _ inv z4)|>.mono (by omega)
theorem J5 {f n:Int} (h:qb f n):(zT f n).length≤256:=by
 unfold zT;rw [List.length_map,List.length_range];obtain⟨_,_,_,_⟩:=h;omega
theorem zA.Gr.map (x:zA) (inv:Bool) (o:Int) (f n r:Nat):x.Gr (zA.map x inv o f n r).2 600:=by
 unfold zA.map
 split
 ·exact(zA.Gr.refl x).mono (by omega)
 split
 ·exact(zA.Gr.refl x).mono (by omega)
 rename_i h
 split
 ·exact(zA.Gr.refl x).mono (by omega)
 have hl:=J5 (add_zero' (Classical.not_not.1 h))
 exact((zA.Gr.E7 (x:=x) _).trans (zA.Gr.fold _ 2 (fun x p=>zA.Gr.more x inv o p) _ _)).mono (by omega)
theorem zA.Gr.ZH (x:zA) (inv:Bool) (f n:Nat):x.Gr (zA.ZH x inv f n).2 600:=by
 unfold zA.ZH
 split
 ·exact(zA.Gr.refl x).mono (by omega)
 split
 ·exact(zA.Gr.E7 (x:=x) _).mono (by omega)
 rename_i h
 have hl:=J5 (fR (Classical.not_not.1 h))
 exact((zA.Gr.E7 (x:=x) _).trans (zA.Gr.fold _ 2 (fun x p=>zA.Gr.less x inv p) _ _)).mono (by omega)
theorem zA.Gr.vN (x:zA) (inv:Bool) (f n r:Nat):x.Gr (zA.vN x inv f n r).2 600:=by
 unfold zA.vN
 split
 ·exact(zA.Gr.refl x).mono (by omega)
 split
 ·exact(zA.Gr.E7 (x:=x) _).mono (by omega)
 rename_i h
 have hl:=J5 (JT (Classical.not_not.1 h))
 exact((zA.Gr.E7 (x:=x) _).trans (zA.Gr.fold (fun y p=>y.tell inv p) 2 (fun x p=>zA.Gr.tell x inv p) _ _)).mono (by omega)
theorem zA.Gr.out (x:zA) (inv:Bool) (z4:Nat):x.Gr (zA.out x inv z4).2 600:=by
 unfold zA.out
 split
 ·exact(zA.Gr.refl x).mono (by omega)
 split
 ·exact(zA.Gr.refl x).mono (by omega)
 split
 ·exact(zA.Gr.refl x).mono (by omega)
 split
 ·exact(zA.Gr.refl x).mono (by omega)
 generalize ((qH x.fm (z4:Int)).getD 0)=g
 have h1:x.Gr ({ x with w:=Vq x.w x.s.M g } :zA) 0:=⟨Nat.le_refl _,fun _ _ h=>h,rfl,rfl⟩
 have h2:=zA.Gr.loose ({ x with w:=Vq x.w x.s.M g } :zA) (z4:Int)
 have h3:(({ x with w:=Vq x.w x.s.M g } :zA).loose (z4:Int)).Gr { (({ x with w:=Vq x.w x.s.M g } :zA).loose (z4:Int))with sm:=wG (({ x with w:=Vq x.w x.s.M g } :zA).loose (z4:Int)).sm (z4:Int) (aF x.w x.s.M g:Nat) } 0:=⟨Nat.le_refl _,fun _ _ h=>h,rfl,rfl⟩
 exact(((h1.trans h2).trans h3).trans (zA.Gr.tell _ inv z4)).mono (by omega)
theorem zA.Gr.zl (x:zA) (inv:Bool) (o z4 slot:Int):x.Gr (x.zl inv o z4 slot).2 2:=by
 by_cases h:x.s.M.first.isSome
 ·have e:(x.zl inv o z4 slot).2=({ x with fm:=wG x.fm z4 (x.s.got:Nat),sm:=Wg x.sm z4,s:=⟨(Vp x.w (x.s.take 2 o).M slot (x.s.got:Nat)).2.2,(x.s.take 2 o).R⟩,w:=(Vp x.w (x.s.take 2 o).M slot (x.s.got:Nat)).2.1 } :zA).tell inv z4:=congrArg Prod.snd (if_pos h)
  rw [e]
  have h1:x.Gr ({ x with fm:=wG x.fm z4 (x.s.got:Nat),sm:=Wg x.sm z4,s:=⟨(Vp x.w (x.s.take 2 o).M slot (x.s.got:Nat)).2.2,(x.s.take 2 o).R⟩,w:=(Vp x.w (x.s.take 2 o).M slot (x.s.got:Nat)).2.1 } :zA) 0:=⟨Nat.le_refl _,fun B hB h=>We (s:=x.s) hB h 2 o,rfl,rfl⟩
  exact(h1.trans (zA.Gr.tell _ inv z4)).mono (by omega)
 have e:(x.zl inv o z4 slot).2=x:=congrArg Prod.snd (if_neg h)
 rw [e]
 exact(zA.Gr.refl x).mono (by omega)
theorem Br {fm:List (Int×Int)} {s:PM} {B:Int} (hB:1≤B) (h:wM s.R B) (o z4:Int):wM (uX fm s o z4).2.2.R B:=by
 by_cases hs:s.M.first.isSome
 ·have e:(uX fm s o z4).2.2=PM.jO ⟨(s.take 2 o).M.copy (J3 fm z4:Nat) (s.got:Nat),(s.take 2 o).R⟩ (J3 fm z4:Nat):=congrArg (fun q:Bool×List (Int×Int)×PM=>q.2.2) (if_pos hs)
  rw [e]
  exact xT (s:=PM.mk ((s.take 2 o).M.copy (J3 fm z4:Nat) (s.got:Nat)) (s.take 2 o).R) (We hB h 2 o) _
 have e:(uX fm s o z4).2.2=s:=congrArg (fun q:Bool×List (Int×Int)×PM=>q.2.2) (if_neg hs)
 rw [e];exact h
theorem zA.Gr.part (x:zA) (o z4:Int):x.Gr (x.part o z4).2 0:=⟨Nat.le_refl _,fun _ hB h=>Br hB h o z4,rfl,rfl⟩
theorem ag {x:zA} {inv:Bool} {z4:Int} {k:Nat} (q:Bool×zA) (h:x.Gr q.2 k) (f:zA→Int×zA) (hf: ∀y,x.Gr y k→x.Gr (f y).2 (k+2)):x.Gr (if q.1=false then(5,q.2)else f q.2).2 (k+2):=by
 split
 ·exact h.mono (by omega)
 exact hf _ h
theorem zA.Gr.Gn (x:zA) (inv:Bool) (o z4:Int) (write:Bool):x.Gr (x.Gn inv o z4 write).2 2:=by
 have h:x.Gr (if write=true∧1<cnt x.s.R ((qH x.fm z4).getD 0)then x.part o z4 else(true,x)).2 0:=by
  split
  ·exact zA.Gr.part x o z4
  exact zA.Gr.refl x
 exact ag (inv:=inv) (z4:=z4) _ h (fun y=>(0,y.tell inv z4)) fun y hy=>hy.trans (zA.Gr.tell y inv z4)
theorem zA.Gr.fix (x:zA) (inv:Bool) (o z4:Int) (write:Bool):x.Gr (x.fix inv o z4 write).2 600:=by
 unfold zA.fix
 split
 ·exact(zA.Gr.refl x).mono (by omega)
 split
 ·exact(zA.Gr.refl x).mono (by omega)
 have h:x.Gr (if(qH x.sm z4).isSome then x.zl inv o z4 ((qH x.sm z4).getD 0)else(true,x)).2 2:=by
  split
  ·exact zA.Gr.zl x inv o z4 _
  exact(zA.Gr.refl x).mono (by omega)
 exact(ag (inv:=inv) (z4:=z4) _ h (fun y=>y.Gn inv o z4 write) fun y hy=>hy.trans (zA.Gr.Gn y inv o z4 write)).mono (by omega)
theorem fL (x:zA) (B:Int) (hB:1≤B) (h:wM x.s.R B):wM (zA.drop x).s.R B:=by
 unfold zA.drop
 have h1:=(zA.Gr.fold zA.loose 0 (fun x p=>zA.Gr.loose x p) (zH x.A 256) x).c B hB h
 have h2: ∀(l:List Int) (s:PM),wM s.R B→wM (l.foldl PM.jO s).R B:=by
  intro l
  induction l with
  |nil=>intro s h;exact h
  |cons z l ih=>intro s h;exact ih _ (xT h z)
 exact h2 _ _ h1
theorem Bq (x:zA) (W:Wd) (o:Int) (B:Int) (hB:1≤B) (h:wM x.s.R B):wM (zA.fork x W o).2.2.s.R (B+300):=by
 have up: ∀ {R:List (Int×Int)},wM R B→wM R (B+300):=fun h z=>by have:=h z;omega
 unfold zA.fork
 split
 ·exact up h
 split
 ·exact up h
 rename_i s1 S1 hs
 have hc:wM s1.R B:=JC hs h hB
 dsimp only
 split
 ·exact up (fL _ B hB hc)
 have hlen:=jt x.A 256
 have e1: ∀(l:List Int) (y:wN) (D:Int),wM y.s.R D→wM (l.foldl (wN.share x.fm) y).s.R (D+l.length):=by
  intro l
  induction l with
  |nil=>intro y D h z;have:=h z;simp only [List.foldl_nil,List.length_nil];omega
  |cons p l ih=>
   intro y D h z
   have:=ih (wN.share x.fm y p) (D+1) (oo h _) z
   rw [List.foldl_cons,List.length_cons];push_cast;omega
 have e2: ∀(l:List Int) (y:wN) (D:Int),1≤D→wM y.s.R D→wM (l.foldl (wN.both x.A x.fm x.sm x.w W.inv) y).s.R D:=by
  intro l
  induction l with
  |nil=>intro y D _ h;exact h
  |cons p l ih=>
   intro y D hD h
   exact ih _ D hD (Wc hD (Wc hD h _ _ _) _ _ _)
 have hf:=e1 (zH x.A 256) ⟨[],S1,x.S,s1⟩ B hc
 have hg:=e2 (zH x.A 256) ((zH x.A 256).foldl (wN.share x.fm) ⟨[],S1,x.S,s1⟩) (B+300) (by omega) (fun z=>by have:=hf z;omega)
 exact hg
theorem fg (x:zA) (W:Wd) (o:Int):(zA.fork x W o).2.2.S.tables.length≤x.S.tables.length+600∧(∀r,(zA.fork x W o).2.1=some r→r.2.tables.length≤600)∧(zA.fork x W o).2.2.S.kernel=x.S.kernel∧(zA.fork x W o).2.2.S.user=x.S.user:=by
 unfold zA.fork
 split
 ·exact⟨by show x.S.tables.length≤_;omega,fun _ h=>(by cases h),rfl,rfl⟩
 split
 ·exact⟨by show x.S.tables.length≤_;omega,fun _ h=>(by cases h),rfl,rfl⟩
 rename_i s1 S1 hs
 have lW:=JD hs
 dsimp only
 split
 ·exact⟨by show x.S.tables.length≤_;omega,fun _ h=>(by cases h),rfl,rfl⟩
 have hlen:=jt x.A 256
 have e1: ∀(l:List Int) (y:wN),(l.foldl (wN.share x.fm) y).cS=y.cS∧(l.foldl (wN.share x.fm) y).pS=y.pS:=by
  intro l
  induction l with
  |nil=>intro y;exact⟨rfl,rfl⟩
  |cons p l ih=>intro y;exact ih _
 have e2: ∀(l:List Int) (y:wN),(l.foldl (wN.both x.A x.fm x.sm x.w W.inv) y).cS.tables.length≤y.cS.tables.length+2*l.length∧(l.foldl (wN.both x.A x.fm x.sm x.w W.inv) y).pS.tables.length≤y.pS.tables.length+2*l.length∧(l.foldl (wN.both x.A x.fm x.sm x.w W.inv) y).pS.kernel=y.pS.kernel∧(l.foldl (wN.both x.A x.fm x.sm x.w W.inv) y).pS.user=y.pS.user:=by
  intro l
  induction l with
  |nil=>intro y;exact⟨by simp,by simp,rfl,rfl⟩
  |cons p l ih=>
   intro y
   obtain⟨a,b,c,d⟩:=ih (wN.both x.A x.fm x.sm x.w W.inv y p)
   have g1:=Qv y.s y.cS p (vx x.A y.cf [] y.s.R W.inv p)
   have g2:=Qv (y.s.yZ y.cS p (vx x.A y.cf [] y.s.R W.inv p)).1 y.pS p (vx x.A x.fm x.sm (y.s.yZ y.cS p (vx x.A y.cf [] y.s.R W.inv p)).1.R W.inv p)
   refine⟨?_,?_,c.trans g2.1,d.trans g2.2.1⟩
   ·rw [List.foldl_cons,List.length_cons]
    have:(wN.both x.A x.fm x.sm x.w W.inv y p).cS.tables.length≤y.cS.tables.length+2:=g1.2.2
    omega
   rw [List.foldl_cons,List.length_cons]
   have:(wN.both x.A x.fm x.sm x.w W.inv y p).pS.tables.length≤y.pS.tables.length+2:=g2.2.2
   omega
 obtain⟨a,b,c,d⟩:=e2 (zH x.A 256) ((zH x.A 256).foldl (wN.share x.fm) ⟨[],S1,x.S,s1⟩)
 obtain⟨f1,f2⟩:=e1 (zH x.A 256) ⟨[],S1,x.S,s1⟩
 rw [f1]at a;rw [f2]at b c d
 refine⟨?_,fun r h=> ?_,c,d⟩
 ·dsimp only at b ⊢;omega
 cases h
 dsimp only at a ⊢;omega
theorem pR {S:zg} {p:Int} (hp:0≤p∧p<4): ∀ {k c:Nat},S.find p c k<0→ ∀d,c≤d→d<c+k→S.on d≠p:=by
 intro k
 induction k with
 |zero=>intro c _ d h1 h2;omega
 |succ k ih=>
  intro c h d h1 h2
  unfold zg.find at h
  split at h
  ·omega
  rename_i hn
  rcases Nat.eq_or_lt_of_le h1 with rfl|h1
  ·intro e;exact hn ⟨e,hp.1,hp.2⟩
  exact ih h d h1 (by omega)
theorem iE {S:zg} {p:Int} : ∀ {k c:Nat},0≤S.find p c k→S.on (S.find p c k).toNat=p∧(S.find p c k).toNat<c+k:=by
 intro k
 induction k with
 |zero=>intro c h;unfold zg.find at h;omega
 |succ k ih=>
  intro c h
  unfold zg.find at h ⊢
  split
  ·rename_i hc
   exact⟨by show S.on c=p;exact hc.1,by show c<_;omega⟩
  rename_i hn
  rw [if_neg hn]at h
  have:=ih h
  exact⟨this.1,by omega⟩
structure zg.Good (S:zg):Prop where
 on: ∀d,d<S.n→0≤S.on d→S.on d<4∧S.al (S.on d).toNat=true
 ds: ∀d e,d<S.n→e<S.n→S.on d=S.on e→0≤S.on d→d=e
theorem zg.eY (S:zg) (c:Int):(S.pick c).2.al=S.al:=by
 unfold zg.pick
 split
 ·dsimp only;split<;>rfl
 rfl
theorem zg.u5 (S:zg) (c:Int):(S.pick c).2.n=S.n:=by
 unfold zg.pick
 split
 ·dsimp only;split<;>rfl
 rfl
theorem rK {S:zg} {l:Int} : ∀ {k i:Nat} {p:Int},S.gg l i k=some p→0≤p∧p<4∧S.al p.toNat=true∧S.YI p<0:=by
 intro k
 induction k with
 |zero=>intro i p h;unfold zg.gg at h;cases h
 |succ k ih=>
  intro i p h
  unfold zg.gg at h
  split at h
  ·rename_i hc
   cases h
   exact⟨by omega,by omega,hc.1,hc.2⟩
  exact ih h
theorem zg.GC (S:zg) (c:Nat) (hc:c<S.n):(∀d,d≠c→(S.pick c).2.on d=S.on d)∧(S.pick c).2.on c=(S.pick c).1∧((S.pick c).1= -1∨(0≤(S.pick c).1∧(S.pick c).1<4∧S.al (S.pick c).1.toNat=true∧ ∀d,d<S.n→d≠c→S.on d≠(S.pick c).1)):=by
 unfold zg.pick
 rw [if_pos (by omega)]
 dsimp only
 cases h:(S.qp (c:Int).toNat (-1)).gg (S.last (c:Int).toNat) 0 4 with
 |none=>exact⟨fun d hd=>by show(if d=(c:Int).toNat then _ else S.on d)=_;rw [if_neg (by omega)],by show(if c=(c:Int).toNat then _ else S.on c)=_;rw [if_pos (by omega)],.inl rfl⟩
 |some p=>
  obtain⟨h1,h2,h3,h4⟩:=rK h
  refine⟨fun d hd=> ?_,?_,.inr ⟨h1,h2,h3,fun d hd hdc=> ?_⟩⟩
  ·show(if d=(c:Int).toNat then p else if d=(c:Int).toNat then-1 else S.on d)=S.on d
   rw [if_neg (by omega),if_neg (by omega)]
  ·show(if c=(c:Int).toNat then p else if c=(c:Int).toNat then-1 else S.on c)=p
   rw [if_pos (by omega)]
  have:=pR (S:=S.qp (c:Int).toNat (-1)) ⟨h1,h2⟩ h4 d (by omega) (by show d<0+S.n;omega)
  intro e
  apply this
  show(if d=(c:Int).toNat then-1 else S.on d)=p
  rw [if_neg (by omega)];exact e
theorem zg.Good.pick {S:zg} (h:S.Good) (c:Nat) (hc:c<S.n):(S.pick c).2.Good:=by
 obtain⟨h1,h2,h3⟩:=S.GC c hc
 have dq:=S.eY c
 have hn:=S.u5 c
 refine⟨fun d hd h0=> ?_,fun d e hd he nV h0=> ?_⟩
 ·rw [hn]at hd
  rw [dq]
  by_cases e:d=c
  ·subst e
   rw [h2]at h0 ⊢
   rcases h3 with h3|h3
   ·omega
   exact⟨h3.2.1,h3.2.2.1⟩
  rw [h1 d e]at h0 ⊢
  exact h.on d hd h0
 rw [hn]at hd he
 by_cases a:d=c
 ·by_cases b:e=c
  ·omega
  subst a
  rw [h2]at nV h0
  rw [h1 e b]at nV
  rcases h3 with h3|h3
  ·omega
  exact absurd nV.symm (h3.2.2.2 e he b)
 by_cases b:e=c
 ·subst b
  rw [h2,h1 d a]at nV
  rw [h1 d a]at h0
  rcases h3 with h3|h3
  ·omega
  exact absurd nV (h3.2.2.2 d hd a)
 rw [h1 d a,h1 e b]at nV
 rw [h1 d a]at h0
 exact h.ds d e hd he nV h0
theorem zg.Good.gQ {S:zg} (h:S.Good) (p:Int):(S.gQ p).Good:=by
 unfold zg.gQ
 split
 ·refine⟨fun d hd h0=>⟨(h.on d hd h0).1,?_⟩,h.ds⟩
  show(if(S.on d).toNat=p.toNat then true else S.al (S.on d).toNat)=true
  split
  ·rfl
  exact(h.on d hd h0).2
 exact h
theorem zg.xf (S:zg) (p:Int):(S.fin p).n=S.n:=by
 unfold zg.fin
 split
 ·dsimp only;split<;>rfl
 rfl
theorem zg.CH (S:zg) (p:Nat) (hp:S.alive (p:Nat)=true):(S.fin (p:Nat)).al=fun q=>if q=p then false else S.al q:=by
 unfold zg.fin
 rw [if_pos hp]
 dsimp only;split<;>rfl
theorem zg.CI (S:zg) (h:S.Good) (p:Nat) (hp:S.alive (p:Nat)=true): ∀d,d<S.n→(S.fin (p:Nat)).on d=if S.on d=(p:Nat)then-1 else S.on d:=by
 have au:0≤((p:Nat):Int)∧((p:Nat):Int)<4:=by
  unfold zg.alive at hp
  rw [Bool.and_eq_true]at hp
  exact of_decide_eq_true hp.1
 intro d hd
 unfold zg.fin
 rw [if_pos hp]
 dsimp only
 split
 ·rename_i h0
  obtain⟨g1,g2⟩:=iE (S:=S.vO (p:Int).toNat false) h0
  have g1:S.on ((S.vO (p:Int).toNat false).YI p).toNat=(p:Nat):=g1
  have g2:((S.vO (p:Int).toNat false).YI p).toNat<0+S.n:=g2
  show(if d=((S.vO (p:Int).toNat false).YI p).toNat then-1 else S.on d)=_
  by_cases e:d=((S.vO (p:Int).toNat false).YI p).toNat
  ·rw [if_pos e,if_pos (by rw [e];exact g1)]
  rw [if_neg e,if_neg (fun e2=>e (h.ds _ _ hd (by omega) (e2.trans g1.symm) (by omega)))]
 rename_i h0
 have:=pR (S:=S.vO (p:Int).toNat false) au (by show zg.YI _ _<0;omega) d (by omega) (by show d<0+S.n;omega)
 rw [if_neg this]
theorem zg.Good.fin {S:zg} (h:S.Good) (p:Nat) (hp:S.alive (p:Nat)=true):(S.fin (p:Nat)).Good:=by
 have hn:=S.xf (p:Nat)
 have ha:=S.CH p hp
 have ho:=S.CI h p hp
 refine⟨fun d hd h0=> ?_,fun d e hd he nV h0=> ?_⟩
 ·rw [hn]at hd
  rw [ho d hd]at h0 ⊢
  by_cases e:S.on d=(p:Nat)
  ·rw [if_pos e]at h0;omega
  rw [if_neg e]at h0 ⊢
  have:=h.on d hd h0
  refine⟨this.1,?_⟩
  rw [ha]
  dsimp only
  rw [if_neg (by omega)]
  exact this.2
 rw [hn]at hd he
 rw [ho d hd]at h0 nV
 by_cases a:S.on d=(p:Nat)
 ·rw [if_pos a]at h0;omega
 rw [if_neg a]at h0 nV
 rw [ho e he]at nV
 by_cases b:S.on e=(p:Nat)
 ·rw [if_pos b]at nV;omega
 rw [if_neg b]at nV
 exact h.ds d e hd he nV h0
structure qB.Ok (x:qB) (b:Nat):Prop where
 w: ∀j,x.w j≤18446744073709551615
 code:x.code.length≤24
 pc:0≤x.pc∧x.pc≤24
 tb:x.S.tables.length≤1000*b
structure KS.yv (S:KS) (b:Nat):Prop where
 n0:1≤S.Q.n∧S.Q.n≤2
 nN:S.N.n=S.Q.n
 nH:S.H.n=S.Q.n
 q:S.Q.Good
 al: ∀p,p<4→S.Q.al p=(S.pr p).isSome
 no: ∀p,4≤p→S.pr p=none
 pr: ∀p x,S.pr p=some x→x.Ok b
 cn:wM S.Rf (1000*b)
 ww: ∀a,a ∈ S.ww→a≤18446744073709551615
 b1:1≤b
theorem qB.Ok.mono {x:qB} {b c:Nat} (h:x.Ok b) (hc:b≤c):x.Ok c:=⟨h.w,h.code,h.pc,by have:=h.tb;omega⟩
theorem KS.yv.mono {S:KS} {b c:Nat} (h:S.yv b) (hc:b≤c):S.yv c:=⟨h.n0,h.nN,h.nH,h.q,h.al,h.no,fun p x hx=>(h.pr p x hx).mono hc,fun z=>by have:=h.cn z;omega,h.ww,by have:=h.b1;omega⟩
section
variable {S:KS} {b:Nat}
theorem KS.yv.lt (h:S.yv b) {p:Nat} {x:qB} (hx:S.pr p=some x):p<4:=by
 rcases Nat.lt_or_ge p 4 with h1|h1
 ·exact h1
 rw [h.no p h1]at hx;cases hx
theorem KS.yv.runs (h:S.yv b):S.PX:=by
 intro d hd h0
 have e:S.Q.zQ (d:Nat)=S.Q.on d:=if_pos (by omega)
 rw [e]at h0 ⊢
 obtain⟨h1,h2⟩:=h.q.on d hd h0
 refine⟨by omega,?_⟩
 rw [h.al _ (by omega)]at h2
 exact Option.isSome_iff_exists.1 h2
theorem KS.yv.alive (h:S.yv b) {q:Nat} (hq:q<4):S.Q.alive (q:Nat)=(S.pr q).isSome:=by
 unfold zg.alive
 rw [decide_eq_true (by omega),Bool.true_and,show((q:Nat):Int).toNat=q from rfl,h.al q hq]
theorem KS.yv.WL (h:S.yv b) (c:Nat) (u:Av):(S.WL c u).yv b:=⟨h.n0,h.nN,h.nH,h.q,h.al,h.no,h.pr,h.cn,h.ww,h.b1⟩
theorem KS.yv.enter (h:S.yv b) (c p:Nat) (x:qB):(S.enter c p x).yv b:=h.WL _ _
theorem KS.yv.halt (h:S.yv b) (c:Nat):(S.halt c).yv b:=h.WL _ _
theorem KS.yv.vd (h:S.yv b) (c p:Nat) (x:qB):(S.vd c p x).yv b:=⟨h.n0,by show((S.N.ask p).2.2.take c (S.N.ask p).1).2.n=_;rw [zh.V6,zh.Pb];exact h.nN,h.nH,h.q,h.al,h.no,h.pr,h.cn,h.ww,h.b1⟩
theorem KS.yv.yx (h:S.yv b) (c:Nat):(S.yx c).yv b:=by
 unfold KS.yx;split
 ·exact h.vd _ _ _
 exact h
theorem KS.yv.qM (h:S.yv b) (j:Nat):(S.qM j).yv b:=⟨h.n0,h.nN,h.nH,h.q,h.al,h.no,h.pr,h.cn,h.ww,h.b1⟩
theorem KS.yv.others (h:S.yv b) (c i:Nat):(S.others c i).yv b:=by
 unfold KS.others;split
 ·exact h.yx _
 exact h
theorem KS.yv.fold (c:Nat): ∀(l:List Nat) {S:KS},S.yv b→(l.foldl (fun S i=>S.others c i) S).yv b:=by
 intro l
 induction l with
 |nil=>intro S h;exact h
 |cons i l ih=>intro S h;exact ih (h.others c i)
theorem KS.yv.leave (h:S.yv b) (c:Nat):(S.leave c).yv b:=by
 unfold KS.leave
 split
 ·exact h.halt c
 split
 ·exact KS.yv.fold c _ ((h.yx c).qM _)
 exact h.yx c
theorem bF (S:KS) (c:Nat):(S.yx c).N.gen≤S.N.gen+1:=by
 unfold KS.yx;split
 ·show((S.N.ask _).2.2.take c (S.N.ask _).1).2.gen≤_
  rw [zh.V5,zh.Uh]
  split<;>omega
 omega
theorem gx (h:S.yv b) (c:Nat):(S.leave c).N.gen≤S.N.gen+3:=by
 have hl:=bF S c
 have hf: ∀(l:List Nat) (T:KS),(l.foldl (fun S i=>S.others c i) T).N.gen≤T.N.gen+l.length:=by
  intro l
  induction l with
  |nil=>intro T;simp
  |cons i l ih=>
   intro T
   have h1:=ih (T.others c i)
   have h2:(T.others c i).N.gen≤T.N.gen+1:=by
    unfold KS.others;split
    ·exact bF T i
    omega
   rw [List.foldl_cons,List.length_cons];push_cast;omega
 unfold KS.leave
 split
 ·show S.N.gen≤_;omega
 split
 ·have h1:=hf (List.range S.Q.n) (S.yx c).bare
  rw [List.length_range]at h1
  have h2:(S.yx c).bare.N.gen=(S.yx c).N.gen:=rfl
  have:=h.n0.2
  omega
 omega
theorem zh.Zm (N:zh) (v:Int):(N.uW v).n=N.n∧(N.uW v).gen=N.gen:=by unfold zh.uW;split<;>exact⟨rfl,rfl⟩
theorem zh.UE (N:zh) (p:Int):(N.drop p).n=N.n∧(N.drop p).gen=N.gen:=by
 unfold zh.drop;split
 ·exact N.Zm _
 exact⟨rfl,rfl⟩
theorem KS.yv.flush (h:S.yv b) (p:Nat):(S.flush p).yv b:=⟨h.n0,by show(S.N.uW _).n=_;rw [(S.N.Zm _).1];exact h.nN,h.nH,h.q,h.al,h.no,h.pr,h.cn,h.ww,h.b1⟩
theorem KS.yv.qu (h:S.yv b) {p:Nat} {x:qB} (hx:S.pr p=some x) {v:zA} (hg:(S.vs x).Gr v 600):(S.qu p x v).yv (b+1):=by
 refine⟨h.n0,h.nN,h.nH,h.q,fun q hq=> ?_,fun q hq=> ?_,fun q y hy=> ?_,?_,h.ww,by omega⟩
 ·rw [h.al q hq]
  show _=(if q=p then some (x.of v)else S.pr q).isSome
  split
  ·rename_i e;subst e;rw [hx];rfl
  rfl
 ·show(if q=p then some (x.of v)else S.pr q)=none
  have:=h.lt hx
  rw [if_neg (by omega)];exact h.no q hq
 ·have hy:(if q=p then some (x.of v)else S.pr q)=some y:=hy
  split at hy
  ·cases hy
   have jy:=h.pr p x hx
   exact⟨jy.w,jy.code,jy.pc,by have:=jy.tb;have:=hg.t;show v.S.tables.length≤_;dsimp only at this;omega⟩
  exact(h.pr q y hy).mono (by omega)
 have h1:=hg.c (1000*b) (by have:=h.b1;omega) h.cn
 intro z;have:=h1 z;show cnt v.s.R z≤_;omega
theorem KS.yv.done (h:S.yv b) (p:Nat) (z:Int):(S.done p z).2.yv b:=by
 unfold KS.done;dsimp only;split
 ·exact h.flush p
 exact h
theorem Wx (z:Nat):Ww z≤18446744073709551615:=nJ _ _
theorem GS {w:Nat→Nat} (h: ∀j,w j≤18446744073709551615) (k:Nat) {v:Nat} (hv:v≤18446744073709551615): ∀j,W3 w k v j≤18446744073709551615:=by
 intro j;unfold W3;split
 ·exact hv
 exact h j
theorem pO {w:Nat→Nat} (h: ∀j,w j≤18446744073709551615) (i:qG) {v:Nat} (hv:v≤18446744073709551615): ∀j,qg w i v j≤18446744073709551615:=by
 unfold qg
 split
 ·exact h
 split
 ·exact GS h _ hv
 split
 ·exact GS h _ hv
 exact h
theorem Qm {code:List qG} (hc:code.length≤24) {pc:Int} (h:0≤pc):0≤wK code pc∧wK code pc≤24:=by
 unfold wK;split<;>omega
theorem qB.Ok.done {x:qB} (h:x.Ok b) (i:qG) {v:Nat} (hv:v≤18446744073709551615):(x.done i v).Ok b:=⟨pO h.w i hv,h.code,Qm h.code (by have:=h.pc;omega),h.tb⟩
theorem qB.Ok.fault {x:qB} (h:x.Ok b) {z:Int} (hz:z≤1000):(x.fault z).Ok b:=⟨GS h.w _ (by omega),h.code,Qm h.code (by have:=h.pc;omega),h.tb⟩
theorem KS.yv.vA (h:S.yv b) {p:Nat} {x y:qB} (hx:S.pr p=some x) (hy:y.Ok b):(S.vA p (some y)).yv b:=by
 refine⟨h.n0,h.nN,h.nH,h.q,fun q hq=> ?_,fun q hq=> ?_,fun q z hz=> ?_,h.cn,h.ww,h.b1⟩
 ·rw [h.al q hq]
  show _=(if q=p then some y else S.pr q).isSome
  split
  ·rename_i e;subst e;rw [hx];rfl
  rfl
 ·show(if q=p then some y else S.pr q)=none
  have:=h.lt hx
  rw [if_neg (by omega)];exact h.no q hq
 have hz:(if q=p then some y else S.pr q)=some z:=hz
 split at hz
 ·cases hz;exact hy
 exact h.pr q z hz
theorem KS.yv.l9 (h:S.yv b) (p:Nat) {f:qB→qB} (hf: ∀x,S.pr p=some x→(f x).Ok b):(S.l9 p f).yv b:=by
 refine⟨h.n0,h.nN,h.nH,h.q,fun q hq=> ?_,fun q hq=> ?_,fun q z hz=> ?_,h.cn,h.ww,h.b1⟩
 ·rw [h.al q hq]
  show _=(if q=p then(S.pr q).map f else S.pr q).isSome
  split
  ·rename_i e;subst e;rw [Option.isSome_map]
  rfl
 ·show(if q=p then(S.pr q).map f else S.pr q)=none
  split
  ·rename_i e;subst e;rw [h.no q hq];rfl
  exact h.no q hq
 have hz:(if q=p then(S.pr q).map f else S.pr q)=some z:=hz
 by_cases e:q=p
 ·rw [if_pos e]at hz
  cases hp:S.pr q with
  |none=>rw [hp]at hz;cases hz
  |some x=>rw [hp]at hz;cases hz;exact hf x (by rw [←e];exact hp)
 rw [if_neg e]at hz
 exact h.pr q z hz
theorem KS.yv.pick (h:S.yv b) {c:Nat} (hc:c<S.Q.n):(S.pick c).yv b:=⟨by show 1≤(S.Q.pick c).2.n∧(S.Q.pick c).2.n≤2;rw [zg.u5];exact h.n0,by show S.N.n=(S.Q.pick c).2.n;rw [zg.u5];exact h.nN,by show S.H.n=(S.Q.pick c).2.n;rw [zg.u5];exact h.nH,
 h.q.pick c hc,fun p hp=>by show(S.Q.pick c).2.al p=_;rw [zg.eY];exact h.al p hp,h.no,h.pr,h.cn,h.ww,h.b1⟩
theorem KS.yv.exit (h:S.yv b) {p:Nat} {x:qB} (hx:S.pr p=some x):(S.exit p x).yv b:=by
 have hp:=h.lt hx
 have ha:S.Q.alive (p:Nat)=true:=by rw [h.alive hp,hx];rfl
 refine⟨by show 1≤(S.Q.fin p).n∧(S.Q.fin p).n≤2;rw [zg.xf];exact h.n0,by show(S.N.drop p).n=(S.Q.fin p).n;rw [zg.xf,(S.N.UE _).1];exact h.nN,by show S.H.n=(S.Q.fin p).n;rw [zg.xf];exact h.nH,h.q.fin p ha,fun q hq=> ?_,fun q hq=> ?_,fun q z hz=> ?_,?_,h.ww,h.b1⟩
 ·show(S.Q.fin p).al q=(if q=p then none else S.pr q).isSome
  rw [zg.CH _ _ ha]
  dsimp only
  split
  ·rfl
  exact h.al q hq
 ·show(if q=p then none else S.pr q)=none
  split
  ·rfl
  exact h.no q hq
 ·have hz:(if q=p then none else S.pr q)=some z:=hz
  split at hz
  ·cases hz
  exact h.pr q z hz
 exact fL (S.vs x) _ (by have:=h.b1;omega) h.cn
theorem KS.yv.fork (h:S.yv b) {p:Nat} {x:qB} (hx:S.pr p=some x) (i:qG):(S.fork p x i).2.yv (b+1)∧(S.fork p x i).1≤18446744073709551615∧ ∃y,(S.fork p x i).2.pr p=some y∧y.w=x.w∧y.pc=x.pc∧y.code=x.code:=by
 have hp:=h.lt hx
 have jy:=h.pr p x hx
 unfold KS.fork
 split
 ·exact⟨h.mono (by omega),Wx _,x,hx,rfl,rfl,rfl⟩
 rename_i q hq
 obtain⟨_,q4,hqn,_⟩:=(free_spec (i:=0) (k:=4)).1 q hq
 have YN:p≠q:=fun e=>by rw [e,hqn]at hx;cases hx
 have Rx:=fg (S.vs x) S.W0 (q:Nat)
 have Cj:=Bq (S.vs x) S.W0 (q:Nat) (1000*b) (by have:=h.b1;omega) h.cn
 split
 ·rename_i bad v HT
  rw [HT]at Rx Cj
  have Uz:wM v.s.R (1000*b+300):=Cj
  have htv:v.S.tables.length≤x.S.tables.length+600:=Rx.1
  refine⟨⟨h.n0,h.nN,h.nH,h.q,fun r hr=> ?_,fun r hr=> ?_,fun r y hy=> ?_,fun z=> ?_,h.ww,by omega⟩,Wx _,x.of v,if_pos rfl,rfl,rfl,rfl⟩
  ·rw [h.al r hr]
   show _=(if r=p then some (x.of v)else S.pr r).isSome
   split
   ·rename_i e;subst e;rw [hx];rfl
   rfl
  ·show(if r=p then some (x.of v)else S.pr r)=none
   rw [if_neg (by omega)];exact h.no r hr
  ·have hy:(if r=p then some (x.of v)else S.pr r)=some y:=hy
   split at hy
   ·cases hy
    exact⟨jy.w,jy.code,jy.pc,by have:=jy.tb;show v.S.tables.length≤_;omega⟩
   exact(h.pr r y hy).mono (by omega)
  have:=Uz z;show cnt v.s.R z≤_;omega
 rename_i bad cf cS v HT
 rw [HT]at Rx Cj
 have Uz:wM v.s.R (1000*b+300):=Cj
 have htv:v.S.tables.length≤x.S.tables.length+600:=Rx.1
 have htc:cS.tables.length≤600:=Rx.2.1 _ rfl
 have nY: ∀r,((((S.qu p x v).vA q (some ⟨qg x.w i 0,wK x.code (x.pc+1),x.code,x.A,cf,[],cS⟩))).pr r)=if r=q then some ⟨qg x.w i 0,wK x.code (x.pc+1),x.code,x.A,cf,[],cS⟩else if r=p then some (x.of v)else S.pr r:=fun r=>rfl
 refine⟨KS.yv.flush (S:= { ((S.qu p x v).vA q (some ⟨qg x.w i 0,wK x.code (x.pc+1),x.code,x.A,cf,[],cS⟩))with Q:=S.Q.gQ q }) ⟨by show 1≤(S.Q.gQ q).n∧(S.Q.gQ q).n≤2;rw [zg.dA];exact h.n0,by show S.N.n=(S.Q.gQ q).n;rw [zg.dA];exact h.nN,by show S.H.n=(S.Q.gQ q).n;rw [zg.dA];exact h.nH,h.q.gQ q,fun r hr=> ?_,fun r hr=> ?_,fun r y hy=> ?_,fun z=> ?_,h.ww,by omega⟩ p,by show q≤_;omega,x.of v,?_,rfl,rfl,rfl⟩
 ·show(S.Q.gQ q).al r=(if r=q then some (qB.mk (qg x.w i 0) (wK x.code (x.pc+1)) x.code x.A cf [] cS)else if r=p then some (x.of v)else S.pr r).isSome
  unfold zg.gQ
  rw [if_pos (by omega)]
  show(if r=(q:Int).toNat then true else S.Q.al r)=_
  rw [show((q:Nat):Int).toNat=q from rfl]
  by_cases e:r=q
  ·rw [if_pos e,if_pos e];rfl
  rw [if_neg e,if_neg e,h.al r hr]
  split
  ·rename_i e;subst e;rw [hx];rfl
  rfl
 ·show(if r=q then some (qB.mk (qg x.w i 0) (wK x.code (x.pc+1)) x.code x.A cf [] cS)else if r=p then some (x.of v)else S.pr r)=none
  rw [if_neg (by omega),if_neg (by omega)];exact h.no r hr
 ·have hy:(if r=q then some (qB.mk (qg x.w i 0) (wK x.code (x.pc+1)) x.code x.A cf [] cS)else if r=p then some (x.of v)else S.pr r)=some y:=hy
  split at hy
  ·cases hy
   exact⟨pO jy.w i (by omega),jy.code,Qm jy.code (by have:=jy.pc;omega),by have:=h.b1;show cS.tables.length≤_;omega⟩
  split at hy
  ·cases hy
   exact⟨jy.w,jy.code,jy.pc,by have:=jy.tb;show v.S.tables.length≤_;omega⟩
  exact(h.pr r y hy).mono (by omega)
 ·have:=Uz z;show cnt v.s.R z≤_;omega
 show(if p=q then some (qB.mk (qg x.w i 0) (wK x.code (x.pc+1)) x.code x.A cf [] cS)else if p=p then some (x.of v)else S.pr p)=_
 rw [if_neg YN,if_pos rfl]
theorem KS.yv.answer (h:S.yv b) {p:Nat} {x:qB} (hx:S.pr p=some x) (i:qG):(S.answer p x i).2.yv (b+1)∧(S.answer p x i).1≤18446744073709551615∧ ∃y,(S.answer p x i).2.pr p=some y∧y.w=x.w∧y.pc=x.pc∧y.code=x.code:=by
 have hv: ∀(v:zA) (z:Int),(S.vs x).Gr v 600→((S.qu p x v).done p z).2.yv (b+1)∧((S.qu p x v).done p z).1≤18446744073709551615∧ ∃y,((S.qu p x v).done p z).2.pr p=some y∧y.w=x.w∧y.pc=x.pc∧y.code=x.code:=by
  intro v z hg
  refine⟨(h.qu hx hg).done p z,Wx _,x.of v,?_,rfl,rfl,rfl⟩
  unfold KS.done
  dsimp only
  split
  ·exact if_pos rfl
  exact if_pos rfl
 have hs: ∀z,z≤18446744073709551615→(z,S).2.yv (b+1)∧(z,S).1≤18446744073709551615∧ ∃y,(z,S).2.pr p=some y∧y.w=x.w∧y.pc=x.pc∧y.code=x.code:=fun z hz=>⟨h.mono (by omega),hz,x,hx,rfl,rfl,rfl⟩
 unfold KS.answer
 split
 ·exact hv _ _ (zA.Gr.map _ _ _ _ _ _)
 split
 ·exact hv _ _ (zA.Gr.ZH _ _ _ _)
 split
 ·exact hv _ _ (zA.Gr.vN _ _ _ _ _)
 split
 ·exact hv _ _ (zA.Gr.out _ _ _)
 split
 ·exact h.fork hx i
 split
 ·split
  ·have hm:=h.mono (c:=b+1) (by omega)
   refine⟨⟨hm.n0,hm.nN,hm.nH,hm.q,hm.al,hm.no,hm.pr,hm.cn,fun a ha=> ?_,hm.b1⟩,by show 0≤_;omega,x,hx,rfl,rfl,rfl⟩
   rcases List.mem_append.1 ha with ha|ha
   ·exact h.ww a ha
   rw [List.mem_singleton.1 ha];exact(h.pr p x hx).w 0
  exact hs _ (Wx _)
 split
 ·split
  ·exact hs _ (Wx _)
  rename_i a l hl
  have hm:=h.mono (c:=b+1) (by omega)
  exact⟨⟨hm.n0,hm.nN,hm.nH,hm.q,hm.al,hm.no,hm.pr,hm.cn,fun c hc=>h.ww c (by rw [hl];exact List.mem_cons_of_mem _ hc),hm.b1⟩,h.ww a (by rw [hl];exact List.mem_cons_self),x,hx,rfl,rfl,rfl⟩
 exact hs 0 (by omega)
theorem KS.yv.jv (h:S.yv b) {p:Nat} {x:qB} (hx:S.pr p=some x) (i:qG):(S.jv p x i).yv (b+1):=by
 unfold KS.jv
 split
 ·exact(h.exit hx).mono (by omega)
 obtain⟨h1,h2,_⟩:=h.answer hx i
 exact h1.l9 p fun y hy=>(h1.pr p y hy).done i h2
theorem np (h:S.yv b) {p:Nat} {x:qB} (hx:S.pr p=some x) (i:qG):(S.answer p x i).2.Q.n=S.Q.n∧(S.answer p x i).2.N.gen=S.N.gen:=by
 have hv: ∀(v:zA) (z:Int),((S.qu p x v).done p z).2.Q.n=S.Q.n∧((S.qu p x v).done p z).2.N.gen=S.N.gen:=by
  intro v z
  unfold KS.done
  dsimp only
  split
  ·exact⟨rfl,(S.N.Zm _).2⟩
  exact⟨rfl,rfl⟩
 have hf:(S.fork p x i).2.Q.n=S.Q.n∧(S.fork p x i).2.N.gen=S.N.gen:=by
  unfold KS.fork
  split
  ·exact⟨rfl,rfl⟩
  split
  ·exact⟨rfl,rfl⟩
  exact⟨zg.dA _ _,(S.N.Zm _).2⟩
 unfold KS.answer
 split
 ·exact hv _ _
 split
 ·exact hv _ _
 split
 ·exact hv _ _
 split
 ·exact hv _ _
 split
 ·exact hf
 split
 ·split<;>exact⟨rfl,rfl⟩
 split
 ·split<;>exact⟨rfl,rfl⟩
 exact⟨rfl,rfl⟩
theorem mV (h:S.yv b) {p:Nat} {x:qB} (hx:S.pr p=some x) (i:qG):(S.jv p x i).Q.n=S.Q.n∧(S.jv p x i).N.gen=S.N.gen:=by
 unfold KS.jv
 split
 ·exact⟨zg.xf _ _,(S.N.UE _).2⟩
 exact np h hx i
def KS.call2 (S:KS) (c p:Nat) (x:qB) (i:qG):KS:=if i.n=6∨i.n=7 then((S.enter c p x).jv p x i).pick c else(S.enter c p x).jv p x i
theorem Uk (S:KS) (c p:Nat) (x:qB) (i:qG):S.call c p x i=(S.call2 c p x i).leave c:=rfl
theorem KS.yv.call2 (h:S.yv b) {c p:Nat} {x:qB} (hc:c<S.Q.n) (hx:S.pr p=some x) (i:qG):(S.call2 c p x i).yv (b+1)∧(S.call2 c p x i).Q.n=S.Q.n∧(S.call2 c p x i).N.gen=S.N.gen:=by
 have h1:=(h.enter c p x).jv (p:=p) (x:=x) hx i
 obtain⟨h2,h3⟩:=mV (h.enter c p x) (p:=p) (x:=x) hx i
 unfold KS.call2
 split
 ·exact⟨h1.pick (by rw [h2];exact hc),(zg.u5 _ _).trans h2,h3⟩
 exact⟨h1,h2,h3⟩
def KS.ue (S:KS) (c p:Nat) (x:qB) (at_:Nat) (write:Bool):KS:=
 if(zA.fix (S.vs x) S.inv p ((at_/8:Nat):Int) write).1≠0 then((S.enter c p x).qu p x (zA.fix (S.vs x) S.inv p ((at_/8:Nat):Int) write).2).l9 p fun y=>y.fault (zA.fix (S.vs x) S.inv p ((at_/8:Nat):Int) write).1
  else((S.enter c p x).qu p x (zA.fix (S.vs x) S.inv p ((at_/8:Nat):Int) write).2).flush p
theorem ga (S:KS) (c p:Nat) (x:qB) (z:Int) (at_:Nat) (write:Bool):S.jh c p x z at_ write=if z=3∨z=4 then S.vA p (some (x.fault z))else(S.ue c p x at_ write).leave c:=rfl
theorem KS.yv.ue (h:S.yv b) {c p:Nat} {x:qB} (hx:S.pr p=some x) (at_:Nat) (write:Bool):(S.ue c p x at_ write).yv (b+1)∧(S.ue c p x at_ write).Q.n=S.Q.n∧(S.ue c p x at_ write).N.gen=S.N.gen:=by
 have h1:=(h.enter c p x).qu (p:=p) (x:=x) hx (zA.Gr.fix (S.vs x) S.inv p ((at_/8:Nat):Int) write)
 have hb:=zA.CK (x:=S.vs x) (inv:=S.inv) (o:=p) (z4:=((at_/8:Nat):Int)) (w:=write)
 unfold KS.ue
 split
 ·exact⟨h1.l9 p fun y hy=>(h1.pr p y hy).fault (by omega),rfl,rfl⟩
 exact⟨h1.flush p,rfl,(S.N.Zm _).2⟩
theorem KS.yv.call (h:S.yv b) {c p:Nat} {x:qB} (hc:c<S.Q.n) (hx:S.pr p=some x) (i:qG):(S.call c p x i).yv (b+1):=(h.call2 hc hx i).1.leave c
theorem KS.yv.jh (h:S.yv b) {c p:Nat} {x:qB} (hx:S.pr p=some x) (z:Int) (at_:Nat) (write:Bool):(S.jh c p x z at_ write).yv (b+1):=by
 rw [ga]
 split
 ·exact((h.mono (by omega)).vA hx (((h.pr p x hx).mono (by omega)).fault (by omega)))
 exact(h.ue hx at_ write).1.leave c
theorem KS.yv.q8 (h:S.yv b) (c:Nat) (xs:List uO) {H:yF} (hH:H.n=S.H.n):(S.q8 c xs H).yv b:=⟨h.n0,h.nN,hH.trans h.nH,h.q,h.al,h.no,h.pr,h.cn,h.ww,h.b1⟩
end
theorem eJ (R:List SP) (k:Nat) (L:KL) (S:KS) (b:Nat) (gF:S.yv b) (hb:b≤300) (hg:S.N.gen≤1000000000) (c p:Nat) (x:qB) (hc:c<S.Q.n) (hx:S.pr p=some x) (i:qG):yH 88 [vp k 0,vi c,vi p,.agg (qs i)] (z3 yA k (L,S)::R) fun w L2=>w= .tuple []∧L2=z3 yA k (L,S.call c p x i)::R:=by
 have hp:=gF.lt hx
 have jy:=gF.pr p x hx
 have Sh:=jy.tb
 have N8:=jy.code
 have nX:=jy.pc
 refine SW.intro rfl Tryz.func88 rfl ?_
 refine O0 2 J (yu rfl rfl rfl rfl fun i7=> ?_)
 refine Z 6 J (Z1 (b8 _ _ _ S c p x hc hp hx) J Y ?_)
 obtain⟨S1,ak⟩: ∃S1,S1=S.enter c p x:=⟨_,rfl⟩
 rw [←ak]
 have Cx:S1.pr p=some x:=by rw [ak];exact hx
 have Wp:S1.yv b:=by rw [ak];exact gF.enter c p x
 have LM:S1.Q.n=S.Q.n:=by rw [ak]
 have HV:S1.N.gen=S.N.gen:=by rw [ak]
 refine Z 4 J (fa J Y (ld J Y J (Z 1 J (z5 (fun j4=> ?_) (fun j4=> ?_)))))
 ·refine Z 4 J (wj (yB k L S1) fun y _=> ?_)
  dsimp only [yV,List.cons_append,List.nil_append]
  refine zd (Sub.trans (M:=yV k L S1 y (z3 zC i7 (z0.agg (qs i)).cells::R)) Y (Qi (y:=y) hp Cx)) ?_
  dsimp only [W8,WJ]
  refine Z 3 J (fa J Y (zo rfl (fun _=>zw rfl rfl rfl (by omega) (by omega)) ?_))
  refine lf J Y (qU (p:=p) (L:=L) (S:=S1) (y:=y) hp Cx) (Z 1 J (fa J Y (ld J Y J (Z4 (oK _ _ (x.vm (S1.W L) p) S1.M S1.Rf S1.Ws (by show x.S.tables.length≤500000;omega)) J Y Y Y Y (Z 5 J (fa J Y (lf J Y (UK (L:=L) (S:=S1) (y:=y)) (Z 1 J (Z1 (IZ _ _ S1.N (p:Nat)) J Y (Z 5 J (fa J Y (lf J Y (UL (L:=L) (S:=S1) (y:=y)) (Z 1 J (Z1 (OE _ _ S1.Q (p:Nat)) J Y (Z 5 J (fa J Y (zo rfl (fun _=>zw rfl rfl rfl (by omega) (by omega)) ?_)))))))))))))))))
  refine sF J Y J J (zd (Sub.trans (Sub.one (K:=zO) (a:=k) (K2:=zO) (a2:=k) (x2:=(18,upd (kF L S1 y) (p+9) (.ptr none))) fun _ e=>e) (Sub.trans ?_ (rA (k:=k) (R:=(z3 zC i7 (z0.agg (qs i)).cells::R)) (L:=L) (S:=S1) (S':=S1.exit p x) (y:=y) (y':=y) hp (zg.xf _ _) (fun _=>rfl) (if_pos rfl) (fun j hj=>by simp only [KS.qL,KS.exit,if_neg hj]) rfl (?_:upd (kF L S1 y) (p+9) (.ptr none)=_)))) ?_)
  ·exact Y
  ·funext j
   refine cy (S:=S1) (S':=S1.exit p x) (y:=y) (y':=y) hp (by simp only [KS.wx,KS.exit,if_true]) (fun j hj=> ?_) (fun j h=> ?_) j
   ·simp only [KS.wx,KS.exit,if_neg hj]
   exact Gw h
  obtain⟨S3,CX⟩: ∃S3,S3=S1.exit p x:=⟨_,rfl⟩
  rw [←CX]
  have kC:S3=S1.jv p x i:=by { rw [CX];unfold KS.jv;rw [if_pos j4] }
  have hQ3:S3.Q.n=S.Q.n:=by rw [kC,(mV Wp Cx i).1,LM]
  refine Z 4 J (fa J Y (ld J Y J (zo rfl (fun _=>zG rfl rfl rfl (nu rfl)) (dx (j4) ?_))))
  refine Z 8 J (wj (yB k L S3) fun y3 _=> ?_)
  dsimp only [yV,List.cons_append,List.nil_append]
  refine Z 2 J (fa J Y (lf J Y (UL (L:=L) (S:=S3) (y:=y3)) (Z 1 J (Z1 (GL _ _ S3.Q (c:Nat)) J Y (zd (Sub.trans ?_ (uh (k:=k) (R:=(z3 zC i7 (z0.agg (qs i)).cells::R)) (L:=L) (S:=S3) (S':=S3.pick c) (y:=y3) (y':=y3) (zg.u5 _ _) (fun _=>rfl) rfl rfl (show kF L S3 y3=kF L (S3.pick c) y3 from rfl))) ?_)))))
  ·exact Y
  obtain⟨S4,LO⟩: ∃S4,S4=S3.pick c:=⟨_,rfl⟩
  rw [←LO]
  have fl:S4=S.call2 c p x i:=by { rw [LO,kC];unfold KS.call2;rw [ak,if_pos (.inl j4)] }
  obtain⟨fv,SG,Rz⟩:=gF.call2 hc hx i
  rw [←fl]at fv SG Rz
  refine Z 4 J (Z1 (gO _ _ _ S4 c (by omega) fv.runs (by omega)) J Y (Z 1 J (wq J J ?_)))
  rw [Uk,←fl]
  exact fq
 refine Z 6 J (lN J Y Y J J (Z1 (ij _ _ _ S1 p x hp Cx i jy.w (by omega) ⟨by omega,by omega⟩ (by omega) (fun z=>by have:=Wp.cn z;omega) (fun q hq hn=>by rw [Wp.alive hq,hn];rfl)) J Y ?_))
 obtain⟨G2,PC,x2,km,FT,z8F,z7M⟩:=Wp.answer Cx i
 obtain⟨hQ2,dr⟩:=np Wp Cx i
 rcases hans:S1.answer p x i with⟨v1,S2⟩
 rw [hans]at G2 PC km hQ2 dr
 dsimp only at G2 PC km hQ2 dr ⊢
 have Sx:=G2.pr p x2 km
 have lS:=Sx.code
 have hp2:=Sx.pc
 refine wj (yB k L S2) fun y _=> ?_
 dsimp only [yV,List.cons_append,List.nil_append]
 refine zd (Sub.trans (M:=yV k L S2 y (z3 zC i7 (z0.agg (qs i)).cells::R)) Y (Qi (y:=y) hp km)) ?_
 dsimp only [W8,WJ]
 refine jG (K:=zX qs 4) (qX (y.cd p) x2.code) fun Cf=> ?_
 refine Z 3 J (zW [0,0,1,5,15,31,63,127,255,0,0,2047,0,8191] [([0,1,2,3,4,5,6,7,8,9,10,12],[5,8,9],some 11),([],[],some 13),([],[],none)] (by kernel_rfl) ?_)
 refine z7 (ZK 3 J (zx J Y (uc rfl (fun _=>zw rfl rfl rfl (by omega) (by omega)) ?_)))
 refine YO J Y (qU (p:=p) (L:=L) (S:=S2) (y:=y) hp km) (ZK 1 J (zx J Y (kv J Y Y J J (kv J Y Y J J (ZK 1 J (kq rfl rfl rfl fun i9=> ?_))))))
 refine z8 ⟨(jP J Y (qU (p:=p) (L:=L) (S:=S2) (y:=y) hp km) J (z6 _ rfl) (Wm J Y Y J J J (z6 _ (Qx Cf)) (Wm J Y Y J J J (z6 _ rfl) z9))),?_⟩
 refine yY (GH _ x2.w (y.cd p) x2.code (by omega) x2.pc ⟨by omega,by omega⟩ i v1) rfl (fun _=>rfl) ?_
 rintro _ _ ⟨u59,rfl,rfl⟩
 refine jG (K:=zX qs 4) (qX u59 x2.code) fun z22=> ?_
 refine yW (v:=u59) fun Pd Pt R8 So _=> ?_
 subst So
 refine zJ (z7 (z8 ⟨z9,?_⟩))
 refine sN J Y Y J J J (zJ (z7 (z8 ⟨z9,?_⟩)))
 refine zW [0,0,1,5,15,31,0,127,255,511] [([0,1,2,3,4,5,6,7,8],[5,6],some 9),([],[],none)] (by kernel_rfl) ?_
 refine z7 (ZK 3 J (zx J Y (uc rfl (fun _=>zw rfl rfl rfl (by omega) (by omega)) ?_)))
 refine YO J Y (qU (p:=p) (L:=L) (S:=S2) (y:=y) hp km) (kv J Y Y J J (ZK 1 J (zx J Y (z8 ⟨(jP J Y (qU (p:=p) (L:=L) (S:=S2) (y:=y) hp km) J (z6 _ rfl) (Wm J Y Y J J J (z6 _ (Qx z22)) z9)),?_⟩))))
 refine sN J Y Y J J J (zd (Sub.trans (Sub.one (K:=zC) (a:=y.a p) (K2:=zC) (a2:=y.a p) (x2:=YF (qg x2.w i v1) ((.slice Pd x2.code.length Pt R8)) (wK x2.code (x2.pc+1))++ [vp (y.v p) 0]) fun _ e=>e) (Sub.trans ?_ (zq (k:=k) (R:=(z3 zC i7 (z0.agg (qs i)).cells::R)) (L:=L) (S:=S2) (S':=(S2.l9 p fun z=>z.done i v1)) (y:=y) (y':=(y.uJ p (.slice Pd x2.code.length Pt R8))) (x':=x2.done i v1) hp rfl (fun _=>rfl) (ef km) (fun j hj=>eg hj) rfl (Lj km)))) ?_)
 ·exact Y
 obtain⟨S3,CX⟩: ∃S3,S3=(S2.l9 p fun z=>z.done i v1):=⟨_,rfl⟩
 rw [←CX]
 have kC:S3=S1.jv p x i:=by { rw [CX];unfold KS.jv;rw [if_neg j4,hans] }
 have hQ3:S3.Q.n=S.Q.n:=by rw [kC,(mV Wp Cx i).1,LM]
 refine zJ (z7 (z8 ⟨z9,?_⟩))
 refine OX 3 J (fa J Y (ld J Y J (zo rfl (fun _=>zG rfl rfl rfl (nu rfl)) (qm (j4) ?_))))
 refine Z 1 J (fa J Y (ld J Y J (Z 1 J (z5 (fun CV=> ?_) (fun CV=> ?_)))))
 ·refine Z 4 J (wj (yB k L S3) fun y3 _=> ?_)
  dsimp only [yV,List.cons_append,List.nil_append]
  refine Z 2 J (fa J Y (lf J Y (UL (L:=L) (S:=S3) (y:=y3)) (Z 1 J (Z1 (GL _ _ S3.Q (c:Nat)) J Y (zd (Sub.trans ?_ (uh (k:=k) (R:=(z3 zC i7 (z0.agg (qs i)).cells::R)) (L:=L) (S:=S3) (S':=S3.pick c) (y:=y3) (y':=y3) (zg.u5 _ _) (fun _=>rfl) rfl rfl (show kF L S3 y3=kF L (S3.pick c) y3 from rfl))) ?_)))))
  ·exact Y
  obtain⟨S4,LO⟩: ∃S4,S4=S3.pick c:=⟨_,rfl⟩
  rw [←LO]
  have fl:S4=S.call2 c p x i:=by { rw [LO,kC];unfold KS.call2;rw [ak,if_pos (.inr CV)] }
  obtain⟨fv,SG,Rz⟩:=gF.call2 hc hx i
  rw [←fl]at fv SG Rz
  refine Z 4 J (Z1 (gO _ _ _ S4 c (by omega) fv.runs (by omega)) J Y (Z 1 J (wq J J ?_)))
  rw [Uk,←fl]
  exact fq
 refine Z 5 J ?_
 obtain⟨S4,LO⟩: ∃S4,S4=S3:=⟨_,rfl⟩
 rw [←LO]
 have fl:S4=S.call2 c p x i:=by { rw [LO,kC];unfold KS.call2;rw [ak,if_neg (by rintro (h|h);exact j4 h;exact CV h)] }
 obtain⟨fv,SG,Rz⟩:=gF.call2 hc hx i
 rw [←fl]at fv SG Rz
 refine Z 2 J (Z1 (gO _ _ _ S4 c (by omega) fv.runs (by omega)) J Y (Z 1 J (wq J J ?_)))
 rw [Uk,←fl]
 exact fq
theorem D6 (R:List SP) (k:Nat) (L:KL) (S:KS) (y:KY) (c p:Nat) (x:qB) (hc:c<S.Q.n) (hp:p<4) (hx:S.pr p=some x):yH 91 [vp k 0,vi c,vi p] (yV k L S y R) fun w L2=>w= .tuple []∧L2=yV k L (S.enter c p x) y R:=by
 refine SW.sub ?_ (G6 hc hp hx (k:=k) (L:=L) (S:=S) (y:=y) (R:=R))
 dsimp only [Gx,WJ]
 have hl:((List.range S.Q.n).map L.c).length=S.Q.n:=by simp
 have Yi:((List.range S.Q.n).map L.c)[c]? =some (L.c c):=gj L.c hc
 refine yl (K:=zX j3 1) (qX y.cv ((List.range S.Q.n).map L.c)) fun j5=> ?_
 replace j5:=jH j5
 refine SW.intro rfl Tryz.func91 rfl ?_
 refine zW [0,1,3,7,0,31,63,0,128,384,896,0,0,2048,10240,30720,63488,129024,260096,522240,0,2097151] [([0,1,2,3,4,5,6,7,8,9,10,11,12,13,14,15,16,17,18,19,20],[3,6,10,16,19],some 21),([],[],none)] (by kernel_rfl) ?_
 refine z7 (ZK 2 J (zx J Y (YO J Y uI (ZK 1 J (jM rfl (fun _ h=>yg rfl rfl rfl (by omega) (by omega) h) ?_)))))
 refine Gy 0 J Y J Yi J (ZK 2 J (zx J Y (YO J Y UK (ZK 3 J (zx J Y (uc rfl (fun _=>zw rfl rfl rfl (by omega) (by omega)) ?_))))))
 refine YO J Y (qU (p:=p) (L:=L) (S:=S) (y:=y) hp hx) (ZK 1 J (zx J Y (q9 J Y J (ZK 1 J (z8 ⟨(jP J Y uI J (z6 _ j5) (va rfl (fun _ h=>wX (j:=0) rfl rfl rfl Yi rfl h) rfl rfl (z6 _ rfl) (jP J Y UK J (z6 _ rfl) (jP J Y (qU (p:=p) (L:=L) (S:=S) (y:=y) hp hx) J (z6 _ rfl) (yN J Y J J J z9))))),?_⟩)))))
 refine Z3 (fI _ _ (S.zQ L c) _ _ S.N (x.vm (S.W L) p) (p:Nat)) J Y Y Y (zJ (z7 (z8 ⟨z9,?_⟩)))
 refine wq J J (⟨_,⟨rfl,rfl⟩,Sub.trans (M:=z3 zO k (18,kF L (S.enter c p x) y)::z3 (zX j3 1) y.cv ((List.range S.Q.n).map L.c)::z3 zY L.m S.M::z3 zi L.p ⟨L.m,S.Rf⟩::z3 yM L.sw S.Ws::z3 qj L.h S.H::z3 wV L.n S.N::z3 zC L.pp [.chan (some y.ch)]::z3 qC y.ch (4,S.ww.map vu)::z3 vT L.q S.Q::z3 gX (L.c c) { S.zQ L c with X:= { (S.zQ L c).X with root:=(x.S.kernel:Nat),yC:=(S.zQ L c).dv (S.N.pair (p:Nat)) } } ::z3 (zL WG) k ((List.range S.Q.n).erase c,fun i=>(L.c i,S.zQ L i))::WJ (y.a p) (y.v p) (y.cd p) x.w x.pc x.code (x.vm (S.W L) p) (z3 (zL gI) k ((List.range 4).erase p,S.qL L y)::R)) ?_ ?_⟩)
 ·exact Sub.trans (Sub.one (K:=zO) (a:=k) (K2:=zO) (a2:=k) (x2:=(18,kF L (S.enter c p x) y)) fun _ e=>e) Y
 iterate 10 refine Sub.wU ?_
 refine(kU (G':=fun i=>(S.enter c p x).zQ L i) hc (pQ S L c p x) (fun j hj=>mZ hj)).trans ?_
 refine Sub.wU ?_
 exact Qn hp (vC hx) (fun j _=>rfl)
theorem DC (R:List SP) (k:Nat) (L:KL) (S:KS) (b:Nat) (gF:S.yv b) (hb:b≤300) (hg:S.N.gen≤1000000000) (c p:Nat) (x:qB) (hc:c<S.Q.n) (hx:S.pr p=some x) (z:Int) (hz:0≤z∧z≤100) (at_:Nat) (dN:at_≤18446744073709551615) (write:Bool):yH 137 [vp k 0,vi c,vi p,vi z,vu at_,.bool write] (z3 yA k (L,S)::R) fun w L2=>w= .tuple []∧L2=z3 yA k (L,S.jh c p x z at_ write)::R:=by
 have hp:=gF.lt hx
 have jy:=gF.pr p x hx
 have Sh:=jy.tb
 have N8:=jy.code
 have nX:=jy.pc
 refine ze (yB k L S) fun y _=> ?_
 dsimp only [yV,List.cons_append,List.nil_append]
 refine SW.sub ?_ (Qi hp hx (k:=k) (L:=L) (S:=S) (y:=y) (R:=R))
 dsimp only [W8,WJ]
 refine SW.intro rfl Tryz.func137 rfl ?_
 refine O0 5 J (fa J Y (zo rfl (fun _=>zw rfl rfl rfl (by omega) (by omega)) ?_))
 refine lf J Y (qU (p:=p) (L:=L) (S:=S) (y:=y) hp hx) (Z 7 J (z5 (fun Vy=> ?_) (fun Vy=> ?_)))
 ·refine Z 11 J (fa J Y (lN J Y Y J J (Z 1 J (yY (bY _ x.w (y.cd p) x.code (by omega) x.pc ⟨by omega,by omega⟩ z ⟨by omega,by omega⟩) rfl (fun _=>rfl) ?_))))
  rintro _ _ ⟨u32,rfl,rfl⟩
  refine jG (K:=zX qs 4) (qX u32 x.code) fun z21=> ?_
  refine yW (v:=u32) fun BQ By CA Cw _=> ?_
  subst Cw
  refine Z 1 J (fa J Y (sN J Y Y J J J (Z 2 J (wq J J ?_))))
  rw [ga,if_pos (.inl Vy)]
  refine⟨_,⟨rfl,rfl⟩,Sub.trans (Sub.one (K:=zC) (a:=y.a p) (K2:=zC) (a2:=y.a p) (x2:=YF (VG x.w z) ((.slice BQ x.code.length By CA)) (wK x.code (x.pc+1))++ [vp (y.v p) 0]) fun _ e=>e) (Sub.trans ?_ (zq (k:=k) (R:=R) (L:=L) (S:=S) (S':=(S.vA p (some (x.fault z)))) (y:=y) (y':=(y.uJ p (.slice BQ x.code.length By CA))) (x':=x.fault z) hp rfl (fun _=>rfl) YB (fun j hj=>YC hj) rfl (UM hx)))⟩
  exact Y
 refine Z 3 J (z5 (fun kB=> ?_) (fun kB=> ?_))
 ·refine Z 8 J (fa J Y (lN J Y Y J J (Z 1 J (yY (bY _ x.w (y.cd p) x.code (by omega) x.pc ⟨by omega,by omega⟩ z ⟨by omega,by omega⟩) rfl (fun _=>rfl) ?_))))
  rintro _ _ ⟨u32,rfl,rfl⟩
  refine jG (K:=zX qs 4) (qX u32 x.code) fun z21=> ?_
  refine yW (v:=u32) fun BQ By CA Cw _=> ?_
  subst Cw
  refine Z 1 J (fa J Y (sN J Y Y J J J (Z 2 J (wq J J ?_))))
  rw [ga,if_pos (.inr kB)]
  refine⟨_,⟨rfl,rfl⟩,Sub.trans (Sub.one (K:=zC) (a:=y.a p) (K2:=zC) (a2:=y.a p) (x2:=YF (VG x.w z) ((.slice BQ x.code.length By CA)) (wK x.code (x.pc+1))++ [vp (y.v p) 0]) fun _ e=>e) (Sub.trans ?_ (zq (k:=k) (R:=R) (L:=L) (S:=S) (S':=(S.vA p (some (x.fault z)))) (y:=y) (y':=(y.uJ p (.slice BQ x.code.length By CA))) (x':=x.fault z) hp rfl (fun _=>rfl) YB (fun j hj=>YC hj) rfl (UM hx)))⟩
  exact Y
 refine Z 9 J (zd (Sub.trans ?_ (Sub.trans (M:=W8 k L S y p x R) (Sub.refl _) (D9 (y:=y) hp hx))) ?_)
 ·exact Y
 refine Z0 (SW.sub (M:=yV k L S y R) (D6 R k L S y c p x hc hp hx) Y) J (zd (Sub.trans (M:=yV k L (S.enter c p x) y R) (Sub.refl _) (Qi (y:=y) hp (show(S.enter c p x).pr p=some x from hx))) ?_)
 dsimp only [W8,WJ]
 refine Z 6 J (fa J Y (ld J Y J (Z 1 J (zo rfl (fun _=>zG rfl rfl rfl (ln (y:=8) (by omega) (by decide))) ?_))))
 refine zo rfl (fun _=>qy rfl rfl (vz (by omega))) ?_
 refine qI (w:=vi ((at_/8:Nat):Int)) (by congr 2) ?_
 refine Z 1 J (Z4 (OY _ _ (x.vm (S.W L) p) S.M S.Rf S.Ws (by show x.S.tables.length≤800000;omega) ((at_/8:Nat):Int) write) J Y Y Y Y ?_)
 have hfb:=zA.CK (x:=S.vs x) (inv:=S.inv) (o:=(p:Nat)) (z4:=((at_/8:Nat):Int)) (w:=write)
 rcases hfx:zA.fix (S.vs x) S.inv (p:Nat) ((at_/8:Nat):Int) write with⟨bad,v2⟩
 rw [hfx]at hfb
 dsimp only at hfb ⊢
 refine Z 6 J (z5 (fun Re=> ?_) (fun Re=> ?_))
 ·refine Z 6 J (fa J Y (lN J Y Y J J (Z 1 J (yY (bY _ x.w (y.cd p) x.code (by omega) x.pc ⟨by omega,by omega⟩ bad ⟨by omega,by omega⟩) rfl (fun _=>rfl) ?_))))
  rintro _ _ ⟨u56,rfl,rfl⟩
  refine jG (K:=zX qs 4) (qX u56 x.code) fun z8V=> ?_
  refine yW (v:=u56) fun Pc Ps R0 Sn _=> ?_
  subst Sn
  refine Z 1 J (fa J Y (sN J Y Y J J J (zd (Sub.trans (Sub.one (K:=zC) (a:=y.a p) (K2:=zC) (a2:=y.a p) (x2:=YF (VG x.w bad) ((.slice Pc x.code.length Ps R0)) (wK x.code (x.pc+1))++ [vp (y.v p) 0]) fun _ e=>e) (Sub.trans ?_ (zq (k:=k) (R:=R) (L:=L) (S:=(S.enter c p x)) (S':=(((S.enter c p x).qu p x v2).l9 p fun z=>z.fault bad)) (y:=y) (y':=(y.uJ p (.slice Pc x.code.length Ps R0))) (x':=(x.of v2).fault bad) hp rfl (fun _=>rfl) (ef (x:=x.of v2) (if_pos rfl)) (fun j hj=>(eg hj).trans (UX hj)) rfl ((Wu (S:=S.enter c p x) hx).trans (Lj (x:=x.of v2) (if_pos rfl)))))) ?_)))
  ·exact Y
  obtain⟨S3,CX⟩: ∃S3,S3=(((S.enter c p x).qu p x v2).l9 p fun z=>z.fault bad):=⟨_,rfl⟩
  rw [←CX]
  have kC:S3=S.ue c p x at_ write:=by { rw [CX];unfold KS.ue;rw [hfx,if_pos Re] }
  obtain⟨Co,hn3,XP⟩:=gF.ue (c:=c) hx at_ write
  rw [←kC]at Co hn3 XP
  refine Z 4 J (Z1 (gO _ _ _ S3 c (by omega) Co.runs (by omega)) J Y (Z 1 J (wq J J ?_)))
  rw [ga,if_neg (by rintro (h|h);exact Vy h;exact kB h),←kC]
  exact fq
 refine Z 5 J (zd (Sub.trans ?_ (zq (k:=k) (R:=R) (L:=L) (S:=(S.enter c p x)) (S':=(((S.enter c p x)).qu p x v2)) (y:=y) (y':=y) (x':=x.of v2) hp rfl (fun _=>rfl) VV (fun j hj=>UX hj) rfl (Wu (S:=S.enter c p x) hx))) ?_)
 ·exact Y
 refine Z1 (bA _ _ _ ((S.enter c p x).qu p x v2) p) J Y ?_
 obtain⟨S3,CX⟩: ∃S3,S3=(((S.enter c p x).qu p x v2).flush p):=⟨_,rfl⟩
 rw [←CX]
 have kC:S3=S.ue c p x at_ write:=by { rw [CX];unfold KS.ue;rw [hfx,if_neg Re] }
 obtain⟨Co,hn3,XP⟩:=gF.ue (c:=c) hx at_ write
 rw [←kC]at Co hn3 XP
 refine Z 4 J (Z1 (gO _ _ _ S3 c (by omega) Co.runs (by omega)) J Y (Z 1 J (wq J J ?_)))
 rw [ga,if_neg (by rintro (h|h);exact Vy h;exact kB h),←kC]
 exact fq
theorem yF.GQ (C:yF) (zQ line:Int):(C.touch zQ line).2.n=C.n:=by unfold yF.touch;split<;>rfl
theorem yF.H8 (C:yF) (zQ line:Int):(C.W5 zQ line).2.n=C.n:=by unfold yF.W5;split<;>rfl
theorem yF.Fw (C:yF) (line:Int):(C.clear line).2.n=C.n:=rfl
theorem yF.BK (zQ:Int): ∀(l:List Int) (C:yF),(C.Gd zQ l).n=C.n:=by
 intro l
 induction l with
 |nil=>intro C;rfl
 |cons z l ih=>
  intro C
  show(yF.Gd (C.touch zQ z).2 zQ l).n=_
  rw [ih,yF.GQ]
theorem fk (X:yS) (M:zF) (C:yF) (u w:Bool) (z4:Int) (t:Nat):
 ((X.frame M C u w z4).2.1.zQ=X.zQ∧(X.frame M C u w z4).2.1.root=X.root∧(X.frame M C u w z4).2.1.yC=X.yC∧(X.frame M C u w z4).2.1.t=X.t)∧(X.frame M C u w z4).2.2.n=C.n∧
  yS.frame { X with t:=t } M C u w z4=((X.frame M C u w z4).1,{ (X.frame M C u w z4).2.1 with t:=t },(X.frame M C u w z4).2.2):=by
 unfold yS.frame
 by_cases h1:X.tE u w z4=true
 ·have kd:yS.tE { X with t:=t } u w z4=true:=h1
  rw [if_pos h1,if_pos kd]
  exact⟨⟨rfl,rfl,rfl,rfl⟩,rfl,rfl⟩
 have kd: ¬yS.tE { X with t:=t } u w z4=true:=h1
 rw [if_neg h1,if_neg kd]
 by_cases h2:jL M X u w z4≠0
 ·have my:jL M { X with t:=t } u w z4≠0:=h2
  rw [if_pos h2,if_pos my]
  exact⟨⟨rfl,rfl,rfl,rfl⟩,yF.BK _ _ _,rfl⟩
 have my: ¬jL M { X with t:=t } u w z4≠0:=h2
 rw [if_neg h2,if_neg my]
 exact⟨⟨rfl,rfl,rfl,rfl⟩,yF.BK _ _ _,rfl⟩
theorem Ak (M:zF) (z4:Nat): ∀k s,0≤(M.walk z4 k s).2∧(M.walk z4 k s).2≤100:=by
 intro k
 induction k with
 |zero=>intro s;exact⟨Int.le_refl _,by show(0:Int)≤100;omega⟩
 |succ k ih=>
  intro s
  unfold zF.walk
  dsimp only
  split
  ·dsimp only;split<;>omega
  split
  ·exact ih _
  exact⟨by show(0:Int)≤4;omega,by show(4:Int)≤100;omega⟩
theorem cL (X:yS) (M:zF) (C:yF) (u w:Bool) (z4:Int):0≤(X.frame M C u w z4).1.2∧(X.frame M C u w z4).1.2≤100:=by
 have hw:0≤jL M X u w z4∧jL M X u w z4≤100:=by
  show 0≤(if(M.za X.root z4).2=0 then _ else(M.za X.root z4).2)∧(if(M.za X.root z4).2=0 then _ else(M.za X.root z4).2)≤100
  split
  ·unfold js.YU;split<;>omega
  unfold zF.za
  split
  ·exact⟨by show(0:Int)≤3;omega,by show(3:Int)≤100;omega⟩
  split
  ·exact Ak _ _ _ _
  exact⟨by show(0:Int)≤4;omega,by show(4:Int)≤100;omega⟩
 unfold yS.frame
 split
 ·exact⟨Int.le_refl _,by show(0:Int)≤100;omega⟩
 split
 ·exact hw
 exact⟨Int.le_refl _,by show(0:Int)≤100;omega⟩
theorem uq (X:yS) (M:zF) (C:yF) (u w:Bool) (a:Nat) (t:Nat):
 ((X.trans M C u w a).2.1.zQ=X.zQ∧(X.trans M C u w a).2.1.root=X.root∧(X.trans M C u w a).2.1.yC=X.yC∧(X.trans M C u w a).2.1.t=X.t)∧(X.trans M C u w a).2.2.n=C.n∧
  yS.trans { X with t:=t } M C u w a=((X.trans M C u w a).1,{ (X.trans M C u w a).2.1 with t:=t },(X.trans M C u w a).2.2)∧0≤(X.trans M C u w a).1.2∧(X.trans M C u w a).1.2≤100:=by
 obtain⟨h1,h2,h3⟩:=fk X M C u w ((a/8:Nat):Int) t
 have h4:=cL X M C u w ((a/8:Nat):Int)
 unfold yS.trans
 by_cases ha:4096≤a
 ·rw [if_pos ha,if_pos ha]
  exact⟨⟨rfl,rfl,rfl,rfl⟩,rfl,rfl,by show(0:Int)≤3;omega,by show(3:Int)≤100;omega⟩
 rw [if_neg ha,if_neg ha,h3]
 dsimp only
 by_cases hz:(X.frame M C u w ((a/8:Nat):Int)).1.2≠0
 ·rw [if_pos hz,if_pos hz]
  exact⟨h1,h2,rfl,h4⟩
 rw [if_neg hz,if_neg hz]
 exact⟨h1,h2,rfl,Int.le_refl _,by show(0:Int)≤100;omega⟩
theorem pM (S:KS) (L:KL) (c:Nat) (u w:Bool) (a:Nat):(S.zQ L c).X.trans S.M S.H u w a=(((S.mm c).trans S.M S.H u w a).1,{ ((S.mm c).trans S.M S.H u w a).2.1 with t:=L.t c },((S.mm c).trans S.M S.H u w a).2.2):=
 (uq (S.mm c) S.M S.H u w a (L.t c)).2.2.1
theorem QK (S:KS) (L:KL) (c:Nat) (H:yF) {X:yS} (h1:X.zQ=(c:Nat)) (h2:X.root=(S.U c).root) (h3:X.yC=(S.U c).yC):(S.q8 c X.xs H).zQ L c= { S.zQ L c with X:= { X with t:=L.t c } } :=by
 obtain⟨a,b,d,e,f⟩:=X
 dsimp only at h1 h2 h3
 subst h1 h2 h3
 simp only [KS.zQ,KS.q8,if_true]
theorem GJ (S:KS) (L:KL) {c j:Nat} (xs:List uO) (H:yF) (h:j≠c):(S.q8 c xs H).zQ L j=S.zQ L j:=by
 simp only [KS.zQ,KS.q8,if_neg h]
theorem ph {M:zF} (h:M.Ok) (z:Int):M.rd z≤18446744073709551615:=by
 unfold zF.rd zF.read
 split
 ·exact h.2.2 _ _
 show 0≤_;omega
theorem EF {w:Nat→Nat} {cd:z0} {pc:Int} {n:Nat} (h:n<8):(YF w cd pc)[n]? =some (vu (w n)):=by
 rcases(by omega:n=0∨n=1∨n=2∨n=3∨n=4∨n=5∨n=6∨n=7)with rfl|rfl|rfl|rfl|rfl|rfl|rfl|rfl<;>rfl
theorem TK {i:qG} (h:i.ok=true):1≤i.op∧i.op≤7:=by
 unfold qG.ok qN at h
 rw [Bool.and_eq_true]at h
 exact of_decide_eq_true h.1
theorem TJ {i:qG} (h:i.ok=true) (h4:i.op=4):0≤i.a∧i.a<8:=by
 unfold qG.ok qN at h
 rw [h4]at h
 simp only [Bool.and_eq_true]at h
 have:=h.2.1
 unfold GI at this
 rw [if_pos (by decide)]at this
 exact of_decide_eq_true this
theorem VS {code:List qG} {pc:Int} {i:qG} (h:wP code pc=some i):i.ok=true:=by
 unfold wP at h
 split at h
 ·split at h
  ·split at h
   ·cases h;assumption
   cases h
  cases h
 cases h
section
variable {S:KS} {b:Nat}
theorem KS.yv.z2U (h:S.yv b) {H:yF} (hH:H.n=S.H.n) {M:zF} :({ S with H:=H,M:=M } :KS).yv b:=⟨h.n0,h.nN,hH.trans h.nH,h.q,h.al,h.no,h.pr,h.cn,h.ww,h.b1⟩
theorem KS.yv.o0 (h:S.yv b) {H:yF} (hH:H.n=S.H.n):({ S with H:=H } :KS).yv b:=⟨h.n0,h.nN,hH.trans h.nH,h.q,h.al,h.no,h.pr,h.cn,h.ww,h.b1⟩
theorem KS.yv.memory (h:S.yv b) (hM:S.M.Ok) {p:Nat} {x:qB} (hx:S.pr p=some x) (c:Nat) (i:qG):(S.memory c p x i).yv (b+1):=by
 obtain⟨_,hn,_⟩:=uq (S.mm c) S.M S.H true (decide (i.op=4)) (addrOf x.w i) 0
 have h1:=h.q8 c ((S.mm c).trans S.M S.H true (decide (i.op=4)) (addrOf x.w i)).2.1.xs hn
 have jy:=(h.pr p x hx).mono (c:=b+1) (by omega)
 unfold KS.memory
 dsimp only
 split
 ·exact h1.jh (p:=p) (x:=x) hx _ _ _
 have h2:=h1.mono (c:=b+1) (by omega)
 split
 ·exact(h2.o0 (yF.GQ _ _ _)).vA (p:=p) (x:=x) hx (jy.done i (ph hM _))
 split
 ·exact(h2.z2U (yF.GQ _ _ _)).vA (p:=p) (x:=x) hx (jy.done i (by omega))
 exact(h2.o0 (yF.Fw _ _)).vA (p:=p) (x:=x) hx (jy.done i (by omega))
theorem Dp {x:qB} (h:x.Ok b):(qB.mk ((wc x.w x.code x.pc).getD (x.w,x.pc)).1 ((wc x.w x.code x.pc).getD (x.w,x.pc)).2 x.code x.A x.fm x.sm x.S).Ok b:=by
 have hp:=h.pc
 have hc:=h.code
 unfold wc
 split
 ·exact h
 rename_i i hi
 have hk:=VS hi
 have hn:0≤i.n∧i.n≤1000000∨True:= .inr trivial
 split
 ·refine⟨GS h.w _ ?_,hc,Qm hc (by omega),h.tb⟩
  rename_i ho
  unfold qG.ok qN at hk
  rw [ho]at hk
  simp only [Bool.and_eq_true]at hk
  have:=of_decide_eq_true hk.2.2.2
  have e1:CM ((1:Int)-1).toNat≤1000000:=by decide
  omega
 split
 ·exact⟨GS h.w _ (nJ _ _),hc,Qm hc (by omega),h.tb⟩
 split
 ·rename_i ho
  have hj:0≤i.n:=by
   unfold qG.ok qN at hk
   rw [ho]at hk
   simp only [Bool.and_eq_true]at hk
   have:=of_decide_eq_true hk.2.2.2
   have e1:0≤CN ((6:Int)-1).toNat:=by decide
   omega
  split
  ·exact⟨h.w,hc,Qm hc hj,h.tb⟩
  exact⟨h.w,hc,Qm hc (by omega),h.tb⟩
 exact h
theorem KS.yv.ug (h:S.yv b) (hM:S.M.Ok) {c p:Nat} {x:qB} (hc:c<S.Q.n) (hx:S.pr p=some x) (i:qG):(S.ug c p x i).yv (b+1):=by
 unfold KS.ug
 split
 ·exact h.call hc hx i
 split
 ·exact h.memory hM hx c i
 exact(h.mono (by omega)).vA hx ((Dp (h.pr p x hx)).mono (by omega))
theorem KS.yv.Qt (h:S.yv b) (hM:S.M.Ok) {c:Nat} (hc:c<S.Q.n):(S.Qt c).2.yv (b+1):=by
 unfold KS.Qt
 split
 ·exact h.mono (by omega)
 rename_i x hx
 split
 ·exact h.mono (by omega)
 exact h.ug hM hc hx _
theorem ZC (S:KS) (c:Nat):(S.yx c).M=S.M∧(S.yx c).Q=S.Q∧(S.yx c).pr=S.pr∧(S.yx c).Rf=S.Rf∧(S.yx c).Ws=S.Ws∧(S.yx c).H=S.H∧(S.yx c).ww=S.ww:=by
 unfold KS.yx;split<;>exact⟨rfl,rfl,rfl,rfl,rfl,rfl,rfl⟩
theorem jV (S:KS) (c:Nat):(S.leave c).M=S.M∧(S.leave c).Q=S.Q∧(S.leave c).pr=S.pr∧(S.leave c).Rf=S.Rf∧(S.leave c).Ws=S.Ws∧(S.leave c).H=S.H∧(S.leave c).ww=S.ww:=by
 have ho: ∀(T:KS) (i:Nat),(T.others c i).M=T.M∧(T.others c i).Q=T.Q∧(T.others c i).pr=T.pr∧(T.others c i).Rf=T.Rf∧(T.others c i).Ws=T.Ws∧(T.others c i).H=T.H∧(T.others c i).ww=T.ww:=by
  intro T i
  unfold KS.others
  split
  ·exact ZC T i
  exact⟨rfl,rfl,rfl,rfl,rfl,rfl,rfl⟩
 have hf: ∀(l:List Nat) (T:KS),(l.foldl (fun S i=>S.others c i) T).M=T.M∧(l.foldl (fun S i=>S.others c i) T).Q=T.Q∧(l.foldl (fun S i=>S.others c i) T).pr=T.pr∧(l.foldl (fun S i=>S.others c i) T).Rf=T.Rf∧(l.foldl (fun S i=>S.others c i) T).Ws=T.Ws∧(l.foldl (fun S i=>S.others c i) T).H=T.H∧(l.foldl (fun S i=>S.others c i) T).ww=T.ww:=by
  intro l
  induction l with
  |nil=>intro T;exact⟨rfl,rfl,rfl,rfl,rfl,rfl,rfl⟩
  |cons i l ih=>
   intro T
   obtain⟨a1,a2,a3,a4,a5,a6,a7⟩:=ih (T.others c i)
   obtain⟨b1,b2,b3,b4,b5,b6,b7⟩:=ho T i
   exact⟨a1.trans b1,a2.trans b2,a3.trans b3,a4.trans b4,a5.trans b5,a6.trans b6,a7.trans b7⟩
 unfold KS.leave
 split
 ·exact⟨rfl,rfl,rfl,rfl,rfl,rfl,rfl⟩
 split
 ·obtain⟨a1,a2,a3,a4,a5,a6,a7⟩:=hf (List.range S.Q.n) (S.yx c).bare
  obtain⟨b1,b2,b3,b4,b5,b6,b7⟩:=ZC S c
  exact⟨a1.trans b1,a2.trans b2,a3.trans b3,a4.trans b4,a5.trans b5,a6.trans b6,a7.trans b7⟩
 exact ZC S c
theorem KS.yv.run (h:S.yv b) (hM:S.M.Ok) {c:Nat} (hc:c<S.Q.n):(S.run c).2.yv (b+1):=by
 unfold KS.run
 split
 ·split
  ·exact(h.pick hc).mono (by omega)
  have e:=jV (S.pick c) c
  refine((h.pick hc).leave c).Qt (by rw [e.1];exact hM) ?_
  rw [e.2.1]
  show c<(S.Q.pick c).2.n
  rw [zg.u5];exact hc
 exact h.Qt hM hc
theorem KS.yv.vQ (h:S.yv b) (c:Nat) (z:Int):(S.vQ c z).yv b:=by
 unfold KS.vQ;split
 ·exact h.enter _ _ _
 exact h
theorem KS.yv.tick (h:S.yv b) {c:Nat} (hc:c<S.Q.n):(S.tick c).yv b:=by
 unfold KS.tick
 refine KS.yv.leave ?_ c
 split
 ·exact(h.pick hc).vQ _ _
 exact h.pick hc
theorem KS.yv.YH (h:S.yv b) (c:Nat) (f w:Int):(S.YH c f w).2.yv b:=by
 obtain⟨_,hn,_⟩:=uq (S.mm c) S.M S.H false false (8*(256+f)+w).toNat 0
 unfold KS.YH
 split
 ·dsimp only
  split
  ·exact h.q8 c _ hn
  exact h.q8 c _ ((yF.GQ _ _ _).trans hn)
 exact h
theorem KS.yv.jc (h:S.yv b) (c:Nat) (f w:Int):(S.jc c f w).2.yv b:=by
 unfold KS.jc
 split
 ·exact h
 exact((h.vQ c _).YH c f w).leave c
theorem E6 (X:yS) (M:zF) (C:yF) (zQ z4:Int):(X.seen M C zQ z4).2.n=C.n:=by
 unfold yS.seen;split
 ·rfl
 exact yF.BK _ _ _
theorem aA (X:yS) (M:zF) (C:yF) (zQ:Int) (a:Nat):(X.spec M C zQ a).2.n=C.n:=by
 unfold yS.spec;split
 ·rfl
 dsimp only;split
 ·exact E6 _ _ _ _ _
 exact(yF.GQ _ _ _).trans (E6 _ _ _ _ _)
theorem Ft (X:yS) (M:zF) (C:yF) (zQ:Int) (a d:Nat) (e:Int):(X.chain M C zQ a d e).2.n=C.n:=by
 unfold yS.chain;split
 ·exact aA _ _ _ _ _
 dsimp only;split<;>exact(aA _ _ _ _ _).trans (aA _ _ _ _ _)
theorem KS.yv.qV (h:S.yv b) (hM:S.M.Ok) {c:Nat} (hc:c<S.Q.n) (x:vG):(S.qV c x).2.yv (b+1):=by
 have hm:=h.mono (c:=b+1) (by omega)
 unfold KS.qV
 split
 ·exact h.run hM hc
 split
 ·exact hm.tick hc
 split
 ·exact hm.o0 (yF.H8 _ _ _)
 split
 ·unfold KS.forget;split
  ·exact hm.WL _ _
  exact hm
 split
 ·exact hm.jc c _ _
 split
 ·split
  ·exact hm
  exact hm.o0 (Ft _ _ _ _ _ _ _)
 exact hm
theorem KS.yv.step (h:S.yv b) (hM:S.M.Ok) (x:vG):(S.step x).2.yv (b+1):=by
 unfold KS.step
 split
 ·exact h.qV hM (by omega) x
 exact h.mono (by omega)
end
theorem Ed {X:yS} (h:X.Ok) {M:zF} (hM:M.Ok) (C:yF) (u w:Bool) (a:Nat):0≤(X.trans M C u w a).1.1∧(X.trans M C u w a).1.1≤600:=by
 have h1:=yS.jx h hM C u w ((a/8:Nat):Int)
 unfold yS.trans
 split
 ·exact⟨Int.le_refl _,by show(0:Int)≤600;omega⟩
 dsimp only
 split
 ·exact⟨Int.le_refl _,by show(0:Int)≤600;omega⟩
 dsimp only;omega
theorem Ie {S:KS} {L:KL} {y:KY} {p:Nat} {x:qB} {v:z0} (hx:S.pr p=some x):S.qL L (y.uJ p v) p=(y.a p,y.v p,v,some (x,x.vm (S.W L) p)):=by
 simp only [KS.qL,KY.uJ,if_true,hx,Option.map_some]
theorem Ig {S:KS} {L:KL} {y:KY} {p j:Nat} {v:z0} (h:j≠p):S.qL L (y.uJ p v) j=S.qL L y j:=by
 simp only [KS.qL,KY.uJ,if_neg h]
theorem oT (w:Nat→Nat) (i:qG):addrOf w i≤18446744073709551615:=by
 unfold addrOf;split
 ·exact nJ _ _
 omega
theorem Zk (R:List SP) (k:Nat) (L:KL) (S:KS) (b:Nat) (gF:S.yv b) (hb:b≤300) (hg:S.N.gen≤1000000000) (c p:Nat) (x:qB) (hc:c<S.Q.n) (hx:S.pr p=some x) (i:qG) (hi:i.ok=true):yH 89 [vp k 0,vi c,vi p,.agg (qs i)] (z3 yA k (L,S)::R) fun w L2=>w= .tuple []∧L2=z3 yA k (L,S.memory c p x i)::R:=by
 have hp:=gF.lt hx
 have jy:=gF.pr p x hx
 have Sh:=jy.tb
 have N8:=jy.code
 have nX:=jy.pc
 have dN:=oT x.w i
 refine ze (yB k L S) fun y _=> ?_
 dsimp only [yV,List.cons_append,List.nil_append]
 have hl:((List.range S.Q.n).map L.c).length=S.Q.n:=by simp
 refine SW.sub ?_ (G6 hc hp hx (k:=k) (L:=L) (S:=S) (y:=y) (R:=R))
 dsimp only [Gx,WJ]
 have Yi:((List.range S.Q.n).map L.c)[c]? =some (L.c c):=gj L.c hc
 refine yl (K:=zX j3 1) (qX y.cv ((List.range S.Q.n).map L.c)) fun j5=> ?_
 replace j5:=jH j5
 refine yl (qf L.m S.M) fun hMo=> ?_
 refine SW.intro rfl Tryz.func89 rfl ?_
 refine O0 2 J (yu rfl rfl rfl rfl fun i7=> ?_)
 refine Z 3 J (jG (K:=zX qs 4) (qX (y.cd p) x.code) fun cb=> ?_)
 generalize y.cd p=cd0 at cb ⊢
 refine yW (v:=cd0) fun dU da di Ct _=> ?_
 subst Ct
 refine Z 3 J (fa J Y (zo rfl (fun _=>zw rfl rfl rfl (by omega) (by omega)) ?_))
 refine lf J Y (qU (p:=p) (L:=L) (S:=S) (y:=y) hp hx) (Z 1 J (fa J Y (lN J Y Y J J (zn rfl rfl rfl fun i8=> ?_))))
 refine sN J Y Y J J J (Z 2 J (zW [0,0,3,0,8,24,7,127] [([0,1,3,4,5],[0,1,4,5],some 2),([6,7],[4,5],none)] (by kernel_rfl) ?_))
 refine z7 (kv J Y Y J J (kv J Y Y J J (zx J Y (q9 J Y J (ZK 1 J (z8 ⟨(Wm J Y Y J J J (z6 _ (Qx cb)) (Wm J Y Y J J J (z6 _ rfl) (yN J Y J J J (gv J J J (z6 _ rfl) z9)))),?_⟩))))))
 refine Z0 (Ij _ x.w (.slice dU x.code.length da di) x.pc i) J (zJ (z7 (ZK 2 J (z8 ⟨(yN J Y J J J (gv J J J (z6 _ rfl) z9)),?_⟩))))
 refine OX 1 J (zW [0,1,3,7,0,31,63,127,0,256,768,1792,3840,0,8192,24576,57344,0,0,524287,1048575,2097151,2097151,4194303,16777215] [([0,1,2,3,4,5,6,8,9,10,11,12,13,14,15,16,17,18],[3,6,12,16],some 7),([],[12,16],some 19),([20,21,22,23,24],[],none)] (by kernel_rfl) ?_)
 refine z7 (ZK 2 J (zx J Y (YO J Y uI (ZK 1 J (jM rfl (fun _ h=>yg rfl rfl rfl (by omega) (by omega) h) ?_)))))
 refine Gy 0 J Y J Yi J (ZK 2 J (zx J Y (zx J Y (YO J Y r7 (ZK 2 J (zx J Y (YO J Y kI (ZK 2 J (z8 ⟨(jP J Y uI J (z6 _ j5) (va rfl (fun _ h=>wX (j:=0) rfl rfl rfl Yi rfl h) rfl rfl (z6 _ rfl) (jP J Y r7 J (z6 _ rfl) (jP J Y kI J (z6 _ rfl) z9)))),?_⟩)))))))))
 refine Z1 (Un _ _ (S.zQ L c)) J Y (zJ (z7 (z8 ⟨(jP J Y r7 J (z6 _ rfl) (jP J Y kI J (z6 _ rfl) z9)),?_⟩)))
 refine wj (uL (L.c c) (S.zQ L c)) fun _ _=> ?_
 dsimp only [xU,List.cons_append,List.nil_append]
 refine jG (VP (L.u c) (S.zQ L c).X) fun P5=> ?_
 refine Z3 (lA _ _ L.m L.h (S.zQ L c).X S.M S.H true (decide (i.op=4)) (addrOf x.w i)) J Y Y Y ?_
 rw [pM]
 obtain⟨⟨P3,LP,P4,_⟩,hHn,_,NB,NC⟩:=uq (S.mm c) S.M S.H true (decide (i.op=4)) (addrOf x.w i) 0
 have Ub:=Ed (X:=S.mm c) P5 hMo S.H true (decide (i.op=4)) (addrOf x.w i)
 rcases hr:(S.mm c).trans S.M S.H true (decide (i.op=4)) (addrOf x.w i)with⟨⟨pl,ft⟩,X2,H2⟩
 rw [hr]at P3 LP P4 hHn NB NC Ub
 dsimp only at P3 LP P4 hHn NB NC Ub ⊢
 refine zd (Sub.qi (p:=z3 gX (L.c c) { S.zQ L c with X:= { X2 with t:=L.t c } }) (qE (C:= { S.zQ L c with X:= { X2 with t:=L.t c } })) (Sub.refl _)) ?_
 refine zJ (z7 (ZK 5 J (z8 ⟨z9,?_⟩)))
 refine OX 5 J (z5 (fun HG=> ?_) (fun HG=> ?_))
 ·have Wp:(S.q8 c X2.xs H2).yv b:=gF.q8 c X2.xs hHn
  refine zd (Sub.trans (Sub.one (K:=zC) (a:=y.a p) (K2:=zC) (a2:=y.a p) (x2:=YF (x.w) ((.slice dU x.code.length da di)) (x.pc)++ [vp (y.v p) 0]) fun _ e=>e) (Sub.trans ?_ (vL (k:=k) (R:=R) (L:=L) (S:=S) (S':=(S.q8 c X2.xs H2)) (y:=y) (y':=(y.uJ p (.slice dU x.code.length da di))) (x':=x) (u:= { S.zQ L c with X:= { X2 with t:=L.t c } }) hc hp rfl (QK S L c H2 P3 LP P4) (fun j hj=>GJ S L X2.xs H2 hj) (Ie (S:=(S.q8 c X2.xs H2)) hx) (fun j hj=>Ig (S:=(S.q8 c X2.xs H2)) hj) rfl (show kF L S y=kF L (S.q8 c X2.xs H2) (y.uJ p (.slice dU x.code.length da di))from rfl)))) ?_
  ·exact Y
  refine Z 10 J (Z1 (DC _ _ _ (S.q8 c X2.xs H2) b Wp hb hg c p x hc hx ft ⟨NB,NC⟩ (addrOf x.w i) dN (decide (i.op=4))) J Y (Z 2 J (wq J J ?_)))
  have e:S.memory c p x i=(S.q8 c X2.xs H2).jh c p x ft (addrOf x.w i) (decide (i.op=4)):=by { unfold KS.memory;simp only [hr];exact if_pos HG }
  rw [e]
  exact fq
 refine Z 10 J (fa J Y (ld J Y J (Z 5 J (z5 (fun iT=> ?_) (fun iT=> ?_)))))
 ·refine Z 7 J (fa J Y (lf J Y kI (Z 2 J (Z1 (gn _ _ H2 (c:Nat) pl) J Y (Z 4 J (fa J Y (fa J Y (lf J Y r7 (Z 1 J (Z1 (J8 _ _ S.M pl (by omega)) J Y (Z 5 J (zW [0,0,1,5,15,31,0,0,0,448,1023,2047,4095] [([0,1,2,3,4,5,6,7,8],[5,6,7],some 9),([10,11],[5],some 12),([],[],none)] (by kernel_rfl) ?_))))))))))))
  refine z7 (ZK 3 J (zx J Y (uc rfl (fun _=>zw rfl rfl rfl (by omega) (by omega)) ?_)))
  refine YO J Y (qU (p:=p) (L:=L) (S:=S) (y:=y) hp hx) (kv J Y Y J J (kv J Y Y J J (ZK 1 J (z8 ⟨(jP J Y (qU (p:=p) (L:=L) (S:=S) (y:=y) hp hx) J (z6 _ rfl) (Wm J Y Y J J J (z6 _ (Qx cb)) (Wm J Y Y J J J (z6 _ rfl) z9))),?_⟩))))
  refine yY (GH _ x.w (.slice dU x.code.length da di) x.code (by omega) x.pc ⟨by omega,by omega⟩ i (S.M.rd pl)) rfl (fun _=>rfl) ?_
  rintro _ _ ⟨l8,rfl,rfl⟩
  refine jG (K:=zX qs 4) (qX l8 x.code) fun Lb=> ?_
  refine yW (v:=l8) fun JQ JU JW xw _=> ?_
  subst xw
  refine zJ (z7 (ZK 1 J (zx J Y (z8 ⟨(jP J Y (qU (p:=p) (L:=L) (S:=S) (y:=y) hp hx) J (z6 _ rfl) z9),?_⟩))))
  refine sN J Y Y J J J (zJ (z7 (z8 ⟨z9,?_⟩)))
  refine wq J J ?_
  have e:S.memory c p x i=(({ S.q8 c X2.xs H2 with H:=(H2.touch c pl).2 } :KS).vA p (some (x.done i (S.M.rd pl)))):=by { unfold KS.memory;simp only [hr];rw [if_neg HG,if_pos iT] }
  rw [e]
  refine⟨_,⟨rfl,rfl⟩,Sub.trans (Sub.one (K:=zC) (a:=y.a p) (K2:=zC) (a2:=y.a p) (x2:=YF (qg x.w i (S.M.rd pl)) ((.slice JQ x.code.length JU JW)) (wK x.code (x.pc+1))++ [vp (y.v p) 0]) fun _ e=>e) (Sub.trans ?_ (vL (k:=k) (R:=R) (L:=L) (S:=S) (S':=(({ S.q8 c X2.xs H2 with H:=(H2.touch c pl).2 } :KS).vA p (some (x.done i (S.M.rd pl))))) (y:=y) (y':=(y.uJ p (.slice JQ x.code.length JU JW))) (x':=x.done i (S.M.rd pl)) (u:= { S.zQ L c with X:= { X2 with t:=L.t c } }) hc hp rfl (QK S L c H2 P3 LP P4) (fun j hj=>GJ S L X2.xs H2 hj) (YB (S:=({ S.q8 c X2.xs H2 with H:=(H2.touch c pl).2 } :KS))) (fun j hj=>YC (S:=({ S.q8 c X2.xs H2 with H:=(H2.touch c pl).2 } :KS)) hj) rfl ((show kF L S y=kF L ({ S.q8 c X2.xs H2 with H:=(H2.touch c pl).2 } :KS) y from rfl).trans (UM (S:=({ S.q8 c X2.xs H2 with H:=(H2.touch c pl).2 } :KS)) (x:=x) hx))))⟩
  exact Y
 refine Z 6 J (z5 (fun Rh=> ?_) (fun Rh=> ?_))
 ·have hia:=TJ hi Rh
  refine Z 7 J (fa J Y (lf J Y kI (Z 2 J (Z1 (gn _ _ H2 (c:Nat) pl) J Y (Z 1 J (zW [0,1,3,7,15,0,0,64,0,448,960,2047] [([0,1,2,3,4,5,6,7,8,9,10],[4,7,10],some 11),([],[],none)] (by kernel_rfl) ?_))))))
  refine z7 ?_
  have hia:=TJ hi Rh
  refine ZK 2 J (zx J Y (zx J Y (YO J Y r7 (ZK 1 J (zx J Y (q9 J Y J (zx J Y (uc rfl (fun _=>zw rfl rfl rfl (by omega) (by omega)) ?_))))))))
  refine jM rfl (fun _ h=>WH rfl rfl (EF (w:=x.w) (n:=i.a.toNat) (by omega)) h) ?_
  refine z8 ⟨(jP J Y r7 J (z6 _ rfl) (yN J Y J J J (va rfl (fun _ h=>WH rfl rfl (EF (w:=x.w) (n:=i.a.toNat) (by omega)) h) rfl rfl (z6 _ rfl) z9))),?_⟩
  refine Z1 (Ys _ _ S.M pl (by omega) (x.w i.a.toNat) (jy.w _)) J Y (zJ (z7 (z8 ⟨z9,?_⟩)))
  refine zW [0,0,1,5,15,31,0,0,0,448,1023,2047,4095] [([0,1,2,3,4,5,6,7,8],[5,6,7],some 9),([10,11],[5],some 12),([],[],none)] (by kernel_rfl) ?_
  refine z7 (ZK 3 J (zx J Y (uc rfl (fun _=>zw rfl rfl rfl (by omega) (by omega)) ?_)))
  refine YO J Y (qU (p:=p) (L:=L) (S:=S) (y:=y) hp hx) (kv J Y Y J J (kv J Y Y J J (ZK 1 J (z8 ⟨(jP J Y (qU (p:=p) (L:=L) (S:=S) (y:=y) hp hx) J (z6 _ rfl) (Wm J Y Y J J J (z6 _ (Qx cb)) (Wm J Y Y J J J (z6 _ rfl) z9))),?_⟩))))
  refine yY (GH _ x.w (.slice dU x.code.length da di) x.code (by omega) x.pc ⟨by omega,by omega⟩ i (0)) rfl (fun _=>rfl) ?_
  rintro _ _ ⟨l8,rfl,rfl⟩
  refine jG (K:=zX qs 4) (qX l8 x.code) fun Lb=> ?_
  refine yW (v:=l8) fun JQ JU JW xw _=> ?_
  subst xw
  refine zJ (z7 (ZK 1 J (zx J Y (z8 ⟨(jP J Y (qU (p:=p) (L:=L) (S:=S) (y:=y) hp hx) J (z6 _ rfl) z9),?_⟩))))
  refine sN J Y Y J J J (zJ (z7 (z8 ⟨z9,?_⟩)))
  refine wq J J ?_
  have e:S.memory c p x i=(({ S.q8 c X2.xs H2 with H:=(H2.touch c pl).2,M:=S.M.write pl (x.w i.a.toNat) } :KS).vA p (some (x.done i (0)))):=by { unfold KS.memory;simp only [hr];rw [if_neg HG,if_neg iT,if_pos Rh] }
  rw [e]
  refine⟨_,⟨rfl,rfl⟩,Sub.trans (Sub.one (K:=zC) (a:=y.a p) (K2:=zC) (a2:=y.a p) (x2:=YF (qg x.w i (0)) ((.slice JQ x.code.length JU JW)) (wK x.code (x.pc+1))++ [vp (y.v p) 0]) fun _ e=>e) (Sub.trans ?_ (vL (k:=k) (R:=R) (L:=L) (S:=S) (S':=(({ S.q8 c X2.xs H2 with H:=(H2.touch c pl).2,M:=S.M.write pl (x.w i.a.toNat) } :KS).vA p (some (x.done i (0))))) (y:=y) (y':=(y.uJ p (.slice JQ x.code.length JU JW))) (x':=x.done i (0)) (u:= { S.zQ L c with X:= { X2 with t:=L.t c } }) hc hp rfl (QK S L c H2 P3 LP P4) (fun j hj=>GJ S L X2.xs H2 hj) (YB (S:=({ S.q8 c X2.xs H2 with H:=(H2.touch c pl).2,M:=S.M.write pl (x.w i.a.toNat) } :KS))) (fun j hj=>YC (S:=({ S.q8 c X2.xs H2 with H:=(H2.touch c pl).2,M:=S.M.write pl (x.w i.a.toNat) } :KS)) hj) rfl ((show kF L S y=kF L ({ S.q8 c X2.xs H2 with H:=(H2.touch c pl).2,M:=S.M.write pl (x.w i.a.toNat) } :KS) y from rfl).trans (UM (S:=({ S.q8 c X2.xs H2 with H:=(H2.touch c pl).2,M:=S.M.write pl (x.w i.a.toNat) } :KS)) (x:=x) hx))))⟩
  exact Y
 refine Z 6 J (fa J Y (lf J Y kI (Z 1 J (Z1 (Bh _ _ H2 pl) J Y (Z 1 J (zW [0,0,1,5,15,31,0,0,0,448,1023,2047,4095] [([0,1,2,3,4,5,6,7,8],[5,6,7],some 9),([10,11],[5],some 12),([],[],none)] (by kernel_rfl) ?_))))))
 refine z7 (ZK 3 J (zx J Y (uc rfl (fun _=>zw rfl rfl rfl (by omega) (by omega)) ?_)))
 refine YO J Y (qU (p:=p) (L:=L) (S:=S) (y:=y) hp hx) (kv J Y Y J J (kv J Y Y J J (ZK 1 J (z8 ⟨(jP J Y (qU (p:=p) (L:=L) (S:=S) (y:=y) hp hx) J (z6 _ rfl) (Wm J Y Y J J J (z6 _ (Qx cb)) (Wm J Y Y J J J (z6 _ rfl) z9))),?_⟩))))
 refine yY (GH _ x.w (.slice dU x.code.length da di) x.code (by omega) x.pc ⟨by omega,by omega⟩ i (0)) rfl (fun _=>rfl) ?_
 rintro _ _ ⟨l8,rfl,rfl⟩
 refine jG (K:=zX qs 4) (qX l8 x.code) fun Lb=> ?_
 refine yW (v:=l8) fun JQ JU JW xw _=> ?_
 subst xw
 refine zJ (z7 (ZK 1 J (zx J Y (z8 ⟨(jP J Y (qU (p:=p) (L:=L) (S:=S) (y:=y) hp hx) J (z6 _ rfl) z9),?_⟩))))
 refine sN J Y Y J J J (zJ (z7 (z8 ⟨z9,?_⟩)))
 refine wq J J ?_
 have e:S.memory c p x i=(({ S.q8 c X2.xs H2 with H:=(H2.clear pl).2 } :KS).vA p (some (x.done i (0)))):=by { unfold KS.memory;simp only [hr];rw [if_neg HG,if_neg iT,if_neg Rh] }
 rw [e]
 refine⟨_,⟨rfl,rfl⟩,Sub.trans (Sub.one (K:=zC) (a:=y.a p) (K2:=zC) (a2:=y.a p) (x2:=YF (qg x.w i (0)) ((.slice JQ x.code.length JU JW)) (wK x.code (x.pc+1))++ [vp (y.v p) 0]) fun _ e=>e) (Sub.trans ?_ (vL (k:=k) (R:=R) (L:=L) (S:=S) (S':=(({ S.q8 c X2.xs H2 with H:=(H2.clear pl).2 } :KS).vA p (some (x.done i (0))))) (y:=y) (y':=(y.uJ p (.slice JQ x.code.length JU JW))) (x':=x.done i (0)) (u:= { S.zQ L c with X:= { X2 with t:=L.t c } }) hc hp rfl (QK S L c H2 P3 LP P4) (fun j hj=>GJ S L X2.xs H2 hj) (YB (S:=({ S.q8 c X2.xs H2 with H:=(H2.clear pl).2 } :KS))) (fun j hj=>YC (S:=({ S.q8 c X2.xs H2 with H:=(H2.clear pl).2 } :KS)) hj) rfl ((show kF L S y=kF L ({ S.q8 c X2.xs H2 with H:=(H2.clear pl).2 } :KS) y from rfl).trans (UM (S:=({ S.q8 c X2.xs H2 with H:=(H2.clear pl).2 } :KS)) (x:=x) hx))))⟩
 exact Y
theorem E2 {P:Program} {F:zD} {o:Oper} {T:Tm} {H:Hp} {c:Call} {t:TypeId} {ts:List TypeId} {x:Operand} {sz n k e:Nat} {a:Option (Nat×Nat)} [hs:SL P t sz] (ho:o.op= .call c) (hc:c.callee= .builtin .cap) (ht:c.argTypes.toList=t::ts) (ha:c.args.toList= [x]) (hx:zK T x=some (.slice a n (some k) e)):yd P F T H o=some (.val (.int .i64 (.lit ((k:Nat):Int))) H):=by
 obtain⟨e,g1,g2⟩:=hs.h
 simp only [yd,ho,hc,ht,ha,wQ,hx,yq,yc,g1,WU]
 rfl
theorem Iy {P:Program} {F:zD} {o:Oper} {T:Tm} {H:Hp} {t:TypeId} {x hi:Operand} {sz e:Nat} [hs:SL P t sz] (ho:o.op= .slice t x none (some hi) none) (hx:zK T x=some (.slice none 0 (some 0) e)) (hh:zK T hi=some (.int .i64 (.lit ((0:Nat):Int)))):yd P F T H o=some (.val (.slice none 0 (some 0) e) H):=by
 obtain⟨e0,g1,g2⟩:=hs.h
 have n1:uj (.int .i64 (.lit ((0:Nat):Int)))=some 0:=rfl
 have b0:Nat.ble 0 0=true:=rfl
 simp only [yd,ho,wW,Option.map,Option.getD,hx,hh,vf,g1,g2,qQ,Y0,vP,vJ,n1,b0,cond_true,zN.qK]
theorem Ky: ∀e z,yj Tryz.prog 48=some (.slice e)→zeroOf Tryz.prog e=some z→yf z.cells=true:=by
 intro e z h1 h2
 have h3:yj Tryz.prog 48=some (.slice 54):=Tryz.underlying48
 rw [h3]at h1
 cases h1
 have h4:(match zeroOf Tryz.prog 54 with
  |some z=>yf z.cells
  |none=>false)=true:=by kernel_rfl
 rw [h2]at h4
 exact h4
def nB (yP:Nat→List uO):Nat→Nat
 |0=>0
 |j+1=>nB yP j+(yP j).length
theorem KN {yP:Nat→List uO} (h: ∀j,(yP j).length≤100): ∀j,nB yP j≤100*j:=by
 intro j
 induction j with
 |zero=>exact Nat.le_refl 0
 |succ j ih=>have:=h j;show nB yP j+(yP j).length≤_;omega
def fG (yP:Nat→List uO):Nat→List uO
 |0=> []
 |j+1=>fG yP j++yP j
theorem Bg (yP:Nat→List uO): ∀j,(fG yP j).length=nB yP j:=by
 intro j
 induction j with
 |zero=>rfl
 |succ j ih=>show(fG yP j++yP j).length=nB yP j+(yP j).length;rw [List.length_append,ih]
theorem Kd (R:List SP) (n:Nat) (hn:n≤1000):yH 147 [.slice none 0 (some 0) 0,vi n] (R) fun w L=>L=z3 (zX gZ 6) w []::R:=by
 refine SW.intro rfl Tryz.func147 rfl ?_
 refine O0 8 J (zo rfl (fun _=>zG rfl rfl rfl (Ui rfl)) (qm (by omega) ?_))
 refine Z 8 J (zo rfl (fun _=>E2 rfl rfl rfl rfl rfl) ?_)
 refine Z 1 J (zo rfl (fun _=>vD rfl rfl rfl rfl rfl) ?_)
 refine sb J (sb J (qI (w:=vi (n:Nat)) (by congr 2) ?_))
 refine Z 6 J (z5 (fun j4=> ?_) (fun j4=> ?_))
 ·refine Z 5 J (zo rfl (fun _=>E2 rfl rfl rfl rfl rfl) ?_)
  refine zo rfl (fun _=>Iy rfl rfl rfl) ?_
  refine Z 1 J (Nq (es:=6) (n:=n) ⟨_,(show yj Tryz.prog 3=some (.int _)from Tryz.underlying3)⟩ rfl rfl rfl rfl rfl rfl rfl (by omega) (by omega) (by decide) Ky fun i22 f22=> ?_)
  refine Z 1 J (zo rfl (fun _=>vD rfl rfl rfl rfl rfl) ?_)
  refine zo rfl (fun _=>bj (es:=6) rfl rfl rfl (by decide) (by omega) nofun) ?_
  exact Z 8 J (zI J J J ⟨_,rfl,Sub.one (K:=zO) (a:=i22) (K2:=zX gZ 6) (a2:= .slice (some (i22,0)) 0 none 6) (x2:= []) fun f hf=>⟨.own i22 0 0 _ 6 _ [] hf (by omega) rfl,fun _=>rfl,by decide⟩⟩)
 exact Z 9 J (zI J J J ⟨_,rfl,Sub.jF (α:=uO) (en:=gZ) (es:=6) (fun _=>rfl) (by decide) 0 _⟩)
theorem KX (R:List SP) (v:z0) (xs:List uO) (i:Nat) (sP:Nat→z0) (yP:Nat→List uO) (hs: ∀j,j<2→ ∀f,zX gZ 6 v xs f→zX gZ 6 (sP j) (yP j) f) (hl: ∀j,(yP j).length≤100):yH 94 [.slice (some (i,0)) 2 (some 2) 1] (z3 (zX gZ 6) v xs::z3 zO i (2,sP)::R) fun w L=>L=z3 (zX gZ 6) w (fG yP 2)::z3 (zX gZ 6) v xs::z3 zO i (2,sP)::R:=by
 have lW:=KN hl
 refine SW.intro rfl Tryz.func94 rfl ?_
 refine O0 12 J (zo rfl (fun _=>vD rfl rfl rfl rfl rfl) ?_)
 refine Z 3 J (zy (fun j T LZ=> ∃(j1:Nat),(j1≤2)∧j=2-j1∧T.len=3∧Tm.get 0 T=some (.slice (some (i,0)) 2 (some 2) 1)∧Tm.get 3 T=some (vi (nB yP j1:Nat))∧Tm.get 9 T=some (.slice (some (i,0)) 2 (some 2) 1)∧Tm.get 10 T=some (vi 2)∧Tm.get 11 T=some (vi (j1:Nat))∧Sub LZ (z3 (zX gZ 6) v xs::z3 zO i (2,sP)::R)) (2) ⟨0,by omega,by omega,rfl,rfl,rfl,rfl,rfl,rfl,Y⟩ ?_)
 rintro j T L0 ⟨j1,hj0,rfl,hl,g0,g3,g9,YL,kA,yU⟩
 obtain⟨tg,rfl⟩:=I3 hl g0 g3 g9 YL kA
 clear hl g0 g3 g9 YL kA
 refine yE yU ?_
 clear yU L0
 refine O0 3 J (z5 (fun ke=> ?_) (fun ke=> ?_))
 ·have hj:j1<2:=by omega
  have hj1:=hl j1
  have hj2:=lW j1
  refine Z 8 J (zo rfl (fun _=>ja rfl rfl rfl (by omega) (by omega)) ?_)
  refine lf J Y rfl (Z 6 J (qJ rfl (fun _ h=>N4 (ys:=yP j1) (hs j1 hj _ (show zX gZ 6 v xs _ from h.el)) rfl rfl rfl rfl rfl) ?_))
  refine ad J (qI (w:=vi (nB yP (j1+1):Nat)) (by show _=vi ((nB yP j1+(yP j1).length:Nat):Int);congr 2) ?_)
  refine Z 5 J (zo rfl (fun _=>zG rfl rfl rfl (Ui rfl)) (qm (by omega) ?_))
  refine Z 4 J (ad J (Z 2 J ?_))
  exact Or.inl ⟨rfl,_,by omega,j1+1,by omega,rfl,rfl,rfl,rfl,rfl,rfl,rfl,Y⟩
 refine Z 4 J (Or.inr ⟨nofun,?_⟩)
 refine OX 2 J ?_
 have h2:j1=2:=by omega
 subst h2
 refine Z 1 J (qZ (Kd _ (nB yP 2) (by have:=lW 2;omega)) rfl (fun _=>rfl) ?_)
 rintro u24 _ rfl
 refine Z 6 J (zo rfl (fun _=>vD rfl rfl rfl rfl rfl) ?_)
 refine Z 3 J (zy (fun j T LZ=> ∃(j2:Nat) (u:z0),(j2≤2)∧j=2-j2∧T.len=3∧Tm.get 0 T=some (.slice (some (i,0)) 2 (some 2) 1)∧Tm.get 6 T=some (u)∧Tm.get 25 T=some (.slice (some (i,0)) 2 (some 2) 1)∧Tm.get 26 T=some (vi 2)∧Tm.get 27 T=some (vi (j2:Nat))∧Sub LZ (z3 (zX gZ 6) u (fG yP j2)::z3 (zX gZ 6) v xs::z3 zO i (2,sP)::R)) (2) ⟨0,u24,by omega,by omega,rfl,rfl,rfl,rfl,rfl,rfl,(show Px.Sub _ (z3 (zX gZ 6) _ ([]:List uO)::z3 (zX gZ 6) v xs::z3 zO i (2,sP)::R)from Y)⟩ ?_)
 rintro j T L0 ⟨j2,u,hj0,rfl,hl,g0,g6,g25,g26,g27,yU⟩
 obtain⟨tg,rfl⟩:=I3 hl g0 g6 g25 g26 g27
 clear hl g0 g6 g25 g26 g27
 refine yE yU ?_
 clear yU L0
 refine O0 3 J (z5 (fun Uy=> ?_) (fun Uy=> ?_))
 ·have hj:j2<2:=by omega
  have hj1:=hl j2
  have hj2:=lW j2
  have gE:=Bg yP j2
  refine Z 8 J (zo rfl (fun _=>ja rfl rfl rfl (by omega) (by omega)) ?_)
  refine lf J Y rfl (Z 5 J (Np (xs:=fG yP j2) (ys:=yP j2) (fun H hH=>by { have hE:zX gZ 6 v xs fun k=>H.t.get k:=hH.el;exact hs j2 (by omega) _ hE }) rfl rfl rfl rfl rfl rfl rfl (by omega) (fun _=>rfl) fun a33 c33 e33=> ?_))
  refine Z 3 J (ad J (Z 2 J ?_))
  exact Or.inl ⟨rfl,_,by omega,j2+1,_,by omega,rfl,rfl,rfl,rfl,rfl,rfl,rfl,(show Px.Sub _ (z3 (zX gZ 6) _ (fG yP j2++yP j2)::z3 (zX gZ 6) v xs::z3 zO i (2,sP)::R)from Y)⟩
 refine Z 4 J (Or.inr ⟨nofun,?_⟩)
 refine OX 6 J (zI J J J ?_)
 have h2:j2=2:=by omega
 subst h2
 exact⟨_,rfl,Y⟩
theorem ok_slice {i off n:Nat} (c:Option Nat):Da (.slice (some (i,off)) n c 6)=true:=by cases c<;>rfl
theorem DI (i off n:Nat) (c:Option Nat) (a:Nat): ∃o m d,I1 i off n c 6 a= .slice (some (i,o)) m d 6:=by
 unfold I1
 cases c with
 |none=>exact⟨_,_,_,rfl⟩
 |some k=>dsimp only;cases Nat.beq k a<;>exact⟨_,_,_,rfl⟩
theorem mr {i off:Nat} {c:Option Nat} {xs:List uO} {z:Int} (hz:0≤z∧z<(xs.length:Nat)) {f:q7} (hf:zX gZ 6 (.slice (some (i,off)) xs.length c 6) xs f): ∀j,j<2→zX gZ 6 (jW [.slice (some (i,off)) z.toNat c 6,I1 i off xs.length c 6 (z+1).toNat] j) (if j=0 then xs.take z.toNat else xs.drop (z+1).toNat) f:=by
 intro j hj
 rcases(by omega:j=0∨j=1)with rfl|rfl
 ·exact Mm hf (by omega)
 exact Mn hf (by omega)
theorem cK {xs:List uO} (h:xs.length≤8) (z:Int): ∀j:Nat,(if j=0 then xs.take z.toNat else xs.drop (z+1).toNat).length≤100:=by
 intro j
 split
 ·rw [List.length_take];omega
 rw [List.length_drop];omega
theorem Ac (R:List SP) (a:Nat) (xs:List uO) (z:Int):yH 56 [vp a 0,vi z] (z3 ZG a xs::R) fun w L=>w= .bool (decide (0≤z∧z<(xs.length:Nat)))∧L=z3 ZG a (if 0≤z∧z<(xs.length:Nat)then xs.eraseIdx z.toNat else xs)::R:=by
 refine ze (QM a xs) fun v hxs=> ?_
 dsimp only [Ae,List.cons_append,List.nil_append]
 refine SW.intro rfl Tryz.func56 rfl ?_
 refine O0 9 J (z5 (fun h6=> ?_) (fun h6=> ?_))
 ·refine Z 16 J (zI J J J ?_)
  have hz: ¬(0≤z∧z<(xs.length:Nat)):=by omega
  rw [decide_eq_false hz,if_neg hz]
  exact⟨_,⟨rfl,rfl⟩,Sub.qi (vV hxs) Y⟩
 refine Z 4 J (fa J Y (ld J Y J (qJ rfl (fun _ h=>yI rfl rfl rfl rfl rfl h) ?_)))
 refine Z 1 J (z5 (fun YQ=> ?_) (fun YQ=> ?_))
 ·refine Z 8 J (zI J J J ?_)
  have hz: ¬(0≤z∧z<(xs.length:Nat)):=by omega
  rw [decide_eq_false hz,if_neg hz]
  exact⟨_,⟨rfl,rfl⟩,Sub.qi (vV hxs) Y⟩
 have hz:0≤z∧z<(xs.length:Nat):=by omega
 have wY:xs≠ []:=fun e=>by { rw [e]at hz;simp at hz;omega }
 refine jl (K:=zX gZ 6) (a:=v) (x:=xs) (fun f hf=>C6 hf wY) fun hsh=> ?_
 obtain⟨i0,off,c,rfl,hc⟩:=hsh
 refine Z 5 J (zW [0,0,2,6,14,0,62,0,128,384,896,0,2048,8064,16382,32766,65535,131071,262143] [([0,1,2,3,4,5,6,7,8,9,10,11,12,13,14],[4,6,10,12,13],some 15),([16,17],[],some 18),([],[],none)] (by kernel_rfl) ?_)
 refine z7 (ZK 3 J (zx J Y (q9 J Y J (ZK 1 J (uc rfl (fun _=>bj rfl rfl rfl (by omega) (by omega) hc) ?_)))))
 refine ZK 2 J (zx J Y (q9 J Y J (ZK 1 J (PJ J ?_))))
 obtain⟨o9,n9,c9,he9⟩:=DI i0 off xs.length c (z+1).toNat
 refine uc rfl (fun _=>eu rfl rfl rfl (by omega) (by omega) hc) ?_
 refine QA he9 ?_
 refine uy (cs:= [_,_]) rfl rfl rfl (by decide) rfl fun i30=> ?_
 refine z8 ⟨(va rfl (fun _ h=>WH rfl rfl rfl h) rfl rfl (z6 _ (ok_slice c)) (uR rfl (fun _=>bj rfl rfl rfl (by omega) (by omega) hc) rfl rfl (z6 _ (ok_slice c)) (va rfl (fun _ h=>WH rfl rfl rfl h) rfl rfl (z6 _ (ok_slice c)) (uR rfl (fun _=>zG rfl rfl rfl (gJ (by omega))) rfl rfl (z6 _ rfl) (uR rfl (fun _=>eu rfl rfl rfl (by omega) (by omega) hc) rfl rfl (by rw [he9];exact z6 _ (ok_slice c9)) z9))))),?_⟩
 refine zd (Sub.one (K:=zC) (a:=i30) (K2:=zO) (a2:=i30) (x2:=(2,jW [.slice (some (i0,off)) z.toNat c 6,z0.slice (some (i0,o9)) n9 c9 6])) fun f hf=>vE (cs:= [.slice (some (i0,off)) z.toNat c 6,z0.slice (some (i0,o9)) n9 c9 6]) (fun j hj=>Qk hj) f hf) ?_
 refine VT (KX _ (.slice (some (i0,off)) xs.length c 6) xs i30 (jW [.slice (some (i0,off)) z.toNat c 6,z0.slice (some (i0,o9)) n9 c9 6]) (fun j=>if j=0 then xs.take z.toNat else xs.drop (z+1).toNat) (fun j hj f hf=>by rw [←he9];exact mr hz hf j hj) (cK hxs z)) rfl (fun _=>rfl) ?_
 rintro u31 _ rfl
 refine yW (v:=u31) fun a2 c2 e2 Sk _=> ?_
 subst Sk
 refine zJ (z7 (ZK 1 J (zx J Y (z8 ⟨z9,?_⟩))))
 refine sO J Y J J J (zJ (z7 (z8 ⟨z9,?_⟩)))
 refine OX 5 J (zI J J J ?_)
 have hd:decide (0≤z∧z<(xs.length:Nat))=true:=decide_eq_true hz
 rw [hd,if_pos hz]
 refine⟨_,⟨rfl,rfl⟩,?_⟩
 have e9:fG (fun j=>if j=0 then xs.take z.toNat else xs.drop (z+1).toNat) 2=xs.eraseIdx z.toNat:=by { show([]++xs.take z.toNat)++xs.drop (z+1).toNat=_;rw [List.nil_append,show(z+1).toNat=z.toNat+1 by omega,List.eraseIdx_eq_take_drop_succ] }
 rw [e9]
 have h9:(xs.eraseIdx z.toNat).length≤8:=by { have:=List.length_eraseIdx_le xs z.toNat;omega }
 exact Sub.qi (vV h9) Y
end Go.Proofs.YtlhcpplnlgehbaaGreat
