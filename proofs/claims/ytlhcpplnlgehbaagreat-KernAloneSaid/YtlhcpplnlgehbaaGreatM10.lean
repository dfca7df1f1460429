/- Part of the proof: KPlay3, KPlay4, KAl2, KAlone, KIn, KIn2, KPipeOk, KAloneW. Names and blanks are cut short to keep within the size of a claim. -/
import Derived.ChangeReads
import Derived.ChangeSlices
import Derived.Conc.LoneSelect
import Derived.ProofKit
import Derived.ReadAgain
import Derived.Test.YtlhcpplnlgehbaaGreatKWakes
import Derived.Test.YtlhcpplnlgehbaaGreatM4
import Derived.Test.YtlhcpplnlgehbaaGreatM9
import Derived.WalkKit
set_option linter.unusedVariables false
set_option linter.unusedSimpArgs false
set_option maxRecDepth 100000
namespace Go.Proofs.YtlhcpplnlgehbaaGreat
open Go Go.RowKit Go.Px
def na (x:z0×List Int):SP:=z3 (jZ ye 1) x.1 x.2
abbrev Xb (cv:z0) (vs:Nat→z0) (ls:List (List Int)):List SP:= [z3 (jZ gH 1) cv ((List.range ls.length).map vs),z3 (zL na) 0 (List.range ls.length,fun q=>(vs q,ls.getD q []))]
def ib (cv:z0) (ls:List (List Int)):SP:=fun h=> ∃vs:Nat→z0,True∧Sat (Xb cv vs ls) h
theorem ic (cv:z0) (ls:List (List Int)): ∀h,ib cv ls h→ ∃vs:Nat→z0,True∧Sat (Xb cv vs ls) h:=fun _ h=>h
theorem Qf {cv:z0} {ls:List (List Int)} {vs:Nat→z0} : ∀h,Sat (Xb cv vs ls) h→ib cv ls h:=fun _ s=>⟨vs,trivial,s⟩
def ZN (ls:List (List Int)):List (List qG):=if ls= []then [wI [0,0,13,0,17,0]]else(List.range (min 3 ls.length)).map fun q=>wI (ls.getD q [])
theorem lz {n:Nat} {ws:Nat→z0} {u:z0} {g:Nat→List qG} {ov:z0} {R:List SP} :
 Sub (z3 (zX gH 1) ov ((List.range n).map ws++ [u])::z3 (zX qs 4) u (g n)::z3 (zL Zy) 0 (List.range n,fun q=>(ws q,g q))::R)
  (z3 (zX gH 1) ov ((List.range (n+1)).map fun q=>if q=n then u else ws q)::z3 (zL Zy) 0 (List.range (n+1),fun q=>((if q=n then u else ws q),g q))::R):=by
 have e:(List.range (n+1)).map (fun q=>if q=n then u else ws q)=(List.range n).map ws++ [u]:=by
  rw [List.range_succ,List.map_append]
  congr 1
  ·refine List.map_congr_left fun q hq=> ?_
   rw [if_neg (by have:=List.mem_range.1 hq;omega)]
  simp
 rw [e]
 refine Sub.wU (Sub.trans ?_ (Zn (K:=Zy) (b:=0) (n:=n) (f:=fun q=>(ws q,g q)) (g:=fun q=>((if q=n then u else ws q),g q)) fun q hq=>by show((if q=n then u else ws q),g q)=(ws q,g q);rw [if_neg (by omega)]))
 show Px.Sub _ (z3 (zX qs 4) (if n=n then u else ws n) (g n)::_)
 rw [if_pos rfl]
 exact Sub.refl _
theorem U9 {n:Nat} {ws:Nat→z0} {g:Nat→List qG} {ov:z0} {R:List SP} :Sub (z3 (zX gH 1) ov ((List.range n).map ws)::z3 (zL Zy) 0 (List.range n,fun q=>(ws q,g q))::R) (z3 Wf ov ((List.range n).map g)::R):=by
 refine Sub.trans (M:=z3 (zX gH 1) ov ((List.range ((List.range n).map g).length).map ws)::z3 (zL Zy) 0 (List.range ((List.range n).map g).length,fun q=>(ws q,((List.range n).map g).getD q []))::R) ?_ (Sub.qi (uv (vs:=ws)) (Sub.refl _))
 have hn:((List.range n).map g).length=n:=by simp
 rw [hn]
 refine Sub.wU (Sub.imp (K:=zL Zy) (a:=0) (GN fun q hq=> ?_) (Sub.refl _))
 have hq:=List.mem_range.1 hq
 rw [List.getD_eq_getElem?_getD,List.getElem?_map,List.getElem?_range hq];rfl
theorem pL {i:Nat} {u:z0} {c:List qG} {R:List SP} :Sub (z3 zC i [u]::z3 (zX qs 4) u c::R) (z3 Wf (.slice (some (i,0)) 1 (some 1) 1) [c]::R):=by
 refine Sub.trans (M:=z3 (zX gH 1) (.slice (some (i,0)) 1 (some 1) 1) ((List.range 1).map fun _=>u)::z3 (zL Zy) 0 (List.range 1,fun q=>(u,(fun _=>c) q))::R) ?_ (U9 (g:=fun _=>c))
 refine Sub.trans (Sub.one (K:=zC) (a:=i) (K2:=zX gH 1) (a2:= .slice (some (i,0)) 1 (some 1) 1) (x2:= [u]) (gY (ys:= [u]) (fun _=>rfl) (by decide))) ?_
 refine Sub.wU ?_
 refine Sub.trans ?_ (Zn (K:=Zy) (b:=0) (n:=0) (f:=fun q=>(u,(fun _=>c) q)) (g:=fun q=>(u,(fun _=>c) q)) fun q hq=>by omega)
 exact Sub.wU QL
theorem Ip {β:Type} (vs:Nat→β) {n q:Nat} (h:q<n):((List.range n).map vs)[q]? =some (vs q):=by rw [List.getElem?_map,List.getElem?_range h];rfl
set_option maxHeartbeats 1000000 in
theorem Fy (R:List SP) (cv:z0) (ls:List (List Int)) (hl: ∀q z,z ∈ ls.getD q []→jz z):yH 33 [cv] (z3 ib cv ls::R) fun w L2=>L2=z3 Wf w (ZN ls)::z3 ib cv ls::R:=by
 refine ze (ic cv ls) fun vs _=> ?_
 dsimp only [Xb,List.cons_append,List.nil_append]
 have hY:((List.range ls.length).map vs).length=ls.length:=by simp
 refine SW.intro rfl Tryz.func33 rfl ?_
 refine O0 14 J (yE (Sub.trans (Sub.jF (en:=gH) (es:=1) (fun _=>rfl) (by decide) 0 _) (Sub.wU (QL (K:=Zy) (b:=0) (f:=fun q=>(z0.ptr none,wI (ls.getD q [])))))) ?_)
 refine zy (fun j T LZ=> ∃(n:Nat) (ov:z0) (ws:Nat→z0),(n≤3∧n≤ls.length)∧j=3-n∧T.len=2∧Tm.get 0 T=some (cv)∧Tm.get 3 T=some (ov)∧Tm.get 4 T=some (vi (n:Nat))∧Sub LZ (z3 (zX gH 1) ov ((List.range n).map ws)::z3 (zL Zy) 0 (List.range n,fun q=>(ws q,(fun q=>wI (ls.getD q [])) q))::z3 (jZ gH 1) cv ((List.range ls.length).map vs)::z3 (zL na) 0 (List.range ls.length,fun q=>(vs q,ls.getD q []))::R)) (3) ⟨0,.slice none 0 (some 0) 0,fun _=> .ptr none,by omega,by omega,rfl,rfl,rfl,rfl,(by exact Sub.refl _)⟩ ?_
 rintro j T L0 ⟨n,ov,ws,hn,rfl,hl,g0,g3,g4,yU⟩
 obtain⟨tg,rfl⟩:=FV hl g0 g3 g4
 clear hl g0 g3 g4
 refine yE yU ?_
 clear yU L0
 refine O0 5 J (qJ rfl (fun _ h=>cY gH 1 rfl rfl rfl rfl rfl h) ?_)
 refine qI (congrArg (fun n:Nat=>vi n) hY) ?_
 refine Z 1 J (z5 (fun h8=> ?_) (fun h8=> ?_))
 ·have Cn:n<ls.length:=by omega
  have hvx:=Ip vs Cn
  refine Z 3 J (z5 (fun Gq=> ?_) (fun Gq=> ?_))
  ·refine Z 10 J (qJ rfl (fun _ h=>W6 gH 1 rfl rfl rfl (by omega) (by rw [hY];omega) h) ?_)
   refine qJ rfl (fun _ h=>gM gH 1 (j:=0) rfl rfl rfl hvx rfl h) ?_
   refine zd (Sub.trans (M:=z3 (zL na) 0 (List.range ls.length,fun q=>(vs q,ls.getD q []))::(z3 (zX gH 1) ov ((List.range n).map ws)::z3 (zL Zy) 0 (List.range n,fun q=>(ws q,(fun q=>wI (ls.getD q [])) q))::z3 (jZ gH 1) cv ((List.range ls.length).map vs)::R)) Y (vF (wJ Cn))) ?_
   dsimp only [na]
   refine yY (ly _ (vs n) (ls.getD n []) (hl n)) rfl (fun _=>rfl) ?_
   rintro u20 _ rfl
   refine yW (v:=u20) fun mM ma mi Cu _=> ?_
   subst Cu
   refine zd (Sub.trans (M:=na (vs n,ls.getD n [])::z3 (zL na) 0 ((List.range ls.length).erase n,fun q=>(vs q,ls.getD q []))::z3 (zX qs 4) (z0.slice mM (wI (ls.getD n [])).length ma mi) (wI (ls.getD n []))::(z3 (zX gH 1) ov ((List.range n).map ws)::z3 (zL Zy) 0 (List.range n,fun q=>(ws q,(fun q=>wI (ls.getD q [])) q))::z3 (jZ gH 1) cv ((List.range ls.length).map vs)::R)) (show Px.Sub _ (z3 (jZ ye 1) (vs n) (ls.getD n [])::z3 (zL na) 0 ((List.range ls.length).erase n,fun q=>(vs q,ls.getD q []))::z3 (zX qs 4) (z0.slice mM (wI (ls.getD n [])).length ma mi) (wI (ls.getD n []))::(z3 (zX gH 1) ov ((List.range n).map ws)::z3 (zL Zy) 0 (List.range n,fun q=>(ws q,(fun q=>wI (ls.getD q [])) q))::z3 (jZ gH 1) cv ((List.range ls.length).map vs)::R))from Y) (jJ (K:=na) (b:=0) (g:=fun q=>(vs q,ls.getD q [])) (wJ Cn) List.nodup_range fun _ _ _=>rfl)) ?_
   refine zf (cs:= [_]) rfl rfl rfl (by decide) rfl fun i21=> ?_
   refine ZQ rfl rfl rfl rfl rfl rfl rfl ([(z0.slice mM (wI (ls.getD n [])).length ma mi)]) rfl rfl (by simp) (by rw [List.length_map,List.length_range];omega) rfl fun i22 q22 c22=> ?_
   refine Z 4 J (ad J (Z 2 J ?_))
   exact Or.inl ⟨rfl,_,by omega,n+1,_,fun q=>if q=n then(z0.slice mM (wI (ls.getD n [])).length ma mi)else ws q,by omega,rfl,rfl,rfl,rfl,rfl,(Sub.trans (M:=z3 (zX gH 1) _ ((List.range n).map ws++ [(z0.slice mM (wI (ls.getD n [])).length ma mi)])::z3 (zX qs 4) (z0.slice mM (wI (ls.getD n [])).length ma mi) ((fun q=>wI (ls.getD q [])) n)::z3 (zL Zy) 0 (List.range n,fun q=>(ws q,(fun q=>wI (ls.getD q [])) q))::z3 (jZ gH 1) cv ((List.range ls.length).map vs)::z3 (zL na) 0 (List.range ls.length,fun q=>(vs q,ls.getD q []))::R) Y (lz (n:=n) (ws:=ws) (u:=(z0.slice mM (wI (ls.getD n [])).length ma mi)) (g:=fun q=>wI (ls.getD q []))))⟩
  refine Z 4 J (Or.inr ⟨nofun,?_⟩)
  refine OX 4 J (qJ rfl (fun _ h=>yI rfl rfl rfl rfl rfl h) ?_)
  refine Z 1 J (z5 (fun QN=> ?_) (fun QN=> ?_))
  ·refine Z 3 J (zf (cs:= [_,_,_,_,_,_]) rfl rfl rfl (by decide) rfl fun i26=> ?_)
   refine zd (Sub.one (K:=zC) (a:=i26) (K2:=jZ ye 1) (a2:= .slice (some (i26,0)) 6 (some 6) 1) (x2:= [0,0,13,0,17,0]) (Yy (l:= [0,0,13,0,17,0]))) ?_
   refine yY (ly _ (.slice (some (i26,0)) 6 (some 6) 1) [0,0,13,0,17,0] (by decide)) rfl (fun _=>rfl) ?_
   rintro u27 _ rfl
   refine yW (v:=u27) fun BP Bx C9 Cv _=> ?_
   subst Cv
   refine zf (cs:= [_]) rfl rfl rfl (by decide) rfl fun i28=> ?_
   refine Z 8 J (zI J J J ?_)
   have UI:n=0:=by have:=QN;simp only [List.length_map,List.length_range]at this;omega
   subst UI
   have HY:ls= []:=List.eq_nil_of_length_eq_zero (by omega)
   have hE:ZN ls= [wI [0,0,13,0,17,0]]:=if_pos HY
   rw [hE]
   exact⟨_,rfl,Sub.trans (M:=z3 zC i28 [(z0.slice BP (wI [0,0,13,0,17,0]).length Bx C9)]::z3 (zX qs 4) (z0.slice BP (wI [0,0,13,0,17,0]).length Bx C9) (wI [0,0,13,0,17,0])::z3 (jZ gH 1) cv ((List.range ls.length).map vs)::z3 (zL na) 0 (List.range ls.length,fun q=>(vs q,ls.getD q []))::R) Y (Sub.trans pL (Sub.wU (Sub.qi (Qf (vs:=vs)) (Sub.refl _))))⟩
  refine Z 9 J (zI J J J ?_)
  have UI:n≠0:=by have:=QN;simp only [List.length_map,List.length_range]at this;omega
  have HY:ls≠ []:=fun e=>by subst e;simp at hn;omega
  have hmn:min 3 ls.length=n:=by omega
  have hE:ZN ls=(List.range n).map fun q=>wI (ls.getD q []):=by unfold ZN;rw [if_neg HY,hmn]
  rw [hE]
  exact⟨_,rfl,Sub.trans (M:=z3 (zX gH 1) ov ((List.range n).map ws)::z3 (zL Zy) 0 (List.range n,fun q=>(ws q,(fun q=>wI (ls.getD q [])) q))::z3 (jZ gH 1) cv ((List.range ls.length).map vs)::z3 (zL na) 0 (List.range ls.length,fun q=>(vs q,ls.getD q []))::R) Y (Sub.trans U9 (Sub.wU (Sub.qi (Qf (vs:=vs)) (Sub.refl _))))⟩
 refine Z 7 J (Or.inr ⟨nofun,?_⟩)
 refine OX 4 J (qJ rfl (fun _ h=>yI rfl rfl rfl rfl rfl h) ?_)
 refine Z 1 J (z5 (fun QN=> ?_) (fun QN=> ?_))
 ·refine Z 3 J (zf (cs:= [_,_,_,_,_,_]) rfl rfl rfl (by decide) rfl fun i26=> ?_)
  refine zd (Sub.one (K:=zC) (a:=i26) (K2:=jZ ye 1) (a2:= .slice (some (i26,0)) 6 (some 6) 1) (x2:= [0,0,13,0,17,0]) (Yy (l:= [0,0,13,0,17,0]))) ?_
  refine yY (ly _ (.slice (some (i26,0)) 6 (some 6) 1) [0,0,13,0,17,0] (by decide)) rfl (fun _=>rfl) ?_
  rintro u27 _ rfl
  refine yW (v:=u27) fun BP Bx C9 Cv _=> ?_
  subst Cv
  refine zf (cs:= [_]) rfl rfl rfl (by decide) rfl fun i28=> ?_
  refine Z 8 J (zI J J J ?_)
  have UI:n=0:=by have:=QN;simp only [List.length_map,List.length_range]at this;omega
  subst UI
  have HY:ls= []:=List.eq_nil_of_length_eq_zero (by omega)
  have hE:ZN ls= [wI [0,0,13,0,17,0]]:=if_pos HY
  rw [hE]
  exact⟨_,rfl,Sub.trans (M:=z3 zC i28 [(z0.slice BP (wI [0,0,13,0,17,0]).length Bx C9)]::z3 (zX qs 4) (z0.slice BP (wI [0,0,13,0,17,0]).length Bx C9) (wI [0,0,13,0,17,0])::z3 (jZ gH 1) cv ((List.range ls.length).map vs)::z3 (zL na) 0 (List.range ls.length,fun q=>(vs q,ls.getD q []))::R) Y (Sub.trans pL (Sub.wU (Sub.qi (Qf (vs:=vs)) (Sub.refl _))))⟩
 refine Z 9 J (zI J J J ?_)
 have UI:n≠0:=by have:=QN;simp only [List.length_map,List.length_range]at this;omega
 have HY:ls≠ []:=fun e=>by subst e;simp at hn;omega
 have hmn:min 3 ls.length=n:=by omega
 have hE:ZN ls=(List.range n).map fun q=>wI (ls.getD q []):=by unfold ZN;rw [if_neg HY,hmn]
 rw [hE]
 exact⟨_,rfl,Sub.trans (M:=z3 (zX gH 1) ov ((List.range n).map ws)::z3 (zL Zy) 0 (List.range n,fun q=>(ws q,(fun q=>wI (ls.getD q [])) q))::z3 (jZ gH 1) cv ((List.range ls.length).map vs)::z3 (zL na) 0 (List.range ls.length,fun q=>(vs q,ls.getD q []))::R) Y (Sub.trans U9 (Sub.wU (Sub.qi (Qf (vs:=vs)) (Sub.refl _))))⟩
structure Jx where
 d:Int
 p:Int
 a:Int
 b:Int
 c:Int
abbrev LD (x:Jx):List z0:= [vi x.d,vi x.p,vi x.a,vi x.b,vi x.c]
def jN (x zE:Int):Jx:=
 if within x 32<20 then⟨1,within (x.tdiv 32) zE,0,0,0⟩
 else if within x 32<22 then⟨2,within (x.tdiv 32) zE,0,0,0⟩
 else if within x 32=22 then⟨3,within (x.tdiv 32) zE,within (x.tdiv 64) 520,0,0⟩
 else if within x 32=23 then⟨4,within (x.tdiv 32) zE,within (x.tdiv 64) 9,0,0⟩
 else if within x 32<27 then⟨5,within (x.tdiv 32) zE,within (x.tdiv 64) 5,within (x.tdiv 512) 9,0⟩
 else if within x 32<30 then⟨6,within (x.tdiv 32) zE,pk [2056,2057,8,0,10,3584,16,41] (within (x.tdiv 64) 8),within (x.tdiv 512) 5*8,within (x.tdiv 64) 65⟩
 else if within x 32=30 then⟨6,within (x.tdiv 32) zE,within (x.tdiv 64) 4200,within (x.tdiv 512) 4200,within x 70-3⟩
 else⟨within (x.tdiv 64) 9,within (x.tdiv 32) 4-1,x.tmod 100,x.tmod 7,0⟩
def QI (out:List Jx) (a:Jx) (y0:Int):Nat→List Jx
 |0=>out
 |n+1=>if((QI out a y0 n).length:Int)<y0-1 then QI out a y0 n++ [a]else QI out a y0 n
def QG (out:List Jx) (x zE y0:Int):List Jx:=if within x 32<20 then QI out (jN x zE) y0 (within (x.tdiv 64) 6).toNat else out
def yX (l:List Int) (zE y0:Int):Nat→List Jx
 |0=> []
 |n+1=>if((yX l zE y0 n).length:Int)<y0 then QG (yX l zE y0 n) (l.getD n 0) zE y0++ [jN (l.getD n 0) zE]else yX l zE y0 n
def pD (l:List Int) (zE y0:Int):List Jx:=yX l zE y0 l.length
theorem JA (out:List Jx) (a:Jx) (y0:Int) (n:Nat):QI out a y0 (n+1)=if((QI out a y0 n).length:Int)<y0-1 then QI out a y0 n++ [a]else QI out a y0 n:=rfl
theorem JN (l:List Int) (zE y0:Int) (n:Nat):yX l zE y0 (n+1)=if((yX l zE y0 n).length:Int)<y0 then QG (yX l zE y0 n) (l.getD n 0) zE y0++ [jN (l.getD n 0) zE]else yX l zE y0 n:=rfl
theorem AF {out:List Jx} {a:Jx} {y0:Int} {n:Nat} (h: ¬((QI out a y0 n).length:Int)<y0-1): ∀k,QI out a y0 (n+k)=QI out a y0 n:=by
 intro k
 induction k with
 |zero=>rfl
 |succ k ih=>
  rw [show n+(k+1)=(n+k)+1 from rfl,JA,ih,if_neg h]
theorem rY {out:List Jx} {a:Jx} {y0:Int} : ∀n,((QI out a y0 n).length:Int)≤max (out.length:Int) (y0-1):=by
 intro n
 induction n with
 |zero=>show(out.length:Int)≤_;omega
 |succ n ih=>
  unfold QI
  split
  ·rw [List.length_append];simp only [List.length_cons,List.length_nil];omega
  exact ih
theorem rU {out:List Jx} {x zE y0:Int} :((QG out x zE y0).length:Int)≤max (out.length:Int) (y0-1):=by
 unfold QG
 split
 ·exact rY _
 omega
theorem Io {out:List Jx} {a:Jx} {y0:Int} : ∀n,out.length≤(QI out a y0 n).length:=by
 intro n
 induction n with
 |zero=>exact Nat.le_refl _
 |succ n ih=>
  rw [JA]
  split
  ·rw [List.length_append];omega
  exact ih
theorem Ib {out:List Jx} {x zE y0:Int} :out.length≤(QG out x zE y0).length:=by
 unfold QG
 split
 ·exact Io _
 omega
theorem nk {l:List Int} {zE y0:Int} {n:Nat} (h: ¬((yX l zE y0 n).length:Int)<y0): ∀k,yX l zE y0 (n+k)=yX l zE y0 n:=by
 intro k
 induction k with
 |zero=>rfl
 |succ k ih=>
  rw [show n+(k+1)=(n+k)+1 from rfl,JN,ih,if_neg h]
theorem xM {l:List Int} {zE y0:Int} (hm:0≤y0): ∀n,((yX l zE y0 n).length:Int)≤y0:=by
 intro n
 induction n with
 |zero=>exact hm
 |succ n ih=>
  unfold yX
  split
  ·have:=rU (out:=yX l zE y0 n) (x:=l.getD n 0) (zE:=zE) (y0:=y0)
   rw [List.length_append];simp only [List.length_cons,List.length_nil];omega
  exact ih
set_option maxHeartbeats 1000000 in
theorem MO (R:List SP) (v:z0) (l:List Int) (hl: ∀z,z ∈ l→jz z) (zE y0:Int) (hc:1≤zE∧zE≤1000) (hm:0≤y0∧y0≤1000):yH 35 [v,vi zE,vi y0] (z3 (jZ ye 1) v l::R) fun w L2=>L2=z3 (zX LD 5) w (pD l zE y0)::z3 (jZ ye 1) v l::R:=by
 refine SW.intro rfl Tryz.func35 rfl ?_
 refine O0 18 J (yE (Sub.jF (en:=LD) (es:=5) (fun _=>rfl) (by decide) 0 _) ?_)
 refine zy (fun j T LZ=> ∃(i:Nat) (ov:z0),(i≤l.length∧i≤(yX l zE y0 i).length)∧j=l.length-i∧T.len=10∧Tm.get 0 T=some (v)∧Tm.get 1 T=some (vi zE)∧Tm.get 2 T=some (vi y0)∧Tm.get 7 T=some (.func 15 [] [])∧Tm.get 8 T=some (ov)∧Tm.get 9 T=some (vi (i:Nat))∧Sub LZ (z3 (zX LD 5) ov (yX l zE y0 i)::z3 (jZ ye 1) v l::R)) (l.length) ⟨0,.slice none 0 (some 0) 0,⟨Nat.zero_le _,Nat.zero_le _⟩,by omega,rfl,rfl,rfl,rfl,rfl,rfl,rfl,(by exact Sub.refl _)⟩ ?_
 rintro j T L0 ⟨i,ov,hi,rfl,hl,g0,g1,g2,g7,g8,g9,yU⟩
 obtain⟨tg,rfl⟩:=I4 hl g0 g1 g2 g7 g8 g9
 clear hl g0 g1 g2 g7 g8 g9
 refine yE yU ?_
 clear yU L0
 refine O0 5 J (qJ rfl (fun _ h=>cY ye 1 rfl rfl rfl rfl rfl h) ?_)
 refine Z 1 J (z5 (fun Q9=> ?_) (fun Q9=> ?_))
 ·refine Z 2 J (qJ rfl (fun _ h=>yI rfl rfl rfl rfl rfl h) ?_)
  refine Z 2 J (z5 (fun Aw=> ?_) (fun Aw=> ?_))
  ·have FP:i<l.length:=by omega
   obtain⟨x,hx⟩: ∃x,l[i]? =some x:=⟨_,List.getElem?_eq_getElem FP⟩
   have jy:jz x:=hl x (List.mem_of_getElem? hx)
   have S6:l.getD i 0=x:=by rw [List.getD_eq_getElem?_getD,hx];rfl
   have XT:=Ib (out:=yX l zE y0 i) (x:=x) (zE:=zE) (y0:=y0)
   have hao:=xM (l:=l) (zE:=zE) hm.1 i
   refine Z 10 J (qJ rfl (fun _ h=>W6 ye 1 rfl rfl rfl (by omega) (by omega) h) ?_)
   refine qJ rfl (fun _ h=>gM ye 1 (j:=0) rfl rfl rfl hx rfl h) ?_
   refine Z 6 J (zo rfl (fun _=>zG rfl rfl rfl (yn (by assumption) (by omega))) ?_)
   refine Z 1 J (Z0 (vg _ _ _ (by omega)) J ?_)
   have z25:=y4 (v:=x.tdiv 32) (n:=zE) (by omega)
   refine bu [_,_,_,_,_] J Y Y J (zn rfl rfl rfl fun i11=> ?_)
   refine sN J Y Y J J J (Z 1 J (Bc (fun T LZ=> ∃(ob:z0),T.len=10∧Tm.get 0 T=some (v)∧Tm.get 1 T=some (vi zE)∧Tm.get 2 T=some (vi y0)∧Tm.get 7 T=some (.func 15 [] [])∧Tm.get 9 T=some (vi (i:Nat))∧Tm.get 8 T=some (ob)∧Tm.get 11 T=some (vp i11 0)∧Sub LZ (z3 zC i11 (LD (jN x zE))::z3 (zX LD 5) ob (QG (yX l zE y0 i) x zE y0)::z3 (jZ ye 1) v l::R)) ?_ ?_))
   ·refine O0 4 J ?_
    have z90:=y4 (v:=x) (n:=32) (by decide)
    refine Z0 (vg _ _ _ (by omega)) J (Z 7 J (z5 (fun Ay=> ?_) (fun Ay=> ?_)))
    ·refine Z 5 J (fa J Y (sO J Y J J J (Z 6 J (zy (fun j T LZ=> ∃(n:Nat) (oq:z0),(n≤(within (x.tdiv 64) 6).toNat)∧j=(within (x.tdiv 64) 6).toNat-n∧T.len=10∧Tm.get 0 T=some (v)∧Tm.get 1 T=some (vi zE)∧Tm.get 2 T=some (vi y0)∧Tm.get 7 T=some (.func 15 [] [])∧Tm.get 9 T=some (vi (i:Nat))∧Tm.get 8 T=some (oq)∧Tm.get 10 T=some (vi x)∧Tm.get 11 T=some (vp i11 0)∧Tm.get 12 T=some (vi (within x 32))∧Tm.get 13 T=some (vi (n:Nat))∧Sub LZ (z3 zC i11 [vi 1,vi (within (x.tdiv 32) zE),vi 0,vi 0,vi 0]::z3 (zX LD 5) oq (QI (yX l zE y0 i) ⟨1,within (x.tdiv 32) zE,0,0,0⟩ y0 n)::z3 (jZ ye 1) v l::R)) ((within (x.tdiv 64) 6).toNat) ⟨0,ov,by omega,by omega,rfl,rfl,rfl,rfl,rfl,rfl,rfl,rfl,rfl,rfl,rfl,(show Px.Sub _ (z3 zC i11 [vi 1,vi (within (x.tdiv 32) zE),vi 0,vi 0,vi 0]::z3 (zX LD 5) ov (yX l zE y0 i)::z3 (jZ ye 1) v l::R)from Y)⟩ ?_))))
     rintro j T L0 ⟨n,oq,hnw,rfl,hl,g0,g1,g2,g7,g9,g8,YL,kA,iN,mv,yU⟩
     obtain⟨tg,rfl⟩:=Ni hl g0 g1 g2 g7 g9 g8 YL kA iN mv
     clear hl g0 g1 g2 g7 g9 g8 YL kA iN mv
     refine yE yU ?_
     clear yU L0
     have Jf:=rY (out:=yX l zE y0 i) (a:=⟨1,within (x.tdiv 32) zE,0,0,0⟩) (y0:=y0) n
     have hw6:=y4 (v:=x.tdiv 64) (n:=6) (by decide)
     refine O0 6 J (zo rfl (fun _=>zG rfl rfl rfl (yn (by assumption) (by omega))) ?_)
     refine Z0 (vg _ _ _ (by omega)) J ?_
     have z92:=y4 (v:=x.tdiv 64) (n:=6) (by decide)
     refine Z 1 J (z5 (fun h62=> ?_) (fun h62=> ?_))
     ·refine Z 2 J (qJ rfl (fun _ h=>yI rfl rfl rfl rfl rfl h) ?_)
      refine Z 1 J (sb J (Z 1 J (z5 (fun HJ=> ?_) (fun HJ=> ?_))))
      ·refine Z 8 J (lN J Y Y J J (zf (cs:= [_,_,_,_,_]) rfl rfl rfl (by decide) rfl fun i74=> ?_))
       refine ZQ rfl rfl rfl rfl rfl rfl rfl ([Jx.mk 1 (within (x.tdiv 32) zE) 0 0 0]) rfl rfl (by simp) (by omega) rfl fun i75 q75 c75=> ?_
       refine Z 4 J (ad J (Z 2 J ?_))
       have Sa:QI (yX l zE y0 i) ⟨1,within (x.tdiv 32) zE,0,0,0⟩ y0 (n+1)=(QI (yX l zE y0 i) ⟨1,within (x.tdiv 32) zE,0,0,0⟩ y0 n)++ [⟨1,within (x.tdiv 32) zE,0,0,0⟩]:=if_pos (by omega)
       exact Or.inl ⟨rfl,_,by omega,n+1,_,by omega,rfl,rfl,rfl,rfl,rfl,rfl,rfl,rfl,rfl,rfl,rfl,rfl,(by rw [Sa];exact Y)⟩
      refine Z 4 J (Or.inr ⟨nofun,?_⟩)
      have dN:jN x zE=⟨1,within (x.tdiv 32) zE,0,0,0⟩:=by unfold jN;rw [if_pos (by omega)]
      have nY:QG (yX l zE y0 i) x zE y0=QI (yX l zE y0 i) ⟨1,within (x.tdiv 32) zE,0,0,0⟩ y0 n:=by
       unfold QG
       rw [if_pos (by omega),dN]
       obtain⟨q,hq⟩: ∃q,(within (x.tdiv 64) 6).toNat=n+q:=⟨(within (x.tdiv 64) 6).toNat-n,by omega⟩
       rw [hq]
       exact AF (by omega) q
      exact⟨oq,rfl,rfl,rfl,rfl,rfl,rfl,rfl,rfl,(by rw [dN,nY];exact Y)⟩
     refine Z 10 J (Or.inr ⟨nofun,?_⟩)
     have dN:jN x zE=⟨1,within (x.tdiv 32) zE,0,0,0⟩:=by unfold jN;rw [if_pos (by omega)]
     have nY:QG (yX l zE y0 i) x zE y0=QI (yX l zE y0 i) ⟨1,within (x.tdiv 32) zE,0,0,0⟩ y0 n:=by
      unfold QG
      rw [if_pos (by omega),dN]
      rw [show(within (x.tdiv 64) 6).toNat=n by omega]
     exact⟨oq,rfl,rfl,rfl,rfl,rfl,rfl,rfl,rfl,(by rw [dN,nY];exact Y)⟩
    refine Z 7 J (z5 (fun h78=> ?_) (fun h78=> ?_))
    ·refine Z 4 J (fa J Y (sO J Y J J J (Z 1 J ?_)))
     have dN:jN x zE=⟨2,within (x.tdiv 32) zE,0,0,0⟩:=by unfold jN;rw [if_neg (by omega),if_pos (by omega)]
     have nY:QG (yX l zE y0 i) x zE y0=yX l zE y0 i:=if_neg (by omega)
     exact⟨ov,rfl,rfl,rfl,rfl,rfl,rfl,rfl,rfl,(by rw [dN,nY];exact Y)⟩
    refine Z 7 J (z5 (fun h82=> ?_) (fun h82=> ?_))
    ·refine Z 6 J (zo rfl (fun _=>zG rfl rfl rfl (yn (by assumption) (by omega))) ?_)
     refine Z0 (vg _ _ _ (by omega)) J (fa J Y (sO J Y J J J (fa J Y (sO J Y J J J (Z 1 J ?_)))))
     have dN:jN x zE=⟨3,within (x.tdiv 32) zE,within (x.tdiv 64) 520,0,0⟩:=by unfold jN;rw [if_neg (by omega),if_neg (by omega),if_pos (by omega)]
     have nY:QG (yX l zE y0 i) x zE y0=yX l zE y0 i:=if_neg (by omega)
     exact⟨ov,rfl,rfl,rfl,rfl,rfl,rfl,rfl,rfl,(by rw [dN,nY];exact Y)⟩
    refine Z 7 J (z5 (fun h91=> ?_) (fun h91=> ?_))
    ·refine Z 6 J (zo rfl (fun _=>zG rfl rfl rfl (yn (by assumption) (by omega))) ?_)
     refine Z0 (vg _ _ _ (by omega)) J (fa J Y (sO J Y J J J (fa J Y (sO J Y J J J (Z 1 J ?_)))))
     have dN:jN x zE=⟨4,within (x.tdiv 32) zE,within (x.tdiv 64) 9,0,0⟩:=by unfold jN;rw [if_neg (by omega),if_neg (by omega),if_neg (by omega),if_pos (by omega)]
     have nY:QG (yX l zE y0 i) x zE y0=yX l zE y0 i:=if_neg (by omega)
     exact⟨ov,rfl,rfl,rfl,rfl,rfl,rfl,rfl,rfl,(by rw [dN,nY];exact Y)⟩
    refine Z 7 J (z5 (fun z03=> ?_) (fun z03=> ?_))
    ·refine Z 6 J (zo rfl (fun _=>zG rfl rfl rfl (yn (by assumption) (by omega))) ?_)
     refine Z0 (vg _ _ _ (by omega)) J (Z 2 J (zo rfl (fun _=>zG rfl rfl rfl (yn (by assumption) (by omega))) ?_))
     refine Z0 (vg _ _ _ (by omega)) J (fa J Y (sO J Y J J J (fa J Y (sO J Y J J J (fa J Y (sO J Y J J J (Z 1 J ?_)))))))
     have dN:jN x zE=⟨5,within (x.tdiv 32) zE,within (x.tdiv 64) 5,within (x.tdiv 512) 9,0⟩:=by unfold jN;rw [if_neg (by omega),if_neg (by omega),if_neg (by omega),if_neg (by omega),if_pos (by omega)]
     have nY:QG (yX l zE y0 i) x zE y0=yX l zE y0 i:=if_neg (by omega)
     exact⟨ov,rfl,rfl,rfl,rfl,rfl,rfl,rfl,rfl,(by rw [dN,nY];exact Y)⟩
    refine Z 7 J (z5 (fun z04=> ?_) (fun z04=> ?_))
    ·refine Z 3 J (zW [0,0,0,4,14,31,63,0,0,256,926,1950,0,0,8192,30622,0,128926,260095,522239,1048575,2097151,4194303,8388607] [([0,1,2,3,7,8,9,12,13,14,16],[3,9,14],some 4),([5,6],[9,14,6],some 10),([11],[14,6,11],some 15),([],[6,11],some 17),([18],[6,11],some 19),([20],[11],some 21),([22],[],some 23),([],[],none)] (by kernel_rfl) ?_)
     refine z7 (uy (cs:= [_,_,_,_,_,_,_,_]) rfl rfl rfl (by decide) rfl fun i115=> ?_)
     refine ZK 2 J (uc rfl (fun _=>zG rfl rfl rfl (yn (by assumption) (by omega))) ?_)
     refine ZK 2 J (uc rfl (fun _=>zG rfl rfl rfl (yn (by assumption) (by omega))) ?_)
     refine ZK 2 J (uc rfl (fun _=>zG rfl rfl rfl (yn (by assumption) (by omega))) ?_)
     refine zx J Y (z8 ⟨(uR rfl (fun _=>zG rfl rfl rfl (yn (by assumption) (by omega))) rfl rfl (z6 _ rfl) (uR rfl (fun _=>zG rfl rfl rfl (yn (by assumption) (by omega))) rfl rfl (z6 _ rfl) (uR rfl (fun _=>zG rfl rfl rfl (yn (by assumption) (by omega))) rfl rfl (z6 _ rfl) z9))),?_⟩)
     refine Z0 (vg _ _ _ (by omega)) J (zd (Sub.one (K:=zC) (a:=i115) (K2:=jZ ye 1) (a2:= .slice (some (i115,0)) 8 (some 8) 1) (x2:= [2056,2057,8,0,10,3584,16,41]) (Yy (l:= [2056,2057,8,0,10,3584,16,41]))) ?_)
     have e6:=y4 (v:=x.tdiv 64) (n:=8) (by decide)
     have fy:=GD (l:= [2056,2057,8,0,10,3584,16,41]) (k:=within (x.tdiv 64) 8) ⟨e6.1,e6.2⟩
     refine zJ (z7 (jM rfl (fun _ h=>W6 ye 1 rfl rfl rfl e6.1 (by exact e6.2) h) ?_))
     refine jM rfl (fun _ h=>gM ye 1 (j:=0) rfl rfl rfl fy rfl h) ?_
     refine z8 ⟨(uR rfl (fun _=>zG rfl rfl rfl (yn (by assumption) (by omega))) rfl rfl (z6 _ rfl) (uR rfl (fun _=>zG rfl rfl rfl (yn (by assumption) (by omega))) rfl rfl (z6 _ rfl) (va rfl (fun _ h=>gM ye 1 (j:=0) rfl rfl rfl fy rfl h) rfl rfl (z6 _ rfl) z9))),?_⟩
     refine Z0 (vg _ _ _ (by omega)) J ?_
     have z5C:=y4 (v:=x.tdiv 512) (n:=5) (by decide)
     refine zJ (z7 (uc rfl (fun _=>zG rfl rfl rfl (gm (by omega))) ?_))
     refine z8 ⟨(uR rfl (fun _=>zG rfl rfl rfl (yn (by assumption) (by omega))) rfl rfl (z6 _ rfl) (va rfl (fun _ h=>gM ye 1 (j:=0) rfl rfl rfl fy rfl h) rfl rfl (z6 _ rfl) (uR rfl (fun _=>zG rfl rfl rfl (gm (by omega))) rfl rfl (z6 _ rfl) z9))),?_⟩
     refine Z0 (vg _ _ _ (by omega)) J (zJ (z7 (z8 ⟨(va rfl (fun _ h=>gM ye 1 (j:=0) rfl rfl rfl fy rfl h) rfl rfl (z6 _ rfl) (uR rfl (fun _=>zG rfl rfl rfl (gm (by omega))) rfl rfl (z6 _ rfl) z9)),?_⟩)))
     refine sO J Y J J J (zJ (z7 (zx J Y (z8 ⟨(va rfl (fun _ h=>gM ye 1 (j:=0) rfl rfl rfl fy rfl h) rfl rfl (z6 _ rfl) (uR rfl (fun _=>zG rfl rfl rfl (gm (by omega))) rfl rfl (z6 _ rfl) z9)),?_⟩))))
     refine sO J Y J J J (zJ (z7 (zx J Y (z8 ⟨(uR rfl (fun _=>zG rfl rfl rfl (gm (by omega))) rfl rfl (z6 _ rfl) z9),?_⟩))))
     refine sO J Y J J J (zJ (z7 (zx J Y (z8 ⟨z9,?_⟩))))
     refine sO J Y J J J (zJ (z7 (z8 ⟨z9,?_⟩)))
     have dN:jN x zE=⟨6,within (x.tdiv 32) zE,pk [2056,2057,8,0,10,3584,16,41] (within (x.tdiv 64) 8),within (x.tdiv 512) 5*8,within (x.tdiv 64) 65⟩:=by unfold jN;rw [if_neg (by omega),if_neg (by omega),if_neg (by omega),if_neg (by omega),if_neg (by omega),if_pos (by omega)]
     have nY:QG (yX l zE y0 i) x zE y0=yX l zE y0 i:=if_neg (by omega)
     exact⟨ov,rfl,rfl,rfl,rfl,rfl,rfl,rfl,rfl,(by rw [dN,nY];exact Y)⟩
    refine Z 7 J (z5 (fun z0A=> ?_) (fun z0A=> ?_))
    ·refine Z 6 J (zo rfl (fun _=>zG rfl rfl rfl (yn (by assumption) (by omega))) ?_)
     refine Z0 (vg _ _ _ (by omega)) J (Z 2 J (zo rfl (fun _=>zG rfl rfl rfl (yn (by assumption) (by omega))) ?_))
     refine Z0 (vg _ _ _ (by omega)) J (Z 2 J (Z0 (vg _ _ _ (by omega)) J ?_))
     have z5D:=y4 (v:=x) (n:=70) (by decide)
     refine sb J (fa J Y (sO J Y J J J (fa J Y (sO J Y J J J (fa J Y (sO J Y J J J (fa J Y (sO J Y J J J (Z 1 J ?_)))))))))
     have dN:jN x zE=⟨6,within (x.tdiv 32) zE,within (x.tdiv 64) 4200,within (x.tdiv 512) 4200,within x 70-3⟩:=by unfold jN;rw [if_neg (by omega),if_neg (by omega),if_neg (by omega),if_neg (by omega),if_neg (by omega),if_neg (by omega),if_pos (by omega)]
     have nY:QG (yX l zE y0 i) x zE y0=yX l zE y0 i:=if_neg (by omega)
     exact⟨ov,rfl,rfl,rfl,rfl,rfl,rfl,rfl,rfl,(by rw [dN,nY];exact Y)⟩
    refine Z 6 J (zo rfl (fun _=>zG rfl rfl rfl (yn (by assumption) (by omega))) ?_)
    refine Z0 (vg _ _ _ (by omega)) J (Z 2 J (zo rfl (fun _=>zG rfl rfl rfl (yn (by assumption) (by omega))) ?_))
    refine Z0 (vg _ _ _ (by omega)) J ?_
    have z91:=y4 (v:=x.tdiv 32) (n:=4) (by decide)
    refine sb J (Z 1 J (zo rfl (fun _=>zG rfl rfl rfl (Zw (by omega))) ?_))
    refine Z 1 J (zo rfl (fun _=>zG rfl rfl rfl (Zw (by omega))) ?_)
    refine bu [_,_,_,_,_] J Y Y J (sN J Y Y J J J (Z 1 J ?_))
    have dN:jN x zE=⟨within (x.tdiv 64) 9,within (x.tdiv 32) 4-1,x.tmod 100,x.tmod 7,0⟩:=by unfold jN;rw [if_neg (by omega),if_neg (by omega),if_neg (by omega),if_neg (by omega),if_neg (by omega),if_neg (by omega),if_neg (by omega)]
    have nY:QG (yX l zE y0 i) x zE y0=yX l zE y0 i:=if_neg (by omega)
    exact⟨ov,rfl,rfl,rfl,rfl,rfl,rfl,rfl,rfl,(by rw [dN,nY];exact Y)⟩
   rintro T L0 ⟨ob,hl,g0,g1,g2,g7,g9,g8,kA,yU⟩
   obtain⟨tg,rfl⟩:=Xd hl g0 g1 g2 g7 g9 g8 kA
   clear hl g0 g1 g2 g7 g9 g8 kA
   refine yE yU ?_
   clear yU L0
   have Ub:=rU (out:=yX l zE y0 i) (x:=x) (zE:=zE) (y0:=y0)
   refine O 2 J (lN J Y Y J J (zf (cs:= [_,_,_,_,_]) rfl rfl rfl (by decide) rfl fun i156=> ?_))
   refine ZQ rfl rfl rfl rfl rfl rfl rfl ([jN x zE]) rfl rfl (by simp) (by omega) rfl fun i157 z9F z6I=> ?_
   refine Z 4 J (ad J (Z 2 J ?_))
   have has:yX l zE y0 (i+1)=QG (yX l zE y0 i) x zE y0++ [jN x zE]:=by show(if _ then _ else _)=_;rw [S6,if_pos (by omega)]
   exact Or.inl ⟨rfl,_,by omega,i+1,_,⟨by omega,by rw [has,List.length_append];simp only [List.length_cons,List.length_nil];omega⟩,rfl,rfl,rfl,rfl,rfl,rfl,rfl,rfl,(by rw [has];exact Y)⟩
  refine Z 4 J (Or.inr ⟨nofun,?_⟩)
  refine OX 6 J (zI J J J ?_)
  have hE:pD l zE y0=yX l zE y0 i:=by
   unfold pD
   obtain⟨q,hq⟩: ∃q,l.length=i+q:=⟨l.length-i,by omega⟩
   rw [hq]
   exact nk (by omega) q
  rw [hE]
  exact⟨_,rfl,Y⟩
 refine Z 9 J (Or.inr ⟨nofun,?_⟩)
 refine OX 6 J (zI J J J ?_)
 have hE:pD l zE y0=yX l zE y0 i:=by
  unfold pD
  obtain⟨q,hq⟩: ∃q,l.length=i+q:=⟨l.length-i,by omega⟩
  rw [hq]
  rw [show q=0 by omega];rfl
 rw [hE]
 exact⟨_,rfl,Y⟩
theorem oe {fr zE:Int} {zM inv:Bool} {sec:List Nat} {cs:List (List qG)} {e:Int} {S:KS} (h:Zx fr zE zM inv sec cs=(e,some S)):
 e=0∧S.yv 1∧S.Q.n=zE.toNat∧S.N.gen≤3*zE.toNat∧ ∀d,d<zE.toNat→S.Rt d:=by
 unfold Zx at h
 split at h
 ·cases h
 rename_i hb
 split at h
 ·cases h
 rename_i hg
 have hb:wh fr zE=true:=by cases hx:wh fr zE with|true=>rfl|false=>exact absurd hx hb
 have hbd:=aX hb
 have hl:cs.length≤4:=by rcases Nat.lt_or_ge 4 cs.length with h1|h1;exact absurd (.inl h1) hg;exact h1
 have hc: ∀c,c ∈ cs→codeOk c=true:=fun c hm=>by cases h1:codeOk c with|true=>rfl|false=>exact absurd (.inr (List.any_eq_true.2 ⟨c,hm,by rw [h1];rfl⟩)) hg
 split at h
 ·cases h
 rename_i T hT
 cases h
 obtain⟨h1,h2,h3⟩:=fB ⟨hbd.1,hbd.2.1⟩ cs hl hc hT
 obtain⟨h4,h5,h6⟩:=JF h1 zE.toNat (by omega)
 exact⟨rfl,h4,h6.trans h3,by omega,EI h1 zE.toNat (by omega)⟩
theorem od {fr zE:Int} {zM inv:Bool} {sec:List Nat} {cs:List (List qG)} {e:Int} (h:Zx fr zE zM inv sec cs=(e,none)):e≠0:=by
 unfold Zx at h
 split at h
 ·cases h;decide
 split at h
 ·cases h;decide
 split at h
 ·cases h;decide
 cases h
theorem pK (ls:List (List Int)):(ZN ls).length≤3∧ ∀j,((ZN ls).getD j []).length≤24:=by
 unfold ZN
 split
 ·refine⟨by simp,fun j=> ?_⟩
  cases j with
  |zero=>exact U8 _ _
  |succ j=>simp
 refine⟨by simp;omega,fun j=> ?_⟩
 rw [List.getD_eq_getElem?_getD,List.getElem?_map]
 cases h:(List.range (min 3 ls.length))[j]? with
 |none=>simp
 |some q=>exact U8 _ _
theorem Dt {P:Jx→Prop} {out:List Jx} {a:Jx} {y0:Int} (ho: ∀x,x ∈ out→P x) (ha:P a): ∀n x,x ∈ QI out a y0 n→P x:=by
 intro n
 induction n with
 |zero=>exact ho
 |succ n ih=>
  intro x hx
  rw [JA]at hx
  split at hx
  ·rcases List.mem_append.1 hx with h|h
   ·exact ih x h
   rw [List.mem_singleton.1 h];exact ha
  exact ih x hx
theorem BG {P:Jx→Prop} {l:List Int} {zE y0:Int} (hP: ∀x,P (jN x zE)): ∀n x,x ∈ yX l zE y0 n→P x:=by
 intro n
 induction n with
 |zero=>intro x h;cases h
 |succ n ih=>
  intro x hx
  rw [JN]at hx
  split at hx
  ·rcases List.mem_append.1 hx with h|h
   ·unfold QG at h
    split at h
    ·exact Dt ih (hP _) _ x h
    exact ih x h
   rw [List.mem_singleton.1 h];exact hP _
  exact ih x hx
theorem Fh (x zE:Int) (hc:0<zE):(jN x zE).a≤9223372036854775807∧(jN x zE).b≤9223372036854775807:=by
 have w1:=y4 (v:=x.tdiv 64) (n:=520) (by decide)
 have w2:=y4 (v:=x.tdiv 64) (n:=9) (by decide)
 have w3:=y4 (v:=x.tdiv 64) (n:=5) (by decide)
 have w4:=y4 (v:=x.tdiv 512) (n:=9) (by decide)
 have w5:=y4 (v:=x.tdiv 512) (n:=5) (by decide)
 have w6:=y4 (v:=x.tdiv 64) (n:=4200) (by decide)
 have w7:=y4 (v:=x.tdiv 512) (n:=4200) (by decide)
 have w8:=nE (v:=x) (n:=100) (by decide)
 have w9:=nE (v:=x) (n:=7) (by decide)
 have p1:=Lp (l:= [2056,2057,8,0,10,3584,16,41]) (k:=within (x.tdiv 64) 8) (fun x=>0≤x∧x≤3584) (by decide) (y4 (by decide))
 unfold jN
 iterate 7 refine Le (fun a:Jx=>a.a≤9223372036854775807∧a.b≤9223372036854775807) (fun _=>by constructor<;>dsimp only<;>omega) fun _=> ?_
 constructor<;>dsimp only<;>omega
theorem oN (R:List SP):yH 22 [] R fun w L2=>w= .bool true∧L2=R:=SW.tF (g:=Wq) rfl fun H hH=>⟨_,H,rfl,R,⟨rfl,rfl⟩,hH⟩
section
variable {R:List SP} {k:Nat} {L:KL} {S:KS}
theorem tK (z:Int) (h:0≤z∧z<S.Q.n):yH 26 [vp k 0,vi z] (z3 yA k (L,S)::R) fun w L2=>w=vp (L.c z.toNat) 0∧L2=z3 yA k (L,S)::R:=
 (Nf R k L S z).mono fun w L2 ⟨h1,h2⟩=>⟨by rw [h1,if_pos h],h2⟩
theorem eO (z:Int) (h:0≤z∧z<S.Q.n):yH 27 [vp (L.c z.toNat) 0] (z3 yA k (L,S)::R) fun w L2=>w=vp (L.u z.toNat) 0∧L2=z3 yA k (L,S)::R:=
 rB (c:=z.toNat) (by omega) fun R'=>Un R' _ _
theorem bC (z:Int) (h:0≤z∧z<S.Q.n):yH 36 [vp (L.u z.toNat) 0] (z3 yA k (L,S)::R) fun w L2=>w=vi (S.U z.toNat).root∧L2=z3 yA k (L,S)::R:=
 rC (c:=z.toNat) (by omega) fun R'=>oJ R' _ _
theorem bB (z:Int) (h:0≤z∧z<S.Q.n):yH 37 [vp (L.u z.toNat) 0] (z3 yA k (L,S)::R) fun w L2=>w=vi (S.U z.toNat).yC∧L2=z3 yA k (L,S)::R:=
 rC (c:=z.toNat) (by omega) fun R'=>oI R' _ _
theorem tM:yH 38 [vp L.n 0] (z3 yA k (L,S)::R) fun w L2=>w=vi S.N.gen∧L2=z3 yA k (L,S)::R:=D8 fun R'=>O2 R' _ _
theorem bD (z:Int) (hz:z<0):yH 39 [vp k 0,vi z] (z3 yA k (L,S)::R) fun w L2=>w= .tuple [.agg (YF (fun _=>0) (.slice none 0 (some 0) 0) 0),.bool false]∧L2=z3 yA k (L,S)::R:=
 ir R k L S z (by unfold KS.of;rw [if_neg (by omega)])
theorem bE (z:Int) (hz:0≤z) {x:qB} {b:Nat} (h:S.yv b) (hx:S.pr z.toNat=some x):yH 39 [vp k 0,vi z] (z3 yA k (L,S)::R) fun w L2=> ∃v,w= .tuple [.agg (YF x.w v x.pc),.bool true]∧L2=z3 (zX qs 4) v x.code::z3 yA k (L,S)::R:=by
 have e:=sA R k L S z.toNat x (h.lt hx) hx (by have:=(h.pr _ _ hx).code;omega)
 rw [show((z.toNat:Nat):Int)=z by omega]at e
 exact e
end
theorem iB {eq:z0→z0→Option Bool} {P:Program} {e:TypeId} {n:Nat} {xs:List z0} : ∀(k i:Nat),(∀j,j<k→ ∃a,Y9 P e xs ((i+j)*n)=some a∧eq a a=some true)→QY eq P e n xs xs k i=some true:=by
 intro k
 induction k with
 |zero=>intro i _;rfl
 |succ k ih=>
  intro i h
  obtain⟨a,h1,h2⟩:=h 0 (by omega)
  unfold QY
  rw [Nat.add_zero]at h1
  rw [h1]
  simp only [h2]
  exact ih (i+1) fun j hj=>by
   have:=h (j+1) (by omega)
   rw [show i+1+j=i+(j+1)by omega];exact this
theorem IF {P:Program} {F:zD} {H:Hp} {t:TypeId} {c:Bool} {cs ds:List z0} (h1:mh P t c (.agg cs) (.agg ds)=true) (h2:VA P F H 60 t (.agg cs) (.agg ds)=some true):vI P F H .neq t c (.agg cs) (.agg ds)=some (.bool false):=by
 show(bif mh P t c (.agg cs) (.agg ds)then(match VA P F H 60 t (.agg cs) (.agg ds)with
  |some b=>some (z0.bool (!b))
  |none=>none)else none)=_
 rw [h1,h2]
 rfl
theorem BN {H:Hp} {c:Bool} (w:Nat→Nat):vI Tryz.prog [] H .neq 68 c (.agg [vu (w 0),vu (w 1),vu (w 2),vu (w 3),vu (w 4),vu (w 5),vu (w 6),vu (w 7)]) (.agg [vu (w 0),vu (w 1),vu (w 2),vu (w 3),vu (w 4),vu (w 5),vu (w 6),vu (w 7)])=some (.bool false):=by
 have hu: ∀z:Nat,VA Tryz.prog [] H 59 32 (vu z) (vu z)=some true:=fun z=>by
  show SInt.eq [] (.lit (z:Int)) (.lit (z:Int))=some true
  show some (Z9 (z:Int) (z:Int))=some true
  rw [vy,decide_eq_true rfl]
 have he:VA Tryz.prog [] H 60 68 (.agg [vu (w 0),vu (w 1),vu (w 2),vu (w 3),vu (w 4),vu (w 5),vu (w 6),vu (w 7)]) (.agg [vu (w 0),vu (w 1),vu (w 2),vu (w 3),vu (w 4),vu (w 5),vu (w 6),vu (w 7)])=some true:=by
  show QY (VA Tryz.prog [] H 59 32) Tryz.prog 32 1 [vu (w 0),vu (w 1),vu (w 2),vu (w 3),vu (w 4),vu (w 5),vu (w 6),vu (w 7)] [vu (w 0),vu (w 1),vu (w 2),vu (w 3),vu (w 4),vu (w 5),vu (w 6),vu (w 7)] 8 0=some true
  refine iB 8 0 fun j hj=> ?_
  rcases(by omega:j=0∨j=1∨j=2∨j=3∨j=4∨j=5∨j=6∨j=7)with rfl|rfl|rfl|rfl|rfl|rfl|rfl|rfl<;>exact⟨_,rfl,hu _⟩
 exact IF rfl he
set_option maxHeartbeats 2000000 in
theorem D5 (n:Int) (Cm:jz n) (cv:z0) (ls:List (List Int)) (HY: ∀q z,z ∈ ls.getD q []→jz z) (v:z0) (l:List Int) (hl: ∀z,z ∈ l→jz z):yH 7 [vi n,cv,v] (z3 ib cv ls::z3 (jZ ye 1) v l::([]:List SP)) fun w _=>w= .bool true:=by
 refine SW.intro rfl Tryz.func7 rfl ?_
 refine O0 7 J (Z0 (Mi _ n Cm) J (zn rfl rfl rfl fun i7=> ?_))
 refine sN J Y Y J J J (Z 3 J (fa J Y (sO J Y J J J (fa J Y (sO J Y J J J (Z 2 J (zW [0,0,2,7,15,31,31,63,255] [([0,1],[0],some 2),([],[0],some 3),([4,5,6,7,8],[],none)] (by kernel_rfl) ?_)))))))
 refine z7 (kv J Y Y J J (ZK 1 J (z8 ⟨(Wm J Y Y J J J (z6 _ rfl) z9),?_⟩)))
 refine yY (Fy _ cv ls HY) rfl (fun _=>rfl) ?_
 rintro u28 _ rfl
 refine zJ (z7 (z8 ⟨(Wm J Y Y J J J (z6 _ rfl) z9),?_⟩))
 refine zd (Sub.jF (en:=GU) (es:=1) (fun _=>rfl) (by decide) 0 _) ?_
 refine VT (Hu _ 64 2 (Bt n) (Bs n) (.slice none 0 (some 0) 0) [] (by decide) (fun x h=>by cases h) u28 (ZN ls) (by have:=(pK ls).1;omega) (fun j=>by have:=(pK ls).2 j;omega)) rfl (fun _=>rfl) ?_
 intro w29 L29 tG
 rcases hbt:Zx 64 2 (Bt n) (Bs n) [] (ZN ls)with⟨e9,_|S⟩
 ·rw [hbt]at tG
  obtain⟨rfl,rfl⟩:=tG
  have wY:=od hbt
  refine zJ (z7 (ZK 5 J (z8 ⟨z9,?_⟩)))
  refine OX 4 J (zo rfl (fun _=>zG rfl rfl rfl (uT rfl)) (dx (wY) ?_))
  refine Z 14 J (zo rfl (fun _=>zG rfl rfl rfl (uT rfl)) (dx (wY) ?_))
  exact Z 1 J (Z0 (oN _) J (Z 4 J (zI J J J ⟨_,rfl,Sub.nil _⟩)))
 rw [hbt]at tG
 obtain⟨k,L,rfl,rfl⟩:=tG
 obtain⟨rfl,z1N,UI,hg0,hr0⟩:=oe hbt
 refine zJ (z7 (ZK 5 J (z8 ⟨z9,?_⟩)))
 refine OX 4 J (zo rfl (fun _=>zG rfl rfl rfl (uT rfl)) (qm (by omega) ?_))
 refine Z 2 J (zo rfl (fun _=>zG rfl rfl rfl rfl) ?_)
 refine Z 3 J (Z1 (G8 _ k L S) J Y (zo rfl (fun _=>zG rfl rfl rfl rfl) ?_))
 refine Z 8 J (yY (MO _ v l hl 2 50 (by omega) (by omega)) rfl (fun _=>rfl) ?_)
 rintro u49 _ rfl
 refine qJ rfl (fun _ h=>yI rfl rfl rfl rfl rfl h) ?_
 refine Z 3 J ?_
 obtain⟨dV,Cb⟩: ∃dV,dV=pD l 2 50:=⟨_,rfl⟩
 have hlen:dV.length≤50:=by have:=xM (l:=l) (zE:=2) (y0:=50) (by decide) l.length;rw [Cb];show(yX l 2 50 l.length).length≤50;omega
 have z0Z: ∀a,a ∈ dV→a.a≤9223372036854775807∧a.b≤9223372036854775807:=by rw [Cb];exact fun a h=>BG (P:=fun a=>a.a≤9223372036854775807∧a.b≤9223372036854775807) (fun x=>Fh x 2 (by decide)) l.length a h
 rw [←Cb]
 refine zy (fun j T LZ=> ∃(ii:Nat) (S:KS),(ii≤dV.length)∧(S.yv (ii+1))∧(S.Q.n=2)∧(S.N.gen≤6+6*ii)∧(∀d,d<2→S.Rt d)∧j=dV.length-ii∧T.len=11∧Tm.get 8 T=some (vp k 0)∧Tm.get 49 T=some (u49)∧Tm.get 50 T=some (vi (dV.length:Nat))∧Tm.get 51 T=some (vi (ii:Nat))∧Sub LZ (z3 (zX LD 5) u49 dV::z3 yA k (L,S):: [])) (dV.length) ⟨0,S,by omega,z1N,UI,by omega,hr0,by omega,rfl,rfl,rfl,rfl,rfl,Y⟩ ?_
 rintro j T L0 ⟨ii,S,hi,gF,hn,hg,hrt,rfl,hl,g8,RT,RU,RW,yU⟩
 obtain⟨tg,rfl⟩:=GY hl g8 RT RU RW
 clear hl g8 RT RU RW
 refine yE yU ?_
 clear yU L0
 refine O0 3 J (z5 (fun h52=> ?_) (fun h52=> ?_))
 ·obtain⟨a,ha⟩: ∃a,dV[ii]? =some a:=⟨_,List.getElem?_eq_getElem (by omega)⟩
  obtain⟨XK,XL⟩:=z0Z a (List.mem_of_getElem? ha)
  refine Z 8 J (qJ rfl (fun _ h=>yg rfl rfl rfl (by omega) (by omega) h) ?_)
  refine qJ rfl (fun _ h=>Gt rfl rfl rfl ha h) ?_
  refine zn rfl rfl rfl fun i11=> ?_
  refine sN J Y Y J J J (Z 4 J (fa J Y (ld J Y J (Z 1 J (z5 (fun iR=> ?_) (fun iR=> ?_))))))
  ·refine Z 27 J (lN J Y Y J J (jl (K:=yA) (a:=k) (x:=(L,S)) (VN k (L,S)) fun hM=> ?_))
   have G2:=gF.step hM (vG.mk a.d a.p a.a a.b a.c)
   refine Z1 (kx _ k L S (ii+1) gF (by omega) (by omega) (vG.mk a.d a.p a.a a.b a.c) XK XL) J Y (Z 3 J (ad J (Z 2 J ?_)))
   obtain⟨hK,Vn,LY⟩:=lZ gF hn hrt (vG.mk a.d a.p a.a a.b a.c)
   have dr:=bm gF (vG.mk a.d a.p a.a a.b a.c)
   exact Or.inl ⟨rfl,_,by omega,ii+1,(S.step (vG.mk a.d a.p a.a a.b a.c)).2,by omega,G2,Vn,by omega,LY,rfl,rfl,rfl,rfl,rfl,rfl,Y⟩
  refine Z 1 J (fa J Y (ld J Y J (Z 1 J (z5 (fun CU=> ?_) (fun CU=> ?_)))))
  ·refine Z 23 J (lN J Y Y J J (jl (K:=yA) (a:=k) (x:=(L,S)) (VN k (L,S)) fun hM=> ?_))
   have G2:=gF.step hM (vG.mk a.d a.p a.a a.b a.c)
   refine Z1 (kx _ k L S (ii+1) gF (by omega) (by omega) (vG.mk a.d a.p a.a a.b a.c) XK XL) J Y (Z 3 J (ad J (Z 2 J ?_)))
   obtain⟨hK,Vn,LY⟩:=lZ gF hn hrt (vG.mk a.d a.p a.a a.b a.c)
   have dr:=bm gF (vG.mk a.d a.p a.a a.b a.c)
   exact Or.inl ⟨rfl,_,by omega,ii+1,(S.step (vG.mk a.d a.p a.a a.b a.c)).2,by omega,G2,Vn,by omega,LY,rfl,rfl,rfl,rfl,rfl,rfl,Y⟩
  have cr:0≤1-a.p∧1-a.p<S.Q.n:=⟨by omega,by omega⟩
  obtain⟨hK,Vn,LY⟩:=lZ gF hn hrt (vG.mk a.d a.p a.a a.b a.c)
  have HL:=hK (1-a.p).toNat (by omega) (by show(((1-a.p).toNat:Nat):Int)≠a.p;omega)
  have dr:=bm gF (vG.mk a.d a.p a.a a.b a.c)
  refine Z 3 J (fa J Y (ld J Y J (sb J (Z1 (tK (k:=k) (L:=L) (S:=S) _ cr) J Y (zo rfl (fun _=>zG rfl rfl rfl rfl) ?_)))))
  refine Z 3 J (fa J Y (ld J Y J (sb J (Z1 (tK (k:=k) (L:=L) (S:=S) _ cr) J Y (Z1 (eO (k:=k) (L:=L) (S:=S) _ cr) J Y (zo rfl (fun _=>zG rfl rfl rfl rfl) ?_))))))
  refine Z 7 J (fa J Y (ld J Y J (sb J (Z1 (tK (k:=k) (L:=L) (S:=S) _ cr) J Y (Z1 (eO (k:=k) (L:=L) (S:=S) _ cr) J Y (Z 5 J (fa J Y (ld J Y J (sb J (Z1 (DD _ k L S _) J Y (Z 1 J (Z1 (bC (k:=k) (L:=L) (S:=S) _ cr) J Y (Z 1 J (Z1 (bB (k:=k) (L:=L) (S:=S) _ cr) J Y (Z 1 J (Z1 (G8 _ k L S) J Y (Z1 (tM (k:=k) (L:=L) (S:=S)) J Y ?_)))))))))))))))))
  rcases Int.lt_or_le (S.Q.zQ (1-a.p)) 0 with hz|hz
  ·refine Z 9 J (Z1 (bD _ hz) J Y (Z 3 J (zn rfl rfl rfl fun i17=> ?_)))
   refine sN J Y Y J J J (Z 5 J (lN J Y Y J J (jl (K:=yA) (a:=k) (x:=(L,S)) (VN k (L,S)) fun hM=> ?_)))
   have G2:=gF.step hM (vG.mk a.d a.p a.a a.b a.c)
   refine Z1 (kx _ k L S (ii+1) gF (by omega) (by omega) (vG.mk a.d a.p a.a a.b a.c) XK XL) J Y ?_
   have iV:((S.step (vG.mk a.d a.p a.a a.b a.c)).2).Q.zQ (1-a.p)=S.Q.zQ (1-a.p):=by
    have e1:=HL.on
    have e2:=HL.n
    unfold zg.zQ
    rw [if_pos ⟨by omega,by omega⟩,if_pos ⟨by omega,by omega⟩];exact e1
   have Cy:0≤1-a.p∧1-a.p<((S.step (vG.mk a.d a.p a.a a.b a.c)).2).Q.n:=⟨by omega,by omega⟩
   refine Z 5 J (Z1 (bD _ hz) J Y (Z 3 J (zn rfl rfl rfl fun i19=> ?_)))
   refine sN J Y Y J J J (Z 5 J (fa J Y (ld J Y J (sb J (Z1 (DD _ k L (S.step (vG.mk a.d a.p a.a a.b a.c)).2 _) J Y (Z 1 J (zo rfl (fun _=>zG rfl rfl rfl (uT rfl)) (qm (fun h=>h iV) ?_))))))))
   refine Z 2 J (Z1 (bC (k:=k) (L:=L) (S:=(S.step (vG.mk a.d a.p a.a a.b a.c)).2) _ Cy) J Y (Z 1 J (zo rfl (fun _=>zG rfl rfl rfl (uT rfl)) (qm (fun h=>h HL.root) ?_))))
   refine Z 3 J (Z1 (bB (k:=k) (L:=L) (S:=(S.step (vG.mk a.d a.p a.a a.b a.c)).2) _ Cy) J Y (Z 2 J (z5 (fun CT=> ?_) (fun CT=> ?_))))
   ·refine Z 2 J (Z1 (G8 _ k L (S.step (vG.mk a.d a.p a.a a.b a.c)).2) J Y (Z1 (tM (k:=k) (L:=L) (S:=(S.step (vG.mk a.d a.p a.a a.b a.c)).2)) J Y (Z 1 J (zo rfl (fun _=>zG rfl rfl rfl (nu rfl)) (qm (fun h=>by rcases HL.yC with e|e;exact CT e;omega) ?_)))))
    refine Z 5 J (zo rfl (fun _=>zG rfl rfl rfl rfl) ?_)
    refine Z 2 J (fa J Y (lN J Y Y J J (fa J Y (lN J Y Y J J (zo rfl (fun _=>zG rfl rfl rfl rfl) ?_)))))
    refine Z 2 J (fa J Y (ld J Y J (fa J Y (ld J Y J (zo rfl (fun _=>zG rfl rfl rfl (uT rfl)) (qm (fun h=>h rfl) ?_))))))
    refine Z 5 J (ad J (Z 2 J ?_))
    have Vk:True:=trivial
    exact Or.inl ⟨rfl,_,by omega,ii+1,(S.step (vG.mk a.d a.p a.a a.b a.c)).2,by omega,G2,Vn,by omega,LY,rfl,rfl,rfl,rfl,rfl,rfl,Y⟩
   refine Z 11 J (zo rfl (fun _=>zG rfl rfl rfl rfl) ?_)
   refine Z 2 J (fa J Y (lN J Y Y J J (fa J Y (lN J Y Y J J (zo rfl (fun _=>zG rfl rfl rfl rfl) ?_)))))
   refine Z 2 J (fa J Y (ld J Y J (fa J Y (ld J Y J (zo rfl (fun _=>zG rfl rfl rfl (uT rfl)) (qm (fun h=>h rfl) ?_))))))
   refine Z 5 J (ad J (Z 2 J ?_))
   have Vk:True:=trivial
   exact Or.inl ⟨rfl,_,by omega,ii+1,(S.step (vG.mk a.d a.p a.a a.b a.c)).2,by omega,G2,Vn,by omega,LY,rfl,rfl,rfl,rfl,rfl,rfl,Y⟩
  obtain⟨_,x9,hx9⟩:=gF.runs (1-a.p).toNat (by omega) (by rw [show(((1-a.p).toNat:Nat):Int)=1-a.p by omega];exact hz)
  rw [show(((1-a.p).toNat:Nat):Int)=1-a.p by omega]at hx9
  refine Z 9 J (yY (bE _ hz gF hx9) rfl (fun _=>rfl) ?_)
  rintro _ _ ⟨z39,rfl,rfl⟩
  refine yW (v:=z39) fun z3I z3N z3P Si _=> ?_
  subst Si
  refine Z 3 J (zn rfl rfl rfl fun i17=> ?_)
  refine sN J Y Y J J J (Z 5 J (lN J Y Y J J (jl (K:=yA) (a:=k) (x:=(L,S)) (VN k (L,S)) fun hM=> ?_)))
  have G2:=gF.step hM (vG.mk a.d a.p a.a a.b a.c)
  refine Z1 (kx _ k L S (ii+1) gF (by omega) (by omega) (vG.mk a.d a.p a.a a.b a.c) XK XL) J Y ?_
  have iV:((S.step (vG.mk a.d a.p a.a a.b a.c)).2).Q.zQ (1-a.p)=S.Q.zQ (1-a.p):=by
   have e1:=HL.on
   have e2:=HL.n
   unfold zg.zQ
   rw [if_pos ⟨by omega,by omega⟩,if_pos ⟨by omega,by omega⟩];exact e1
  have Cy:0≤1-a.p∧1-a.p<((S.step (vG.mk a.d a.p a.a a.b a.c)).2).Q.n:=⟨by omega,by omega⟩
  have z27:((S.step (vG.mk a.d a.p a.a a.b a.c)).2).pr (S.Q.zQ (1-a.p)).toNat=some x9:=by
   rw [HL.pr (S.Q.zQ (1-a.p)).toNat ?_]
   ·exact hx9
   have e1:=UA (Q:=S.Q) (c:=(1-a.p).toNat) (by omega)
   rw [show(((1-a.p).toNat:Nat):Int)=1-a.p by omega]at e1
   omega
  refine Z 5 J (yY (bE _ hz G2 z27) rfl (fun _=>rfl) ?_)
  rintro _ _ ⟨z3A,rfl,rfl⟩
  refine yW (v:=z3A) fun z3J z3O z3Q Sj _=> ?_
  subst Sj
  refine Z 3 J (zn rfl rfl rfl fun i19=> ?_)
  refine sN J Y Y J J J (Z 5 J (fa J Y (ld J Y J (sb J (Z1 (DD _ k L (S.step (vG.mk a.d a.p a.a a.b a.c)).2 _) J Y (Z 1 J (zo rfl (fun _=>zG rfl rfl rfl (uT rfl)) (qm (fun h=>h iV) ?_))))))))
  refine Z 2 J (Z1 (bC (k:=k) (L:=L) (S:=(S.step (vG.mk a.d a.p a.a a.b a.c)).2) _ Cy) J Y (Z 1 J (zo rfl (fun _=>zG rfl rfl rfl (uT rfl)) (qm (fun h=>h HL.root) ?_))))
  refine Z 3 J (Z1 (bB (k:=k) (L:=L) (S:=(S.step (vG.mk a.d a.p a.a a.b a.c)).2) _ Cy) J Y (Z 2 J (z5 (fun CT=> ?_) (fun CT=> ?_))))
  ·refine Z 2 J (Z1 (G8 _ k L (S.step (vG.mk a.d a.p a.a a.b a.c)).2) J Y (Z1 (tM (k:=k) (L:=L) (S:=(S.step (vG.mk a.d a.p a.a a.b a.c)).2)) J Y (Z 1 J (zo rfl (fun _=>zG rfl rfl rfl (nu rfl)) (qm (fun h=>by rcases HL.yC with e|e;exact CT e;omega) ?_)))))
   refine Z 5 J (zo rfl (fun _=>zG rfl rfl rfl rfl) ?_)
   refine Z 2 J (fa J Y (lN J Y Y J J (fa J Y (lN J Y Y J J (zo rfl (fun _=>zG rfl rfl rfl (BN x9.w)) ?_)))))
   refine Z 2 J (fa J Y (ld J Y J (fa J Y (ld J Y J (zo rfl (fun _=>zG rfl rfl rfl (uT rfl)) (qm (fun h=>h rfl) ?_))))))
   refine Z 5 J (ad J (Z 2 J ?_))
   have Vk:True:=trivial
   exact Or.inl ⟨rfl,_,by omega,ii+1,(S.step (vG.mk a.d a.p a.a a.b a.c)).2,by omega,G2,Vn,by omega,LY,rfl,rfl,rfl,rfl,rfl,rfl,Y⟩
  refine Z 11 J (zo rfl (fun _=>zG rfl rfl rfl rfl) ?_)
  refine Z 2 J (fa J Y (lN J Y Y J J (fa J Y (lN J Y Y J J (zo rfl (fun _=>zG rfl rfl rfl (BN x9.w)) ?_)))))
  refine Z 2 J (fa J Y (ld J Y J (fa J Y (ld J Y J (zo rfl (fun _=>zG rfl rfl rfl (uT rfl)) (qm (fun h=>h rfl) ?_))))))
  refine Z 5 J (ad J (Z 2 J ?_))
  have Vk:True:=trivial
  exact Or.inl ⟨rfl,_,by omega,ii+1,(S.step (vG.mk a.d a.p a.a a.b a.c)).2,by omega,G2,Vn,by omega,LY,rfl,rfl,rfl,rfl,rfl,rfl,Y⟩
 refine Z 4 J (Or.inr ⟨nofun,?_⟩)
 exact OX 2 J (Z0 (oN _) J (Z 3 J (zI J J J ⟨_,rfl,Sub.nil _⟩)))
end Go.Proofs.YtlhcpplnlgehbaaGreat
namespace Go.Proofs.YtlhcpplnlgehbaaGreat
open Go Go.RowKit Go.Px Go.ChangeShapes
def Zu (W:World) (v:Value) (xs:List Int):Prop:=
 (v= .slice none 0 0∧xs= [])∨ ∃a cap,v= .slice (some a) xs.length cap∧xs.length≤cap∧ ∀(i:Nat) z,xs[i]? =some z→W.cell? (a.add i)=some (.int .i64 z)∧jz z
def mJ (W:World) (v:Value) (ls:List (List Int)):Prop:=
 (v= .slice none 0 0∧ls= [])∨ ∃a cap,v= .slice (some a) ls.length cap∧ls.length≤cap∧ ∀(i:Nat) l,ls[i]? =some l→ ∃u,W.cell? (a.add i)=some u∧Zu W u l
theorem Gg {W:World} {a:Addr} {v:Value} (h:W.cell? a=some v):a=⟨a.block,a.off,none⟩∧a.block<W.heap.size:=by
 unfold World.cell? at h
 split at h
 ·rename_i c _ _ hx
  split at h
  ·cases h
  rename_i hs
  refine⟨?_,(Array.getElem?_eq_some_iff.1 hx).1⟩
  obtain⟨b,o,s⟩:=a
  cases s with
  |none=>rfl
  |some _=>simp at hs
 cases h
def aL (id:Nat) (v:Value) (n:Nat):z0:=match v with
 | .slice none _ _=> .slice none 0 (some 0) 1
 |_=> .slice (some (id,0)) n none 1
def nf (v:Value) (cs:List z0):uQ:=match v with
 | .slice none _ _=>⟨[],0,0,false⟩
 | .slice (some a) _ _=>if cs= []then⟨[],0,0,true⟩else⟨cs,a.block,a.off,true⟩
 |_=>⟨[],0,0,false⟩
def lh (V:qw) (W:World) (v:Value) (cs:List z0):Prop:=
 (v= .slice none 0 0∧cs= [])∨ ∃a cap,v= .slice (some a) cs.length cap∧cs.length≤cap∧ ∀(i:Nat) c,cs[i]? =some c→c.yK=true∧ ∃u,W.cell? (a.add i)=some u∧zS V c u
theorem BH (b o i:Nat):(⟨b,o,none⟩:Addr).add i=⟨b,o+i,none⟩:=Addr.add_lit b o i
theorem bZ {V:qw} {W:World} {v:Value} {cs:List z0} (h:lh V W v cs) (hz:v= .slice none 0 0∨0<W.heap.size):(nf v cs).ok V W∧(nf v cs).cs=cs:=by
 rcases h with⟨rfl,rfl⟩|⟨a,cap,rfl,hl,hc⟩
 ·exact⟨⟨fun h=>(by cases h),fun k c h=>(by simp [nf]at h)⟩,rfl⟩
 have hz0:0<W.heap.size:=by rcases hz with h|h;cases h;exact h
 by_cases h0:cs= []
 ·subst h0
  exact⟨⟨fun _=>hz0,fun k c h=>(by simp [nf]at h)⟩,rfl⟩
 obtain⟨c0,dO⟩: ∃c,cs[0]? =some c:=by
  cases cs with
  |nil=>exact absurd rfl h0
  |cons c _=>exact⟨c,rfl⟩
 obtain⟨_,u0,Hi,_⟩:=hc 0 c0 dO
 have e0:a.add 0=a:=rfl
 rw [e0]at Hi
 obtain⟨ha,hb⟩:=Gg Hi
 simp only [nf,h0,if_false]
 refine⟨⟨fun _=>hb,fun k c hk=> ?_⟩,trivial⟩
 obtain⟨h1,u,h2,h3⟩:=hc k c hk
 refine⟨h1,u,?_,h3⟩
 rw [ha,BH]at h2
 exact h2
theorem th {V:qw} {W:World} {v:Value} {cs:List z0} {id:Nat} (h:lh V W v cs) (hz:v= .slice none 0 0∨0<W.heap.size) (iW:V.GX=W.heap.size) (Ro:V.uD id=if(nf v cs).on then some ((nf v cs).b,(nf v cs).base,(nf v cs).cs.length)else none):zS V (aL id v cs.length) v:=by
 have LX:=(bZ h hz).1
 rcases h with⟨rfl,rfl⟩|⟨a,cap,rfl,hl,hc⟩
 ·exact .YD 1
 have hz0:0<W.heap.size:=by rcases hz with h|h;cases h;exact h
 by_cases h0:cs= []
 ·subst h0
  refine .vU id 0 0 none 1 0 0 0 cap a (by rw [Ro];rfl) (by rw [iW];exact hz0) (Nat.zero_le _) (fun k hk=>by cases hk) (fun h=> ?_)
  rcases h with h|⟨k,hk,_⟩
  ·exact absurd h (Nat.lt_irrefl 0)
  cases hk
 obtain⟨c0,dO⟩: ∃c,cs[0]? =some c:=by
  cases cs with
  |nil=>exact absurd rfl h0
  |cons c _=>exact⟨c,rfl⟩
 obtain⟨_,u0,Hi,_⟩:=hc 0 c0 dO
 have e0:a.add 0=a:=rfl
 rw [e0]at Hi
 obtain⟨ha,hb⟩:=Gg Hi
 refine .vU id 0 cs.length none 1 a.block a.off cs.length cap a (by rw [Ro];simp only [nf,h0,if_false,if_true]) (by rw [iW];exact hb) hl (fun k hk=>by cases hk) (fun _=> ?_)
 rw [Nat.add_zero];exact ha
theorem tj {α:Type} {en:α→List z0} {v:Value} {ys:List α} {cs:List z0} {V:qw} {W:World} {id:Nat} {l:List uQ} (h:lh V W v cs) (he: ∀x,(en x).length=1) (kD:cs=ys.flatMap en) (hl:cs.length=ys.length) (hk:l[id]? =some (nf v cs)) (hz:v= .slice none 0 0∨0<W.heap.size):
 jZ en 1 (aL id v cs.length) ys (fun j=>if j=id then(B2 l).t.get j else none):=by
 have LX:=(bZ h hz).2
 have e:(fun j=>if j=id then(B2 l).t.get j else none)=fun j=>if j=id then(nf v cs).obj else none:=by
  funext j
  by_cases hj:j=id
  ·rw [if_pos hj,if_pos hj,hj,ko,hk];rfl
  rw [if_neg hj,if_neg hj]
 rw [e]
 rcases h with⟨rfl,rfl⟩|⟨a,cap,rfl,Yi,hc⟩
 ·have hy:ys= []:=List.eq_nil_of_length_eq_zero hl.symm
  subst hy
  exact⟨⟨none,some 0,1,rfl⟩,he,by decide,fun h=>absurd rfl h⟩
 have:=Na (en:=en) (es:=1) (xs:=ys) (c:=none) hk (by rw [LX];exact kD) he (by decide)
 rw [←hl]at this
 exact this
def Mk (h:q7) (ids:List Nat):q7:=fun j=>if j ∈ ids then h j else none
theorem Iz (h:q7): ∀(l:List (Nat×SP)),(l.map (·.1)).Nodup→(∀x,x ∈ l→x.2 fun j=>if j=x.1 then h j else none)→Sat (l.map (·.2)) (Mk h (l.map (·.1))):=by
 intro l
 induction l with
 |nil=>intro _ _;trivial
 |cons x l ih=>
  intro hd hx
  rw [List.map_cons,List.nodup_cons]at hd
  refine⟨_,_,?_,?_,?_,hx x (List.mem_cons_self ..),ih hd.2 fun y hy=>hx y (List.mem_cons_of_mem _ hy)⟩
  ·intro k
   by_cases hk:k=x.1
   ·exact .inr (if_neg (by rw [hk];exact hd.1))
   exact .inl (if_neg hk)
  ·intro k y hy
   dsimp only at hy
   by_cases hk:k=x.1
   ·rw [if_pos hk]at hy
    show(if k ∈ _ then h k else none)=some y
    rw [if_pos (by rw [hk];exact List.mem_cons_self ..)];exact hy
   rw [if_neg hk]at hy;cases hy
  intro k y hy
  unfold Mk at hy
  by_cases hk:k ∈ l.map (·.1)
  ·rw [if_pos hk]at hy
   show(if k ∈ _ then h k else none)=some y
   rw [if_pos (by rw [List.map_cons];exact List.mem_cons_of_mem _ hk)];exact hy
  rw [if_neg hk]at hy;cases hy
theorem ff (l:List Int):l.flatMap ye=l.map fun z=>vi z:=by
 induction l with
 |nil=>rfl
 |cons x l ih=>rw [List.flatMap_cons,ih];rfl
theorem CL (l:List z0):l.flatMap gH=l:=by
 induction l with
 |nil=>rfl
 |cons x l ih=>rw [List.flatMap_cons,ih];rfl
theorem eG {V:qw} {W:World} {v:Value} {l:List Int} (h:Zu W v l):lh V W v (l.map fun z=>vi z):=by
 rcases h with⟨rfl,rfl⟩|⟨a,cap,rfl,hl,hc⟩
 ·exact .inl ⟨rfl,rfl⟩
 refine .inr ⟨a,cap,by rw [List.length_map],by rw [List.length_map];exact hl,fun i c hi=> ?_⟩
 rw [List.getElem?_map]at hi
 cases hz:l[i]? with
 |none=>rw [hz]at hi;cases hi
 |some z=>
  rw [hz]at hi
  cases hi
  exact⟨rfl,_,(hc i z hz).1,.int .i64 (.lit z)⟩
theorem Eg (id:Nat) (v:Value) (n:Nat):(aL id v n).yK=true:=by
 unfold aL;split<;>rfl
theorem cu {ρ:Nat→Int} {rows:List uQ} {GX id:Nat} {r:uQ} (h:rows[id]? =some r):(Hn ρ rows GX).uD id=if r.on then some (r.b,r.base,r.cs.length)else none:=by
 show(rows[id]?).bind _=_
 rw [h];rfl
set_option maxHeartbeats 400000 in
theorem NY {W:World} {v1 v2:Value} {ls:List (List Int)} {l:List Int} (h1:mJ W v1 ls) (h2:Zu W v2 l) (hz:(v1= .slice none 0 0∧v2= .slice none 0 0)∨0<W.heap.size):
 ∃(V:qw) (H:Hp) (cv v:z0),yD W.heap.size W V H W∧zS V cv v1∧zS V v v2∧zU [z3 ib cv ls,z3 (jZ ye 1) v l] H:=by
 have vk:v1= .slice none 0 0∧ls= []∨ ∃a cap,v1= .slice (some a) ls.length cap∧ls.length≤cap∧ ∀(i:Nat),i<ls.length→ ∃u,W.cell? (a.add i)=some u∧Zu W u (ls.getD i []):=by
  rcases h1 with h|⟨a,cap,h,hl,hc⟩
  ·exact .inl h
  refine .inr ⟨a,cap,h,hl,fun i hi=> ?_⟩
  have:=hc i _ (List.getElem?_eq_getElem hi)
  rw [List.getD_eq_getElem?_getD,List.getElem?_eq_getElem hi];exact this
 obtain⟨vs,PE,NS⟩: ∃vs:Nat→Value,(∀i,i<ls.length→Zu W (vs i) (ls.getD i []))∧(v1= .slice none 0 0∧ls= []∨ ∃a cap,v1= .slice (some a) ls.length cap∧ls.length≤cap∧ ∀i,i<ls.length→W.cell? (a.add i)=some (vs i)):=by
  rcases vk with⟨rfl,rfl⟩|⟨a,cap,rfl,hl,hc⟩
  ·exact⟨fun _=> .slice none 0 0,fun i h=>by simp at h,.inl ⟨rfl,rfl⟩⟩
  refine⟨fun i=>(W.cell? (a.add i)).getD (.slice none 0 0),fun i hi=> ?_,.inr ⟨a,cap,rfl,hl,fun i hi=> ?_⟩⟩
  ·obtain⟨u,hu,hI⟩:=hc i hi
   dsimp only
   rw [hu];exact hI
  obtain⟨u,hu,_⟩:=hc i hi
  show W.cell? (a.add i)=some ((W.cell? (a.add i)).getD (.slice none 0 0))
  rw [hu];rfl
 clear vk
 obtain⟨us,iZ⟩: ∃us:Nat→z0,us=fun i=>aL (i+1) (vs i) (ls.getD i []).length:=⟨_,rfl⟩
 obtain⟨rows,U4⟩: ∃rows:List uQ,rows=nf v1 ((List.range ls.length).map us)::((List.range ls.length).map fun i=>nf (vs i) ((ls.getD i []).map fun z=>vi z))++ [nf v2 (l.map fun z=>vi z)]:=⟨_,rfl⟩
 have g0:rows[0]? =some (nf v1 ((List.range ls.length).map us)):=by rw [U4];rfl
 have gi: ∀i,i<ls.length→rows[i+1]? =some (nf (vs i) ((ls.getD i []).map fun z=>vi z)):=by
  intro i hi
  rw [U4,List.cons_append,List.getElem?_cons_succ,List.getElem?_append_left (by simpa using hi),List.getElem?_map,List.getElem?_range hi];rfl
 have gl:rows[ls.length+1]? =some (nf v2 (l.map fun z=>vi z)):=by
  rw [U4,List.cons_append,List.getElem?_cons_succ,List.getElem?_append_right (by simp)]
  simp
 have NW:v1= .slice none 0 0∨0<W.heap.size:=by rcases hz with h|h;exact .inl h.1;exact .inr h
 have XY:v2= .slice none 0 0∨0<W.heap.size:=by rcases hz with h|h;exact .inl h.2;exact .inr h
 have hzi: ∀i,i<ls.length→vs i= .slice none 0 0∨0<W.heap.size:=by
  intro i hi
  rcases NS with⟨_,rfl⟩|⟨a,cap,rfl,_,hc⟩
  ·simp at hi
  exact .inr (by have:=(Gg (hc i hi)).2;omega)
 obtain⟨V,hV⟩: ∃V,V=Hn (fun _=>0) rows W.heap.size:=⟨_,rfl⟩
 have iW:V.GX=W.heap.size:=by rw [hV];rfl
 have si: ∀i,i<ls.length→lh V W (vs i) ((ls.getD i []).map fun z=>vi z):=fun i hi=>eG (PE i hi)
 have ri: ∀i,i<ls.length→zS V (us i) (vs i):=by
  intro i hi
  have:=th (id:=i+1) (si i hi) (hzi i hi) iW (by rw [hV];exact cu (gi i hi))
  rw [List.length_map]at this
  rw [iZ];exact this
 have s1:lh V W v1 ((List.range ls.length).map us):=by
  rcases NS with⟨rfl,rfl⟩|⟨a,cap,rfl,hl,hc⟩
  ·exact .inl ⟨rfl,rfl⟩
  refine .inr ⟨a,cap,by simp,by simpa using hl,fun i c hi=> ?_⟩
  have FP:i<ls.length:=by have:=(List.getElem?_eq_some_iff.1 hi).1;simpa using this
  rw [List.getElem?_map,List.getElem?_range FP]at hi
  cases hi
  exact⟨by rw [iZ];exact Eg _ _ _,_,hc i FP,ri i FP⟩
 have s2:lh V W v2 (l.map fun z=>vi z):=eG h2
 have hW:yD W.heap.size W V (B2 rows) W:=by
  rw [hV]
  refine NZ fun r hr=> ?_
  rw [←hV]
  rw [U4]at hr
  simp only [List.cons_append,List.mem_cons,List.mem_append,List.mem_map,List.mem_range,List.not_mem_nil,or_false]at hr
  rcases hr with rfl|⟨i,hi,rfl⟩|rfl
  ·exact(bZ s1 NW).1
  ·exact(bZ (si i hi) (hzi i hi)).1
  exact(bZ s2 XY).1
 have LS:((List.range ls.length).map us).length=ls.length:=by simp
 refine⟨V,B2 rows,aL 0 v1 ls.length,aL (ls.length+1) v2 l.length,hW,?_,?_,NX rows,?_⟩
 ·have:=th (id:=0) s1 NW iW (by rw [hV];exact cu g0)
  rw [LS]at this;exact this
 ·have:=th (id:=ls.length+1) s2 XY iW (by rw [hV];exact cu gl)
  rw [List.length_map]at this;exact this
 have k0:=tj (en:=gH) (id:=0) (ys:=(List.range ls.length).map us) s1 (fun _=>rfl) (CL _).symm rfl g0 NW
 have ki: ∀i,i<ls.length→na (us i,ls.getD i []) (fun j=>if j=i+1 then(B2 rows).t.get j else none):=fun i hi=>by
  have:=tj (en:=ye) (id:=i+1) (ys:=ls.getD i []) (si i hi) QZ (ff _).symm (by simp) (gi i hi) (hzi i hi)
  rw [List.length_map]at this
  rw [iZ];exact this
 have kl:=tj (en:=ye) (id:=ls.length+1) (ys:=l) s2 QZ (ff _).symm (by simp) gl XY
 rw [LS]at k0
 rw [List.length_map]at kl
 have hs:=Iz (fun j=>(B2 rows).t.get j) ((0,z3 (jZ gH 1) (aL 0 v1 ls.length) ((List.range ls.length).map us))::((List.range ls.length).map fun i=>(i+1,na (us i,ls.getD i [])))++ [(ls.length+1,z3 (jZ ye 1) (aL (ls.length+1) v2 l.length) l)]) ?_ ?_
 ·have XW:=hs.mono (h':=fun j=>(B2 rows).t.get j) (fun k x hk=>by unfold Mk at hk;split at hk;exact hk;cases hk)
  rw [List.cons_append,List.map_cons,List.map_append,List.map_map]at XW
  have hs3:Sat (z3 (jZ gH 1) (aL 0 v1 ls.length) ((List.range ls.length).map us)::(((List.range ls.length).map fun i=>na (us i,ls.getD i []))++ [z3 (jZ ye 1) (aL (ls.length+1) v2 l.length) l])) (fun j=>(B2 rows).t.get j):=XW
  have hs4:=hs3.cons (q:=z3 (jZ gH 1) (aL 0 v1 ls.length) ((List.range ls.length).map us)) (M:=z3 (zL na) 0 (List.range ls.length,fun i=>(us i,ls.getD i [])):: [z3 (jZ ye 1) (aL (ls.length+1) v2 l.length) l]) (fun _ e=>e) fun b hb=>qo hb
  have hs5:Sat ([z3 (jZ gH 1) (aL 0 v1 ls.length) ((List.range ls.length).map us),z3 (zL na) 0 (List.range ls.length,fun i=>(us i,ls.getD i []))]++ [z3 (jZ ye 1) (aL (ls.length+1) v2 l.length) l]) (fun j=>(B2 rows).t.get j):=hs4
  obtain⟨a,b,q1,q2,q3,q4,q5⟩:=qo hs5
  exact⟨a,b,q1,q2,q3,⟨us,trivial,q4⟩,q5⟩
 ·rw [List.cons_append,List.map_cons,List.map_append,List.map_map]
  show(0::((List.range ls.length).map (fun i=>i+1)++ [ls.length+1])).Nodup
  have e:0::((List.range ls.length).map (fun i=>i+1)++ [ls.length+1])=List.range (ls.length+2):=by
   rw [List.range_succ_eq_map,List.range_succ,List.map_append]
   rfl
  rw [e];exact List.nodup_range
 intro x hx
 simp only [List.cons_append,List.mem_cons,List.mem_append,List.mem_map,List.mem_range,List.not_mem_nil,or_false]at hx
 rcases hx with rfl|⟨i,hi,rfl⟩|rfl
 ·exact k0
 ·exact ki i hi
 exact kl
end Go.Proofs.YtlhcpplnlgehbaaGreat
namespace Go.Proofs.YtlhcpplnlgehbaaGreat
open Go Go.Conc Go.RowKit Go.Px
theorem AO (w:World) (b o:Nat) (x:Value) (c cap:Nat) (bf:Array Value) (s r:Nat) (vk:w.cell? ⟨b,o,none⟩=some (.chan (some c))) (hc:w.heap[c]? =some (.chan cap bf false s r false)) (jC:bf.size<cap):
 Calls Tryz.prog 186 #[.pointer (some ⟨b,o,none⟩),x] w fun e w'=>e= .returned (.bool true)∧w'=w.setChan c cap (bf.push x) false (s+1) r false:=by
 refine calls_of_loneTo fun cs=> ?_
 have e:Frame.enter Tryz.prog 186 #[.pointer (some ⟨b,o,none⟩),x] .normal=(base 186).at ⟨#[.pointer (some ⟨b,o,none⟩),x,undef,undef,undef,undef,undef,undef,undef,undef,undef,undef,undef],[]⟩ [.code (Tryz.f186.body.getD .skip)]:=by
  simp [Frame.enter,Frame.at,Tryz.func186,base,Tryz.f186]
 rw [e]
 refine LoneTo.goes (n:=40) ?_
 simp only [Tryz.f186,Option.getD_some]
 s_c stepG_seq
 s_reg
 s_op
 s_c stepG_region_end
 s_c stepG_seq
 s_c stepG_seq
 s_reg
 s_op
 s_op
 s_op
 s_op
 s_c stepG_region_end
 s_reg
 s_op
 s_c stepG_region_end
 s_c stepG_seq
 s_reg
 s_stop
 refine LoneTo.step (step_lone_select_send_room (c:=c) (cap:=cap) (buf:=bf) (s:=s) (r:=r) (tm:=false) (stepG_comm (cases:= #[scase c x (.int .u64 0)]) (blocking:=false) (shape:= .select) (w':=w) rfl rfl (by decide) (by simp [go_sem,execOp,scase,Act.eval])) hc jC) ?_
 rw [Frame.finish_at]
 walk_nrm
 refine LoneTo.goes (n:=12) ?_
 s_op
 s_op
 s_c stepG_region_end
 s_c stepG_block
 s_cond true
 s_c stepG_seq
 s_reg
 s_op
 s_c stepG_region_end
 s_c stepG_ret'
 s_stop
 exact LoneTo.done ⟨.returned (.bool true),_,rfl,⟨rfl,rfl⟩,rfl,rfl,rfl,rfl,_,Tryz.func186,by simp [results,Tryz.f186,Frame.at]⟩
theorem AN (w:World) (b o:Nat) (x:Value) (c cap:Nat) (bf:Array Value) (s r:Nat) (vk:w.cell? ⟨b,o,none⟩=some (.chan (some c))) (hc:w.heap[c]? =some (.chan cap bf false s r false)) (Ry:cap≤bf.size):
 Calls Tryz.prog 186 #[.pointer (some ⟨b,o,none⟩),x] w fun e w'=>e= .returned (.bool false)∧w'=w:=by
 refine calls_of_loneTo fun cs=> ?_
 have e:Frame.enter Tryz.prog 186 #[.pointer (some ⟨b,o,none⟩),x] .normal=(base 186).at ⟨#[.pointer (some ⟨b,o,none⟩),x,undef,undef,undef,undef,undef,undef,undef,undef,undef,undef,undef],[]⟩ [.code (Tryz.f186.body.getD .skip)]:=by
  simp [Frame.enter,Frame.at,Tryz.func186,base,Tryz.f186]
 rw [e]
 refine LoneTo.goes (n:=40) ?_
 simp only [Tryz.f186,Option.getD_some]
 s_c stepG_seq
 s_reg
 s_op
 s_c stepG_region_end
 s_c stepG_seq
 s_c stepG_seq
 s_reg
 s_op
 s_op
 s_op
 s_op
 s_c stepG_region_end
 s_reg
 s_op
 s_c stepG_region_end
 s_c stepG_seq
 s_reg
 s_stop
 refine LoneTo.step (step_lone_select_send_full (c:=c) (cap:=cap) (buf:=bf) (s:=s) (r:=r) (tm:=false) (stepG_comm (cases:= #[scase c x (.int .u64 0)]) (blocking:=false) (shape:= .select) (w':=w) rfl rfl (by decide) (by simp [go_sem,execOp,scase,Act.eval])) hc Ry) ?_
 rw [Frame.finish_at]
 walk_nrm
 refine LoneTo.goes (n:=12) ?_
 s_op
 s_op
 s_c stepG_region_end
 s_c stepG_block
 s_cond false
 s_c stepG_seq
 s_reg
 s_op
 s_c stepG_region_end
 s_c stepG_ret'
 s_stop
 exact LoneTo.done ⟨.returned (.bool false),_,rfl,⟨rfl,rfl⟩,rfl,rfl,rfl,rfl,_,Tryz.func186,by simp [results,Tryz.f186,Frame.at]⟩
theorem AD (w:World) (b o:Nat) (c cap:Nat) (bf:Array Value) (s r:Nat) (vk:w.cell? ⟨b,o,none⟩=some (.chan (some c))) (hc:w.heap[c]? =some (.chan cap bf false s r false)) (La:0<bf.size):
 Calls Tryz.prog 188 #[.pointer (some ⟨b,o,none⟩)] w fun e w'=>e= .returned (.tuple #[(bf[0]?).getD undef,.bool true])∧w'=w.setChan c cap (bf.extract 1 bf.size) false s (r+1) false:=by
 refine calls_of_loneTo fun cs=> ?_
 have e:Frame.enter Tryz.prog 188 #[.pointer (some ⟨b,o,none⟩)] .normal=(base 188).at ⟨#[.pointer (some ⟨b,o,none⟩),undef,undef,undef,undef,undef,undef,undef,undef,undef,undef,undef,undef,undef],[]⟩ [.code (Tryz.f188.body.getD .skip)]:=by
  simp [Frame.enter,Frame.at,Tryz.func188,base,Tryz.f188]
 rw [e]
 refine LoneTo.goes (n:=40) ?_
 simp only [Tryz.f188,Option.getD_some]
 s_c stepG_seq
 s_reg
 s_op
 s_op
 s_c stepG_region_end
 s_c stepG_seq
 s_reg
 s_op
 s_op
 s_op
 s_op
 s_c stepG_region_end
 s_c stepG_seq
 s_reg
 s_stop
 refine LoneTo.step (step_lone_select_recv_buf (c:=c) (cap:=cap) (buf:=bf) (s:=s) (r:=r) (tm:=false) (stepG_comm (cases:= #[rcase c (.int .u64 0)]) (blocking:=false) (shape:= .select) (w':=w) rfl rfl (by decide) (by simp [go_sem,execOp,rcase,Act.eval])) hc La) ?_
 rw [Frame.finish_at]
 walk_nrm
 refine LoneTo.goes (n:=20) ?_
 s_op
 s_op
 s_c stepG_region_end
 s_c stepG_block
 s_cond true
 s_c stepG_seq
 s_reg
 s_op
 s_op
 s_c stepG_region_end
 s_c stepG_seq
 s_reg
 s_op
 s_op
 s_op
 s_c stepG_region_end
 s_c stepG_ret'
 s_stop
 exact LoneTo.done ⟨.returned (.tuple #[(bf[0]?).getD undef,.bool true]),_,rfl,⟨rfl,rfl⟩,rfl,rfl,rfl,rfl,_,Tryz.func188,by simp [results,Tryz.f188,Frame.at,Array.getElem?_eq_getElem La]⟩
theorem AB (w:World) (b o:Nat) (c cap:Nat) (s r:Nat) (vk:w.cell? ⟨b,o,none⟩=some (.chan (some c))) (hc:w.heap[c]? =some (.chan cap #[] false s r false)):
 Calls Tryz.prog 188 #[.pointer (some ⟨b,o,none⟩)] w fun e w'=>e= .returned (.tuple #[.int .u64 0,.bool false])∧w'=w:=by
 refine calls_of_loneTo fun cs=> ?_
 have e:Frame.enter Tryz.prog 188 #[.pointer (some ⟨b,o,none⟩)] .normal=(base 188).at ⟨#[.pointer (some ⟨b,o,none⟩),undef,undef,undef,undef,undef,undef,undef,undef,undef,undef,undef,undef,undef],[]⟩ [.code (Tryz.f188.body.getD .skip)]:=by
  simp [Frame.enter,Frame.at,Tryz.func188,base,Tryz.f188]
 rw [e]
 refine LoneTo.goes (n:=40) ?_
 simp only [Tryz.f188,Option.getD_some]
 s_c stepG_seq
 s_reg
 s_op
 s_op
 s_c stepG_region_end
 s_c stepG_seq
 s_reg
 s_op
 s_op
 s_op
 s_op
 s_c stepG_region_end
 s_c stepG_seq
 s_reg
 s_stop
 refine LoneTo.step (step_lone_select_default (c:=c) (cap:=cap) (s:=s) (r:=r) (tm:=false) (stepG_comm (cases:= #[rcase c (.int .u64 0)]) (blocking:=false) (shape:= .select) (w':=w) rfl rfl (by decide) (by simp [go_sem,execOp,rcase,Act.eval])) hc) ?_
 rw [Frame.finish_at]
 walk_nrm
 refine LoneTo.goes (n:=20) ?_
 s_op
 s_op
 s_c stepG_region_end
 s_c stepG_block
 s_cond false
 s_c stepG_seq
 s_reg
 s_op
 s_op
 s_c stepG_region_end
 s_c stepG_ret'
 s_stop
 exact LoneTo.done ⟨.returned (.tuple #[.int .u64 0,.bool false]),_,rfl,⟨rfl,rfl⟩,rfl,rfl,rfl,rfl,_,Tryz.func188,by simp [results,Tryz.f188,Frame.at]⟩
theorem call186:Zr Tryz.prog 186:=by
 have h:(match Tryz.prog.funcs[186]? with
  |some q=> !(q.name== "runtime.NumGoroutine") && !q.body.isNone
  |none=>false)=true:=by kernel_rfl
 revert h
 cases h1:Tryz.prog.funcs[186]? with
 |none=>intro h;cases h
 |some q=>
  intro h
  simp only [Bool.and_eq_true,Bool.not_eq_true']at h
  exact⟨q,h1,h.1,h.2⟩
theorem call188:Zr Tryz.prog 188:=by
 have h:(match Tryz.prog.funcs[188]? with
  |some q=> !(q.name== "runtime.NumGoroutine") && !q.body.isNone
  |none=>false)=true:=by kernel_rfl
 revert h
 cases h1:Tryz.prog.funcs[188]? with
 |none=>intro h;cases h
 |some q=>
  intro h
  simp only [Bool.and_eq_true,Bool.not_eq_true']at h
  exact⟨q,h1,h.1,h.2⟩
section
variable {F:zD} {G:(Nat→Int)→Prop} {B:Nat} {w0:World}
theorem cX:Zq Tryz.prog F G B w0 fun f' args H=>if f'=186 then xm args H else none:=by
 intro f' args H v H' hh
 simp only at hh
 split at hh
 case isFalse=>cases hh
 rename_i Ru
 subst Ru
 unfold xm at hh
 split at hh
 case h_2=>cases hh
 rename_i i o v0
 split at hh
 case h_2=>cases hh
 rename_i rr LW
 unfold xA at hh
 split at hh
 case h_2=>cases hh
 rename_i cap buf s n FO
 refine⟨call186,fun V w uG hF hW hl=> ?_⟩
 obtain⟨l,rfl⟩: ∃l:List Value,uG=l.toArray:=⟨uG.toList,by simp⟩
 simp only at hl
 cases hl with
 |cons hp hl=>cases hl with
  |cons hx hl=>cases hl with
   |nil=>
    cases hp with
    |ptr id off b base S hb=>
     obtain⟨cv,vk,j5,_⟩:=J7 hW hb LW
     cases j5 with
     |chan id2 c xQ S2 kg=>
      obtain⟨x,jy,SO⟩:=hW.obj _ _ _ _ _ FO kg
      cases SO with
      |chan _ _ _ _ _ _ _ xb hB NU=>
       have hlen:=NU.length
       simp only [Array.length_toList]at hlen
       cases uE:Nat.blt buf.length cap with
       |true=>
        rw [uE]at hh
        cases hh
        rw [Nat.blt_eq]at uE
        refine(AO w b (base+o) _ c cap xb s n vk jy (by omega)).mono fun e w' he=> ?_
        obtain⟨rfl,rfl⟩:=he
        obtain⟨h1,h2⟩:=hW.Qp kg FO hB (.chan cap (buf++ [v0]) (s+1) n c xQ S2 (xb.push _) hB (by simp only [Array.toList_push];exact NU.append (.cons hx .nil)))
        exact⟨V,_,rfl,h2,h1,.bool true⟩
       |false=>
        rw [uE]at hh
        cases hh
        have S5:cap≤buf.length:=by
         rcases Nat.lt_or_ge buf.length cap with h|h
         ·rw [Eq.mpr Nat.blt_eq h]at uE;cases uE
         exact h
        refine(AN w b (base+o) _ c cap xb s n vk jy (by omega)).mono fun e w' he=> ?_
        obtain⟨rfl,rfl⟩:=he
        exact⟨V,_,rfl,.refl V _,hW,.bool false⟩
theorem cU:Zq Tryz.prog F G B w0 fun f' args H=>if f'=188 then Jc args H else none:=by
 intro f' args H v H' hh
 simp only at hh
 split at hh
 case isFalse=>cases hh
 rename_i Ru
 subst Ru
 unfold Jc at hh
 split at hh
 case h_2=>cases hh
 rename_i i o
 split at hh
 case h_2=>cases hh
 rename_i rr LW
 unfold kz at hh
 split at hh
 case h_2=>cases hh
 rename_i cap buf s n FO
 refine⟨call188,fun V w uG hF hW hl=> ?_⟩
 obtain⟨l,rfl⟩: ∃l:List Value,uG=l.toArray:=⟨uG.toList,by simp⟩
 simp only at hl
 cases hl with
 |cons hp hl=>cases hl with
  |nil=>
   cases hp with
   |ptr id off b base S hb=>
    obtain⟨cv,vk,j5,_⟩:=J7 hW hb LW
    cases j5 with
    |chan id2 c xQ S2 kg=>
     obtain⟨x,jy,SO⟩:=hW.obj _ _ _ _ _ FO kg
     cases SO with
     |chan _ _ _ _ _ _ _ xb hB NU=>
      obtain⟨l2,rfl⟩: ∃l:List Value,xb=l.toArray:=⟨xb.toList,by simp⟩
      simp only at NU
      cases NU with
      |nil=>
       cases hh
       refine(AB w b (base+o) c cap s n vk jy).mono fun e w' he=> ?_
       obtain⟨rfl,rfl⟩:=he
       exact⟨V,_,rfl,.refl V _,hW,.UZ (.cons (.int .u64 (.lit 0)) (.cons (.bool false) .nil))⟩
      |cons hv ht=>
       rename_i v1 u1 us vs
       cases hh
       refine(AD w b (base+o) c cap _ s n vk jy (by simp)).mono fun e w' he=> ?_
       obtain⟨rfl,rfl⟩:=he
       obtain⟨h1,h2⟩:=hW.Qp kg FO hB (.chan cap us s (n+1) c xQ S2 (((u1::vs).toArray).extract 1 ((u1::vs).toArray).size) hB (by simpa using ht))
       refine⟨V,_,rfl,h2,h1,?_⟩
       refine .UZ (vs:= [_,.bool true]) (.cons ?_ (.cons (.bool true) .nil))
       simpa using hv
theorem SA:GZ Tryz.prog F G B w0 hk:=by
 intro f g h
 unfold hk at h
 by_cases h1:f=186
 ·subst h1
  have:some xm=some g:=h
  cases this
  exact cX
 rw [show Nat.beq f 186=false by rw [←Bool.not_eq_true,Nat.beq_eq];exact h1]at h
 by_cases h2:f=188
 ·subst h2
  have:some Jc=some g:=h
  cases this
  exact cU
 rw [show Nat.beq f 188=false by rw [←Bool.not_eq_true,Nat.beq_eq];exact h2]at h
 by_cases h3:f=22
 ·subst h3
  have:some Wq=some g:=h
  cases this
  exact fw lu lD
 rw [show Nat.beq f 22=false by rw [←Bool.not_eq_true,Nat.beq_eq];exact h3]at h
 cases h
end
end Go.Proofs.YtlhcpplnlgehbaaGreat
namespace Go.Proofs.YtlhcpplnlgehbaaGreat
open Go Go.RowKit Go.Px Go.ChangeShapes
section
variable {H:Type} {enc:TypeId×Value→H} {W:World} {base:Nat} {held:Bool}
theorem EB {P:Program} {r:Reach} {b:Nat} {t e:TypeId} {v:Value} (ht:P.underlying t=some (.slice e)) (h:Value.okWide P W r b t v):v= .slice none 0 0∨((∃a len cap,v= .slice (some a) len cap)∧0<W.heap.size):=by
 unfold Value.okWide at h
 rw [ht]at h
 simp only at h
 unfold Cell.okWide at h
 rw [ht]at h
 unfold Cell.ok at h
 rw [ht]at h
 cases v<;>simp only at h
 rename_i p len cap
 cases p with
 |none=>
  cases len<;>cases cap<;>simp only at h
  exact .inl rfl
 |some a=>
  refine .inr ⟨⟨a,len,cap,rfl⟩,?_⟩
  obtain⟨_,_,h⟩:=h
  unfold World.has World.shape? at h
  obtain⟨_,_,row,cells,h,_⟩:=h
  split at h
  ·rename_i hx
   have:=(Array.getElem?_eq_some_iff.1 hx).1
   omega
  cases h
theorem eD {P:Program} {t e:TypeId} {fuel:Nat} {cs:List Value} {x:DataW H×List MemPlace} (ht:P.underlying t=some (.slice e)) (he:P.underlying e=some (.int .i64)) (hc:P.cellsOf e=1)
 (h:DataW.trod enc P W base (fun _=>true) held fuel t cs=some x): ∃u xs,cs= [u]∧Zu W u xs:=by
 rcases open_ints ht he hc h with⟨rfl,_⟩|⟨a,len,cap,zs,rfl,_,hl,_,hz,_,vk,hwf⟩
 ·exact⟨_,[],rfl,.inl ⟨rfl,rfl⟩⟩
 simp only [if_true]at hz
 have hlen:(zs.take len).length=len:=by rw [List.length_take];omega
 refine⟨_,zs.take len,rfl,.inr ⟨a,cap,by rw [hlen],by rw [hlen];exact hl,fun i z hi=> ?_⟩⟩
 have FP:i<len:=by have:=(List.getElem?_eq_some_iff.1 hi).1;omega
 rw [List.getElem?_take_of_lt FP]at hi
 have kh:=vk i (by omega)
 rw [List.getD_eq_getElem?_getD,hi]at kh
 refine⟨kh,?_⟩
 have:=hwf z (List.mem_of_getElem? hi)
 simp only [Lit.wf,IntKind.min,IntKind.max,IntKind.signed,IntKind.bits,Bool.and_eq_true,decide_eq_true_eq,if_true]at this
 exact⟨by omega,by omega⟩
theorem Is {P:Program} {t e e2:TypeId} {fuel:Nat} {cs:List Value} {x:DataW H×List MemPlace} (ht:P.underlying t=some (.slice e)) (he:P.underlying e=some (.slice e2)) (hc:P.cellsOf e=1) (he2:P.underlying e2=some (.int .i64)) (lS:P.cellsOf e2=1)
 (h:DataW.trod enc P W base (fun _=>true) held fuel t cs=some x): ∃u ls,cs= [u]∧mJ W u ls:=by
 rcases DataW.trod_slice ht h with⟨rfl,_⟩|⟨a,len,cap,elems,rest,n,_,rfl,_,hb,hl,_,hlen,Ci,_⟩
 ·exact⟨_,[],rfl,.inl ⟨rfl,rfl⟩⟩
 have each: ∀i,i<len→ ∃u xs,W.cell? (a.add i)=some u∧Zu W u xs:=by
  intro i hi
  have h1:=Ci i hi
  rw [List.getElem?_eq_getElem (by omega)]at h1
  rw [hc,Nat.mul_one,Option.bind_eq_some_iff]at h1
  obtain⟨cs',kD,hy⟩:=h1
  obtain⟨u,xs,rfl,hI⟩:=eD he he2 lS hy
  exact⟨u,xs,cell_of_cells?_one kD,hI⟩
 obtain⟨F,hF⟩: ∃F:Nat→List Int,∀i,i<len→ ∃u,W.cell? (a.add i)=some u∧Zu W u (F i):=by
  have: ∀i,∃xs,i<len→ ∃u,W.cell? (a.add i)=some u∧Zu W u xs:=by
   intro i
   by_cases hi:i<len
   ·obtain⟨u,xs,h1,h2⟩:=each i hi
    exact⟨xs,fun _=>⟨u,h1,h2⟩⟩
   exact⟨[],fun h=>absurd h hi⟩
  exact⟨fun i=>(this i).choose,fun i hi=>(this i).choose_spec hi⟩
 have XS:((List.range len).map F).length=len:=by simp
 refine⟨_,(List.range len).map F,rfl,.inr ⟨a,cap,by rw [XS],by rw [XS];exact hl,fun i l hi=> ?_⟩⟩
 have FP:i<len:=by have:=(List.getElem?_eq_some_iff.1 hi).1;omega
 rw [List.getElem?_map,List.getElem?_range FP]at hi
 cases hi
 exact hF i FP
theorem eE {v:Value} {l:List Int} (h:Zu W v l): ∀z,z ∈ l→jz z:=by
 intro z hz
 obtain⟨i,hi⟩:=List.mem_iff_getElem?.1 hz
 rcases h with⟨_,rfl⟩|⟨a,cap,_,_,hc⟩
 ·cases hz
 exact(hc i z hi).2
theorem Iu {v:Value} {ls:List (List Int)} (h:mJ W v ls): ∀q z,z ∈ ls.getD q []→jz z:=by
 intro q z hz
 rw [List.getD_eq_getElem?_getD]at hz
 cases hq:ls[q]? with
 |none=>rw [hq]at hz;cases hz
 |some l=>
  rw [hq]at hz
  rcases h with⟨_,rfl⟩|⟨a,cap,_,_,hc⟩
  ·simp at hq
  obtain⟨u,_,hI⟩:=hc q l hq
  exact eE hI z hz
theorem aJ {P:Program} {W':World} (hl:laidOutB P=true) (hm:mapsRowed P=true) (hs:((List.range P.types.size).all fun t=>match P.underlying t with|some (.slice e)=>decide (0<P.cellsOf e)|_=>true)=true) (hB:Below W.heap.size W W') {sp:Nat→Bool} : ∀ {ts:List TypeId} {vs:List Value} {ds:List (DataW H)} {ps:List MemPlace},(∀t,t ∈ ts→t<P.types.size)→DataW.TrodAll enc P W 0 (fun _=>true) true ts vs ds ps→(∀p,p ∈ ps→sp p.block=true)→DataW.TrodAll enc P W' 0 sp true ts vs ds ps:=by
 intro ts vs ds ps xv h dQ
 have h1:=DataW.TrodAll.respare (kids_rows hl hm) (slices_full_of P hs) xv h dQ
 clear h dQ xv
 induction ts generalizing vs ds ps with
 |nil=>cases vs<;>cases ds<;>exact h1
 |cons t ts ih=>
  cases vs with
  |nil=>cases ds<;>exact h1
  |cons v vs=>
   cases ds with
   |nil=>exact h1
   |cons d ds=>
    obtain⟨p,q,h2,h3,e⟩:=h1
    obtain⟨n,hn⟩:=h2
    exact⟨p,q,⟨n,DataW.trod_carry n _ _ _ hn (fun p hp=>hB.same (DataW.trod_lt n _ _ _ hn p hp))⟩,ih h3,e⟩
end
theorem tJ {W:World} (a0:Int) (w0:jz a0) {v1 v2:Value} {ls:List (List Int)} {l:List Int} (h1:mJ W v1 ls) (h2:Zu W v2 l) (hz:(v1= .slice none 0 0∧v2= .slice none 0 0)∨0<W.heap.size):
 Calls Tryz.prog 7 #[.int .i64 a0,v1,v2] W fun e w'=>e= .returned (.bool true)∧Below W.heap.size W w'∧ ∀b arr el z,W.heap.size≤b→w'.heap[b]? =some (.cells arr el z)→z=(0,0):=by
 obtain⟨V,H,cv,v,hW,r1,r2,hH⟩:=NY h1 h2 hz
 obtain⟨r,H',⟨n,hn⟩,L',rfl,_⟩:=D5 a0 w0 cv ls (Iu h1) v l (eE h2) H hH
 exact fF (G:=fun _=>True) pok ⟨fun i lo hi h=>by simp at h,trivial⟩ SA hW (hn n (Nat.le_refl n)) (.cons (.int .i64 (.lit a0)) (.cons r1 (.cons r2 .nil)))
end Go.Proofs.YtlhcpplnlgehbaaGreat
