/- Part of the proof: KPlay3, KPlay4, KAl2, KAlone, KIn, KIn2, KPipeOk, KAloneW. Names and blanks are cut short to keep within the size of a claim. -/
import Derived.ChangeReads
import Derived.ChangeSlices
import Derived.Conc.LoneSelect
import Derived.ProofKit
import Derived.ReadAgain
import Derived.Test.YtlhcpplnlgehbaaGreatKWakes
import Derived.Test.YtlhcpplnlgehbaaGreatM4
import Derived.Test.YtlhcpplnlgehbaaGreatM9
import Derived.WalkKit
set_option linter.unusedVariables false
set_option linter.unusedSimpArgs false
set_option maxRecDepth 100000
namespace Go.Proofs.YtlhcpplnlgehbaaGreat
open Go Go.RowKit Go.Px
def kv (x:AVal×List Int):SP:=ent (uh yK 1) x.1 x.2
abbrev D2 (cv:AVal) (vs:Nat→AVal) (ls:List (List Int)):List SP:= [ent (uh vd 1) cv ((List.range ls.length).map vs),ent (zG kv) 0 (List.range ls.length,fun q=>(vs q,ls.getD q []))]
def nQ (cv:AVal) (ls:List (List Int)):SP:=fun h=> ∃vs:Nat→AVal,True∧yd (D2 cv vs ls) h
theorem nh (cv:AVal) (ls:List (List Int)): ∀h,nQ cv ls h→ ∃vs:Nat→AVal,True∧yd (D2 cv vs ls) h:=fun _ h=>h
theorem ZO {cv:AVal} {ls:List (List Int)} {vs:Nat→AVal} : ∀h,yd (D2 cv vs ls) h→nQ cv ls h:=fun _ s=>⟨vs,trivial,s⟩
def gU (ls:List (List Int)):List (List yl):=if ls= []then [qa [0,0,13,0,17,0]]else(List.range (min 3 ls.length)).map fun q=>qa (ls.getD q [])
theorem dR {n:Nat} {ws:Nat→AVal} {u:AVal} {g:Nat→List yl} {ov:AVal} {R:List SP} :
 Sub (ent (zP vd 1) ov ((List.range n).map ws++ [u])::ent (zP qN 4) u (g n)::ent (zG jK) 0 (List.range n,fun q=>(ws q,g q))::R)
  (ent (zP vd 1) ov ((List.range (n+1)).map fun q=>if q=n then u else ws q)::ent (zG jK) 0 (List.range (n+1),fun q=>((if q=n then u else ws q),g q))::R):=by
 have e:(List.range (n+1)).map (fun q=>if q=n then u else ws q)=(List.range n).map ws++ [u]:=by
  rw [List.range_succ,List.map_append]
  congr 1
  ·refine List.map_congr_left fun q hq=> ?_
   rw [if_neg (by have:=List.mem_range.1 hq;omega)]
  simp
 rw [e]
 refine Sub.keep (Sub.trans ?_ (gt (K:=jK) (b:=0) (n:=n) (f:=fun q=>(ws q,g q)) (g:=fun q=>((if q=n then u else ws q),g q)) fun q hq=>by show((if q=n then u else ws q),g q)=(ws q,g q);rw [if_neg (by omega)]))
 show Px.Sub _ (ent (zP qN 4) (if n=n then u else ws n) (g n)::_)
 rw [if_pos rfl]
 exact Sub.refl _
theorem QO {n:Nat} {ws:Nat→AVal} {g:Nat→List yl} {ov:AVal} {R:List SP} :Sub (ent (zP vd 1) ov ((List.range n).map ws)::ent (zG jK) 0 (List.range n,fun q=>(ws q,g q))::R) (ent Zv ov ((List.range n).map g)::R):=by
 refine Sub.trans (M:=ent (zP vd 1) ov ((List.range ((List.range n).map g).length).map ws)::ent (zG jK) 0 (List.range ((List.range n).map g).length,fun q=>(ws q,((List.range n).map g).getD q []))::R) ?_ (Sub.mk2 (vZ (vs:=ws)) (Sub.refl _))
 have hn:((List.range n).map g).length=n:=by simp
 rw [hn]
 refine Sub.keep (Sub.imp (K:=zG jK) (a:=0) (Qh fun q hq=> ?_) (Sub.refl _))
 have hq:=List.mem_range.1 hq
 rw [List.getD_eq_getElem?_getD,List.getElem?_map,List.getElem?_range hq];rfl
theorem Gf {i:Nat} {u:AVal} {c:List yl} {R:List SP} :Sub (ent z8 i [u]::ent (zP qN 4) u c::R) (ent Zv (.slice (some (i,0)) 1 (some 1) 1) [c]::R):=by
 refine Sub.trans (M:=ent (zP vd 1) (.slice (some (i,0)) 1 (some 1) 1) ((List.range 1).map fun _=>u)::ent (zG jK) 0 (List.range 1,fun q=>(u,(fun _=>c) q))::R) ?_ (QO (g:=fun _=>c))
 refine Sub.trans (Sub.one (K:=z8) (a:=i) (K2:=zP vd 1) (a2:= .slice (some (i,0)) 1 (some 1) 1) (x2:= [u]) (vy (ys:= [u]) (fun _=>rfl) (by decide))) ?_
 refine Sub.keep ?_
 refine Sub.trans ?_ (gt (K:=jK) (b:=0) (n:=0) (f:=fun q=>(u,(fun _=>c) q)) (g:=fun q=>(u,(fun _=>c) q)) fun q hq=>by omega)
 exact Sub.keep jq
theorem eQ {β:Type} (vs:Nat→β) {n q:Nat} (h:q<n):((List.range n).map vs)[q]? =some (vs q):=by rw [List.getElem?_map,List.getElem?_range h];rfl
set_option maxHeartbeats 1000000 in
theorem oL (R:List SP) (cv:AVal) (ls:List (List Int)) (hl: ∀q z,z ∈ ls.getD q []→gH z):zy 33 [cv] (ent nQ cv ls::R) fun w L2=>L2=ent Zv w (gU ls)::ent nQ cv ls::R:=by
 refine zS (nh cv ls) fun vs _=> ?_
 dsimp only [D2,List.cons_append,List.nil_append]
 have hvl:((List.range ls.length).map vs).length=ls.length:=by simp
 refine SW.intro rfl Tryz.func33 rfl ?_
 refine O0 14 J (zu (Sub.trans (Sub.nilE (en:=vd) (es:=1) (fun _=>rfl) (by decide) 0 _) (Sub.keep (jq (K:=jK) (b:=0) (f:=fun q=>(AVal.ptr none,qa (ls.getD q [])))))) ?_)
 refine zl (fun j T LZ=> ∃(n:Nat) (ov:AVal) (ws:Nat→AVal),(n≤3∧n≤ls.length)∧j=3-n∧T.len=2∧Tm.get 0 T=some (cv)∧Tm.get 3 T=some (ov)∧Tm.get 4 T=some (vi (n:Nat))∧Sub LZ (ent (zP vd 1) ov ((List.range n).map ws)::ent (zG jK) 0 (List.range n,fun q=>(ws q,(fun q=>qa (ls.getD q [])) q))::ent (uh vd 1) cv ((List.range ls.length).map vs)::ent (zG kv) 0 (List.range ls.length,fun q=>(vs q,ls.getD q []))::R)) (3) ⟨0,.slice none 0 (some 0) 0,fun _=> .ptr none,by omega,by omega,rfl,rfl,rfl,rfl,(by exact Sub.refl _)⟩ ?_
 rintro j T L0 ⟨n,ov,ws,hn,rfl,hl,g0,g3,g4,hsb⟩
 obtain⟨tg,rfl⟩:=sA hl g0 g3 g4
 clear hl g0 g3 g4
 refine zu hsb ?_
 clear hsb L0
 refine O0 5 J (yo rfl (fun _ h=>di vd 1 rfl rfl rfl rfl rfl h) ?_)
 refine yn (congrArg (fun n:Nat=>vi n) hvl) ?_
 refine Z 1 J (z0 (fun h8=> ?_) (fun h8=> ?_))
 ·have hnl:n<ls.length:=by omega
  have hvx:=eQ vs hnl
  refine Z 3 J (z0 (fun h11=> ?_) (fun h11=> ?_))
  ·refine Z 10 J (yo rfl (fun _ h=>Zm vd 1 rfl rfl rfl (by omega) (by rw [hvl];omega) h) ?_)
   refine yo rfl (fun _ h=>vn vd 1 (j:=0) rfl rfl rfl hvx rfl h) ?_
   refine zR (Sub.trans (M:=ent (zG kv) 0 (List.range ls.length,fun q=>(vs q,ls.getD q []))::(ent (zP vd 1) ov ((List.range n).map ws)::ent (zG jK) 0 (List.range n,fun q=>(ws q,(fun q=>qa (ls.getD q [])) q))::ent (uh vd 1) cv ((List.range ls.length).map vs)::R)) Y (star_pick (qc hnl))) ?_
   dsimp only [kv]
   refine yG (pU _ (vs n) (ls.getD n []) (hl n)) rfl (fun _=>rfl) ?_
   rintro u20 _ rfl
   refine yD (v:=u20) fun au20 cu20 eu20 hvu20 _=> ?_
   subst hvu20
   refine zR (Sub.trans (M:=kv (vs n,ls.getD n [])::ent (zG kv) 0 ((List.range ls.length).erase n,fun q=>(vs q,ls.getD q []))::ent (zP qN 4) (AVal.slice au20 (qa (ls.getD n [])).length cu20 eu20) (qa (ls.getD n []))::(ent (zP vd 1) ov ((List.range n).map ws)::ent (zG jK) 0 (List.range n,fun q=>(ws q,(fun q=>qa (ls.getD q [])) q))::ent (uh vd 1) cv ((List.range ls.length).map vs)::R)) (show Px.Sub _ (ent (uh yK 1) (vs n) (ls.getD n [])::ent (zG kv) 0 ((List.range ls.length).erase n,fun q=>(vs q,ls.getD q []))::ent (zP qN 4) (AVal.slice au20 (qa (ls.getD n [])).length cu20 eu20) (qa (ls.getD n []))::(ent (zP vd 1) ov ((List.range n).map ws)::ent (zG jK) 0 (List.range n,fun q=>(ws q,(fun q=>qa (ls.getD q [])) q))::ent (uh vd 1) cv ((List.range ls.length).map vs)::R))from Y) (star_put (K:=kv) (b:=0) (g:=fun q=>(vs q,ls.getD q [])) (qc hnl) List.nodup_range fun _ _ _=>rfl)) ?_
   refine zT (cs:= [_]) rfl rfl rfl (by decide) rfl fun i21=> ?_
   refine gV rfl rfl rfl rfl rfl rfl rfl ([(AVal.slice au20 (qa (ls.getD n [])).length cu20 eu20)]) rfl rfl (by simp) (by rw [List.length_map,List.length_range];omega) rfl fun i22 q22 c22=> ?_
   refine Z 4 J (ad J (Z 2 J ?_))
   exact Or.inl ⟨rfl,_,by omega,n+1,_,fun q=>if q=n then(AVal.slice au20 (qa (ls.getD n [])).length cu20 eu20)else ws q,by omega,rfl,rfl,rfl,rfl,rfl,(Sub.trans (M:=ent (zP vd 1) _ ((List.range n).map ws++ [(AVal.slice au20 (qa (ls.getD n [])).length cu20 eu20)])::ent (zP qN 4) (AVal.slice au20 (qa (ls.getD n [])).length cu20 eu20) ((fun q=>qa (ls.getD q [])) n)::ent (zG jK) 0 (List.range n,fun q=>(ws q,(fun q=>qa (ls.getD q [])) q))::ent (uh vd 1) cv ((List.range ls.length).map vs)::ent (zG kv) 0 (List.range ls.length,fun q=>(vs q,ls.getD q []))::R) Y (dR (n:=n) (ws:=ws) (u:=(AVal.slice au20 (qa (ls.getD n [])).length cu20 eu20)) (g:=fun q=>qa (ls.getD q []))))⟩
  refine Z 4 J (Or.inr ⟨nofun,?_⟩)
  refine OX 4 J (yo rfl (fun _ h=>y0 rfl rfl rfl rfl rfl h) ?_)
  refine Z 1 J (z0 (fun h25=> ?_) (fun h25=> ?_))
  ·refine Z 3 J (zT (cs:= [_,_,_,_,_,_]) rfl rfl rfl (by decide) rfl fun i26=> ?_)
   refine zR (Sub.one (K:=z8) (a:=i26) (K2:=uh yK 1) (a2:= .slice (some (i26,0)) 6 (some 6) 1) (x2:= [0,0,13,0,17,0]) (jm (l:= [0,0,13,0,17,0]))) ?_
   refine yG (pU _ (.slice (some (i26,0)) 6 (some 6) 1) [0,0,13,0,17,0] (by decide)) rfl (fun _=>rfl) ?_
   rintro u27 _ rfl
   refine yD (v:=u27) fun au27 cu27 eu27 hvu27 _=> ?_
   subst hvu27
   refine zT (cs:= [_]) rfl rfl rfl (by decide) rfl fun i28=> ?_
   refine Z 8 J (zE J J J ?_)
   have hn0:n=0:=by have:=h25;simp only [List.length_map,List.length_range]at this;omega
   subst hn0
   have hls:ls= []:=List.eq_nil_of_length_eq_zero (by omega)
   have hE:gU ls= [qa [0,0,13,0,17,0]]:=if_pos hls
   rw [hE]
   exact⟨_,rfl,Sub.trans (M:=ent z8 i28 [(AVal.slice au27 (qa [0,0,13,0,17,0]).length cu27 eu27)]::ent (zP qN 4) (AVal.slice au27 (qa [0,0,13,0,17,0]).length cu27 eu27) (qa [0,0,13,0,17,0])::ent (uh vd 1) cv ((List.range ls.length).map vs)::ent (zG kv) 0 (List.range ls.length,fun q=>(vs q,ls.getD q []))::R) Y (Sub.trans Gf (Sub.keep (Sub.mk2 (ZO (vs:=vs)) (Sub.refl _))))⟩
  refine Z 9 J (zE J J J ?_)
  have hn0:n≠0:=by have:=h25;simp only [List.length_map,List.length_range]at this;omega
  have hls:ls≠ []:=fun e=>by subst e;simp at hn;omega
  have hmn:min 3 ls.length=n:=by omega
  have hE:gU ls=(List.range n).map fun q=>qa (ls.getD q []):=by unfold gU;rw [if_neg hls,hmn]
  rw [hE]
  exact⟨_,rfl,Sub.trans (M:=ent (zP vd 1) ov ((List.range n).map ws)::ent (zG jK) 0 (List.range n,fun q=>(ws q,(fun q=>qa (ls.getD q [])) q))::ent (uh vd 1) cv ((List.range ls.length).map vs)::ent (zG kv) 0 (List.range ls.length,fun q=>(vs q,ls.getD q []))::R) Y (Sub.trans QO (Sub.keep (Sub.mk2 (ZO (vs:=vs)) (Sub.refl _))))⟩
 refine Z 7 J (Or.inr ⟨nofun,?_⟩)
 refine OX 4 J (yo rfl (fun _ h=>y0 rfl rfl rfl rfl rfl h) ?_)
 refine Z 1 J (z0 (fun h25=> ?_) (fun h25=> ?_))
 ·refine Z 3 J (zT (cs:= [_,_,_,_,_,_]) rfl rfl rfl (by decide) rfl fun i26=> ?_)
  refine zR (Sub.one (K:=z8) (a:=i26) (K2:=uh yK 1) (a2:= .slice (some (i26,0)) 6 (some 6) 1) (x2:= [0,0,13,0,17,0]) (jm (l:= [0,0,13,0,17,0]))) ?_
  refine yG (pU _ (.slice (some (i26,0)) 6 (some 6) 1) [0,0,13,0,17,0] (by decide)) rfl (fun _=>rfl) ?_
  rintro u27 _ rfl
  refine yD (v:=u27) fun au27 cu27 eu27 hvu27 _=> ?_
  subst hvu27
  refine zT (cs:= [_]) rfl rfl rfl (by decide) rfl fun i28=> ?_
  refine Z 8 J (zE J J J ?_)
  have hn0:n=0:=by have:=h25;simp only [List.length_map,List.length_range]at this;omega
  subst hn0
  have hls:ls= []:=List.eq_nil_of_length_eq_zero (by omega)
  have hE:gU ls= [qa [0,0,13,0,17,0]]:=if_pos hls
  rw [hE]
  exact⟨_,rfl,Sub.trans (M:=ent z8 i28 [(AVal.slice au27 (qa [0,0,13,0,17,0]).length cu27 eu27)]::ent (zP qN 4) (AVal.slice au27 (qa [0,0,13,0,17,0]).length cu27 eu27) (qa [0,0,13,0,17,0])::ent (uh vd 1) cv ((List.range ls.length).map vs)::ent (zG kv) 0 (List.range ls.length,fun q=>(vs q,ls.getD q []))::R) Y (Sub.trans Gf (Sub.keep (Sub.mk2 (ZO (vs:=vs)) (Sub.refl _))))⟩
 refine Z 9 J (zE J J J ?_)
 have hn0:n≠0:=by have:=h25;simp only [List.length_map,List.length_range]at this;omega
 have hls:ls≠ []:=fun e=>by subst e;simp at hn;omega
 have hmn:min 3 ls.length=n:=by omega
 have hE:gU ls=(List.range n).map fun q=>qa (ls.getD q []):=by unfold gU;rw [if_neg hls,hmn]
 rw [hE]
 exact⟨_,rfl,Sub.trans (M:=ent (zP vd 1) ov ((List.range n).map ws)::ent (zG jK) 0 (List.range n,fun q=>(ws q,(fun q=>qa (ls.getD q [])) q))::ent (uh vd 1) cv ((List.range ls.length).map vs)::ent (zG kv) 0 (List.range ls.length,fun q=>(vs q,ls.getD q []))::R) Y (Sub.trans QO (Sub.keep (Sub.mk2 (ZO (vs:=vs)) (Sub.refl _))))⟩
structure VZ where
 d:Int
 p:Int
 a:Int
 b:Int
 c:Int
abbrev iO (x:VZ):List AVal:= [vi x.d,vi x.p,vi x.a,vi x.b,vi x.c]
def uX (x cpus:Int):VZ:=
 if zB x 32<20 then⟨1,zB (x.tdiv 32) cpus,0,0,0⟩
 else if zB x 32<22 then⟨2,zB (x.tdiv 32) cpus,0,0,0⟩
 else if zB x 32=22 then⟨3,zB (x.tdiv 32) cpus,zB (x.tdiv 64) 520,0,0⟩
 else if zB x 32=23 then⟨4,zB (x.tdiv 32) cpus,zB (x.tdiv 64) 9,0,0⟩
 else if zB x 32<27 then⟨5,zB (x.tdiv 32) cpus,zB (x.tdiv 64) 5,zB (x.tdiv 512) 9,0⟩
 else if zB x 32<30 then⟨6,zB (x.tdiv 32) cpus,pk [2056,2057,8,0,10,3584,16,41] (zB (x.tdiv 64) 8),zB (x.tdiv 512) 5*8,zB (x.tdiv 64) 65⟩
 else if zB x 32=30 then⟨6,zB (x.tdiv 32) cpus,zB (x.tdiv 64) 4200,zB (x.tdiv 512) 4200,zB x 70-3⟩
 else⟨zB (x.tdiv 64) 9,zB (x.tdiv 32) 4-1,x.tmod 100,x.tmod 7,0⟩
def ZC (out:List VZ) (a:VZ) (most:Int):Nat→List VZ
 |0=>out
 |n+1=>if((ZC out a most n).length:Int)<most-1 then ZC out a most n++ [a]else ZC out a most n
def jr (out:List VZ) (x cpus most:Int):List VZ:=if zB x 32<20 then ZC out (uX x cpus) most (zB (x.tdiv 64) 6).toNat else out
def yF (l:List Int) (cpus most:Int):Nat→List VZ
 |0=> []
 |n+1=>if((yF l cpus most n).length:Int)<most then jr (yF l cpus most n) (l.getD n 0) cpus most++ [uX (l.getD n 0) cpus]else yF l cpus most n
def JG (l:List Int) (cpus most:Int):List VZ:=yF l cpus most l.length
theorem WP (out:List VZ) (a:VZ) (most:Int) (n:Nat):ZC out a most (n+1)=if((ZC out a most n).length:Int)<most-1 then ZC out a most n++ [a]else ZC out a most n:=rfl
theorem Ww (l:List Int) (cpus most:Int) (n:Nat):yF l cpus most (n+1)=if((yF l cpus most n).length:Int)<most then jr (yF l cpus most n) (l.getD n 0) cpus most++ [uX (l.getD n 0) cpus]else yF l cpus most n:=rfl
theorem nX {out:List VZ} {a:VZ} {most:Int} {n:Nat} (h: ¬((ZC out a most n).length:Int)<most-1): ∀k,ZC out a most (n+k)=ZC out a most n:=by
 intro k
 induction k with
 |zero=>rfl
 |succ k ih=>
  rw [show n+(k+1)=(n+k)+1 from rfl,WP,ih,if_neg h]
theorem dJ {out:List VZ} {a:VZ} {most:Int} : ∀n,((ZC out a most n).length:Int)≤max (out.length:Int) (most-1):=by
 intro n
 induction n with
 |zero=>show(out.length:Int)≤_;omega
 |succ n ih=>
  unfold ZC
  split
  ·rw [List.length_append];simp only [List.length_cons,List.length_nil];omega
  exact ih
theorem bM {out:List VZ} {x cpus most:Int} :((jr out x cpus most).length:Int)≤max (out.length:Int) (most-1):=by
 unfold jr
 split
 ·exact dJ _
 omega
theorem eU {out:List VZ} {a:VZ} {most:Int} : ∀n,out.length≤(ZC out a most n).length:=by
 intro n
 induction n with
 |zero=>exact Nat.le_refl _
 |succ n ih=>
  rw [WP]
  split
  ·rw [List.length_append];omega
  exact ih
theorem aS {out:List VZ} {x cpus most:Int} :out.length≤(jr out x cpus most).length:=by
 unfold jr
 split
 ·exact eU _
 omega
theorem bv {l:List Int} {cpus most:Int} {n:Nat} (h: ¬((yF l cpus most n).length:Int)<most): ∀k,yF l cpus most (n+k)=yF l cpus most n:=by
 intro k
 induction k with
 |zero=>rfl
 |succ k ih=>
  rw [show n+(k+1)=(n+k)+1 from rfl,Ww,ih,if_neg h]
theorem Ug {l:List Int} {cpus most:Int} (hm:0≤most): ∀n,((yF l cpus most n).length:Int)≤most:=by
 intro n
 induction n with
 |zero=>exact hm
 |succ n ih=>
  unfold yF
  split
  ·have:=bM (out:=yF l cpus most n) (x:=l.getD n 0) (cpus:=cpus) (most:=most)
   rw [List.length_append];simp only [List.length_cons,List.length_nil];omega
  exact ih
set_option maxHeartbeats 1000000 in
theorem ix (R:List SP) (v:AVal) (l:List Int) (hl: ∀z,z ∈ l→gH z) (cpus most:Int) (hc:1≤cpus∧cpus≤1000) (hm:0≤most∧most≤1000):zy 35 [v,vi cpus,vi most] (ent (uh yK 1) v l::R) fun w L2=>L2=ent (zP iO 5) w (JG l cpus most)::ent (uh yK 1) v l::R:=by
 refine SW.intro rfl Tryz.func35 rfl ?_
 refine O0 18 J (zu (Sub.nilE (en:=iO) (es:=5) (fun _=>rfl) (by decide) 0 _) ?_)
 refine zl (fun j T LZ=> ∃(i:Nat) (ov:AVal),(i≤l.length∧i≤(yF l cpus most i).length)∧j=l.length-i∧T.len=10∧Tm.get 0 T=some (v)∧Tm.get 1 T=some (vi cpus)∧Tm.get 2 T=some (vi most)∧Tm.get 7 T=some (.func 15 [] [])∧Tm.get 8 T=some (ov)∧Tm.get 9 T=some (vi (i:Nat))∧Sub LZ (ent (zP iO 5) ov (yF l cpus most i)::ent (uh yK 1) v l::R)) (l.length) ⟨0,.slice none 0 (some 0) 0,⟨Nat.zero_le _,Nat.zero_le _⟩,by omega,rfl,rfl,rfl,rfl,rfl,rfl,rfl,(by exact Sub.refl _)⟩ ?_
 rintro j T L0 ⟨i,ov,hi,rfl,hl,g0,g1,g2,g7,g8,g9,hsb⟩
 obtain⟨tg,rfl⟩:=oC hl g0 g1 g2 g7 g8 g9
 clear hl g0 g1 g2 g7 g8 g9
 refine zu hsb ?_
 clear hsb L0
 refine O0 5 J (yo rfl (fun _ h=>di yK 1 rfl rfl rfl rfl rfl h) ?_)
 refine Z 1 J (z0 (fun h17=> ?_) (fun h17=> ?_))
 ·refine Z 2 J (yo rfl (fun _ h=>y0 rfl rfl rfl rfl rfl h) ?_)
  refine Z 2 J (z0 (fun h22=> ?_) (fun h22=> ?_))
  ·have hil:i<l.length:=by omega
   obtain⟨x,hx⟩: ∃x,l[i]? =some x:=⟨_,List.getElem?_eq_getElem hil⟩
   have hxo:gH x:=hl x (List.mem_of_getElem? hx)
   have hgx:l.getD i 0=x:=by rw [List.getD_eq_getElem?_getD,hx];rfl
   have hpg:=aS (out:=yF l cpus most i) (x:=x) (cpus:=cpus) (most:=most)
   have hao:=Ug (l:=l) (cpus:=cpus) hm.1 i
   refine Z 10 J (yo rfl (fun _ h=>Zm yK 1 rfl rfl rfl (by omega) (by omega) h) ?_)
   refine yo rfl (fun _ h=>vn yK 1 (j:=0) rfl rfl rfl hx rfl h) ?_
   refine Z 6 J (zf rfl (fun _=>zC rfl rfl rfl (yR (by assumption) (by omega))) ?_)
   refine Z 1 J (Z0 (wc _ _ _ (by omega)) J ?_)
   have hw34:=zk (v:=x.tdiv 32) (n:=cpus) (by omega)
   refine bu [_,_,_,_,_] J Y Y J (zd rfl rfl rfl fun i11=> ?_)
   refine sN J Y Y J J J (Z 1 J (fk (fun T LZ=> ∃(ob:AVal),T.len=10∧Tm.get 0 T=some (v)∧Tm.get 1 T=some (vi cpus)∧Tm.get 2 T=some (vi most)∧Tm.get 7 T=some (.func 15 [] [])∧Tm.get 9 T=some (vi (i:Nat))∧Tm.get 8 T=some (ob)∧Tm.get 11 T=some (vp i11 0)∧Sub LZ (ent z8 i11 (iO (uX x cpus))::ent (zP iO 5) ob (jr (yF l cpus most i) x cpus most)::ent (uh yK 1) v l::R)) ?_ ?_))
   ·refine O0 4 J ?_
    have hw37:=zk (v:=x) (n:=32) (by decide)
    refine Z0 (wc _ _ _ (by omega)) J (Z 7 J (z0 (fun h55=> ?_) (fun h55=> ?_)))
    ·refine Z 5 J (fa J Y (sO J Y J J J (Z 6 J (zl (fun j T LZ=> ∃(n:Nat) (oq:AVal),(n≤(zB (x.tdiv 64) 6).toNat)∧j=(zB (x.tdiv 64) 6).toNat-n∧T.len=10∧Tm.get 0 T=some (v)∧Tm.get 1 T=some (vi cpus)∧Tm.get 2 T=some (vi most)∧Tm.get 7 T=some (.func 15 [] [])∧Tm.get 9 T=some (vi (i:Nat))∧Tm.get 8 T=some (oq)∧Tm.get 10 T=some (vi x)∧Tm.get 11 T=some (vp i11 0)∧Tm.get 12 T=some (vi (zB x 32))∧Tm.get 13 T=some (vi (n:Nat))∧Sub LZ (ent z8 i11 [vi 1,vi (zB (x.tdiv 32) cpus),vi 0,vi 0,vi 0]::ent (zP iO 5) oq (ZC (yF l cpus most i) ⟨1,zB (x.tdiv 32) cpus,0,0,0⟩ most n)::ent (uh yK 1) v l::R)) ((zB (x.tdiv 64) 6).toNat) ⟨0,ov,by omega,by omega,rfl,rfl,rfl,rfl,rfl,rfl,rfl,rfl,rfl,rfl,rfl,(show Px.Sub _ (ent z8 i11 [vi 1,vi (zB (x.tdiv 32) cpus),vi 0,vi 0,vi 0]::ent (zP iO 5) ov (yF l cpus most i)::ent (uh yK 1) v l::R)from Y)⟩ ?_))))
     rintro j T L0 ⟨n,oq,hnw,rfl,hl,g0,g1,g2,g7,g9,g8,g10,g11,g12,g13,hsb⟩
     obtain⟨tg,rfl⟩:=A0 hl g0 g1 g2 g7 g9 g8 g10 g11 g12 g13
     clear hl g0 g1 g2 g7 g9 g8 g10 g11 g12 g13
     refine zu hsb ?_
     clear hsb L0
     have hrl:=dJ (out:=yF l cpus most i) (a:=⟨1,zB (x.tdiv 32) cpus,0,0,0⟩) (most:=most) n
     have hw6:=zk (v:=x.tdiv 64) (n:=6) (by decide)
     refine O0 6 J (zf rfl (fun _=>zC rfl rfl rfl (yR (by assumption) (by omega))) ?_)
     refine Z0 (wc _ _ _ (by omega)) J ?_
     have hw61:=zk (v:=x.tdiv 64) (n:=6) (by decide)
     refine Z 1 J (z0 (fun h62=> ?_) (fun h62=> ?_))
     ·refine Z 2 J (yo rfl (fun _ h=>y0 rfl rfl rfl rfl rfl h) ?_)
      refine Z 1 J (sb J (Z 1 J (z0 (fun h68=> ?_) (fun h68=> ?_))))
      ·refine Z 8 J (lN J Y Y J J (zT (cs:= [_,_,_,_,_]) rfl rfl rfl (by decide) rfl fun i74=> ?_))
       refine gV rfl rfl rfl rfl rfl rfl rfl ([VZ.mk 1 (zB (x.tdiv 32) cpus) 0 0 0]) rfl rfl (by simp) (by omega) rfl fun i75 q75 c75=> ?_
       refine Z 4 J (ad J (Z 2 J ?_))
       have hrs:ZC (yF l cpus most i) ⟨1,zB (x.tdiv 32) cpus,0,0,0⟩ most (n+1)=(ZC (yF l cpus most i) ⟨1,zB (x.tdiv 32) cpus,0,0,0⟩ most n)++ [⟨1,zB (x.tdiv 32) cpus,0,0,0⟩]:=if_pos (by omega)
       exact Or.inl ⟨rfl,_,by omega,n+1,_,by omega,rfl,rfl,rfl,rfl,rfl,rfl,rfl,rfl,rfl,rfl,rfl,rfl,(by rw [hrs];exact Y)⟩
      refine Z 4 J (Or.inr ⟨nofun,?_⟩)
      have hat:uX x cpus=⟨1,zB (x.tdiv 32) cpus,0,0,0⟩:=by unfold uX;rw [if_pos (by omega)]
      have hpr:jr (yF l cpus most i) x cpus most=ZC (yF l cpus most i) ⟨1,zB (x.tdiv 32) cpus,0,0,0⟩ most n:=by
       unfold jr
       rw [if_pos (by omega),hat]
       obtain⟨q,hq⟩: ∃q,(zB (x.tdiv 64) 6).toNat=n+q:=⟨(zB (x.tdiv 64) 6).toNat-n,by omega⟩
       rw [hq]
       exact nX (by omega) q
      exact⟨oq,rfl,rfl,rfl,rfl,rfl,rfl,rfl,rfl,(by rw [hat,hpr];exact Y)⟩
     refine Z 10 J (Or.inr ⟨nofun,?_⟩)
     have hat:uX x cpus=⟨1,zB (x.tdiv 32) cpus,0,0,0⟩:=by unfold uX;rw [if_pos (by omega)]
     have hpr:jr (yF l cpus most i) x cpus most=ZC (yF l cpus most i) ⟨1,zB (x.tdiv 32) cpus,0,0,0⟩ most n:=by
      unfold jr
      rw [if_pos (by omega),hat]
      rw [show(zB (x.tdiv 64) 6).toNat=n by omega]
     exact⟨oq,rfl,rfl,rfl,rfl,rfl,rfl,rfl,rfl,(by rw [hat,hpr];exact Y)⟩
    refine Z 7 J (z0 (fun h78=> ?_) (fun h78=> ?_))
    ·refine Z 4 J (fa J Y (sO J Y J J J (Z 1 J ?_)))
     have hat:uX x cpus=⟨2,zB (x.tdiv 32) cpus,0,0,0⟩:=by unfold uX;rw [if_neg (by omega),if_pos (by omega)]
     have hpr:jr (yF l cpus most i) x cpus most=yF l cpus most i:=if_neg (by omega)
     exact⟨ov,rfl,rfl,rfl,rfl,rfl,rfl,rfl,rfl,(by rw [hat,hpr];exact Y)⟩
    refine Z 7 J (z0 (fun h82=> ?_) (fun h82=> ?_))
    ·refine Z 6 J (zf rfl (fun _=>zC rfl rfl rfl (yR (by assumption) (by omega))) ?_)
     refine Z0 (wc _ _ _ (by omega)) J (fa J Y (sO J Y J J J (fa J Y (sO J Y J J J (Z 1 J ?_)))))
     have hat:uX x cpus=⟨3,zB (x.tdiv 32) cpus,zB (x.tdiv 64) 520,0,0⟩:=by unfold uX;rw [if_neg (by omega),if_neg (by omega),if_pos (by omega)]
     have hpr:jr (yF l cpus most i) x cpus most=yF l cpus most i:=if_neg (by omega)
     exact⟨ov,rfl,rfl,rfl,rfl,rfl,rfl,rfl,rfl,(by rw [hat,hpr];exact Y)⟩
    refine Z 7 J (z0 (fun h91=> ?_) (fun h91=> ?_))
    ·refine Z 6 J (zf rfl (fun _=>zC rfl rfl rfl (yR (by assumption) (by omega))) ?_)
     refine Z0 (wc _ _ _ (by omega)) J (fa J Y (sO J Y J J J (fa J Y (sO J Y J J J (Z 1 J ?_)))))
     have hat:uX x cpus=⟨4,zB (x.tdiv 32) cpus,zB (x.tdiv 64) 9,0,0⟩:=by unfold uX;rw [if_neg (by omega),if_neg (by omega),if_neg (by omega),if_pos (by omega)]
     have hpr:jr (yF l cpus most i) x cpus most=yF l cpus most i:=if_neg (by omega)
     exact⟨ov,rfl,rfl,rfl,rfl,rfl,rfl,rfl,rfl,(by rw [hat,hpr];exact Y)⟩
    refine Z 7 J (z0 (fun h100=> ?_) (fun h100=> ?_))
    ·refine Z 6 J (zf rfl (fun _=>zC rfl rfl rfl (yR (by assumption) (by omega))) ?_)
     refine Z0 (wc _ _ _ (by omega)) J (Z 2 J (zf rfl (fun _=>zC rfl rfl rfl (yR (by assumption) (by omega))) ?_))
     refine Z0 (wc _ _ _ (by omega)) J (fa J Y (sO J Y J J J (fa J Y (sO J Y J J J (fa J Y (sO J Y J J J (Z 1 J ?_)))))))
     have hat:uX x cpus=⟨5,zB (x.tdiv 32) cpus,zB (x.tdiv 64) 5,zB (x.tdiv 512) 9,0⟩:=by unfold uX;rw [if_neg (by omega),if_neg (by omega),if_neg (by omega),if_neg (by omega),if_pos (by omega)]
     have hpr:jr (yF l cpus most i) x cpus most=yF l cpus most i:=if_neg (by omega)
     exact⟨ov,rfl,rfl,rfl,rfl,rfl,rfl,rfl,rfl,(by rw [hat,hpr];exact Y)⟩
    refine Z 7 J (z0 (fun h114=> ?_) (fun h114=> ?_))
    ·refine Z 3 J (zO [0,0,0,4,14,31,63,0,0,256,926,1950,0,0,8192,30622,0,128926,260095,522239,1048575,2097151,4194303,8388607] [([0,1,2,3,7,8,9,12,13,14,16],[3,9,14],some 4),([5,6],[9,14,6],some 10),([11],[14,6,11],some 15),([],[6,11],some 17),([18],[6,11],some 19),([20],[11],some 21),([22],[],some 23),([],[],none)] (by kernel_rfl) ?_)
     refine z4 (va (cs:= [_,_,_,_,_,_,_,_]) rfl rfl rfl (by decide) rfl fun i115=> ?_)
     refine ZK 2 J (vN rfl (fun _=>zC rfl rfl rfl (yR (by assumption) (by omega))) ?_)
     refine ZK 2 J (vN rfl (fun _=>zC rfl rfl rfl (yR (by assumption) (by omega))) ?_)
     refine ZK 2 J (vN rfl (fun _=>zC rfl rfl rfl (yR (by assumption) (by omega))) ?_)
     refine zj J Y (z5 ⟨(vF rfl (fun _=>zC rfl rfl rfl (yR (by assumption) (by omega))) rfl rfl (z3 _ rfl) (vF rfl (fun _=>zC rfl rfl rfl (yR (by assumption) (by omega))) rfl rfl (z3 _ rfl) (vF rfl (fun _=>zC rfl rfl rfl (yR (by assumption) (by omega))) rfl rfl (z3 _ rfl) z6))),?_⟩)
     refine Z0 (wc _ _ _ (by omega)) J (zR (Sub.one (K:=z8) (a:=i115) (K2:=uh yK 1) (a2:= .slice (some (i115,0)) 8 (some 8) 1) (x2:= [2056,2057,8,0,10,3584,16,41]) (jm (l:= [2056,2057,8,0,10,3584,16,41]))) ?_)
     have hw119:=zk (v:=x.tdiv 64) (n:=8) (by decide)
     have hp119:=QY (l:= [2056,2057,8,0,10,3584,16,41]) (k:=zB (x.tdiv 64) 8) ⟨hw119.1,hw119.2⟩
     refine zF (z4 (uW rfl (fun _ h=>Zm yK 1 rfl rfl rfl hw119.1 (by exact hw119.2) h) ?_))
     refine uW rfl (fun _ h=>vn yK 1 (j:=0) rfl rfl rfl hp119 rfl h) ?_
     refine z5 ⟨(vF rfl (fun _=>zC rfl rfl rfl (yR (by assumption) (by omega))) rfl rfl (z3 _ rfl) (vF rfl (fun _=>zC rfl rfl rfl (yR (by assumption) (by omega))) rfl rfl (z3 _ rfl) (wV rfl (fun _ h=>vn yK 1 (j:=0) rfl rfl rfl hp119 rfl h) rfl rfl (z3 _ rfl) z6))),?_⟩
     refine Z0 (wc _ _ _ (by omega)) J ?_
     have hw125:=zk (v:=x.tdiv 512) (n:=5) (by decide)
     refine zF (z4 (vN rfl (fun _=>zC rfl rfl rfl (uG (by omega))) ?_))
     refine z5 ⟨(vF rfl (fun _=>zC rfl rfl rfl (yR (by assumption) (by omega))) rfl rfl (z3 _ rfl) (wV rfl (fun _ h=>vn yK 1 (j:=0) rfl rfl rfl hp119 rfl h) rfl rfl (z3 _ rfl) (vF rfl (fun _=>zC rfl rfl rfl (uG (by omega))) rfl rfl (z3 _ rfl) z6))),?_⟩
     refine Z0 (wc _ _ _ (by omega)) J (zF (z4 (z5 ⟨(wV rfl (fun _ h=>vn yK 1 (j:=0) rfl rfl rfl hp119 rfl h) rfl rfl (z3 _ rfl) (vF rfl (fun _=>zC rfl rfl rfl (uG (by omega))) rfl rfl (z3 _ rfl) z6)),?_⟩)))
     refine sO J Y J J J (zF (z4 (zj J Y (z5 ⟨(wV rfl (fun _ h=>vn yK 1 (j:=0) rfl rfl rfl hp119 rfl h) rfl rfl (z3 _ rfl) (vF rfl (fun _=>zC rfl rfl rfl (uG (by omega))) rfl rfl (z3 _ rfl) z6)),?_⟩))))
     refine sO J Y J J J (zF (z4 (zj J Y (z5 ⟨(vF rfl (fun _=>zC rfl rfl rfl (uG (by omega))) rfl rfl (z3 _ rfl) z6),?_⟩))))
     refine sO J Y J J J (zF (z4 (zj J Y (z5 ⟨z6,?_⟩))))
     refine sO J Y J J J (zF (z4 (z5 ⟨z6,?_⟩)))
     have hat:uX x cpus=⟨6,zB (x.tdiv 32) cpus,pk [2056,2057,8,0,10,3584,16,41] (zB (x.tdiv 64) 8),zB (x.tdiv 512) 5*8,zB (x.tdiv 64) 65⟩:=by unfold uX;rw [if_neg (by omega),if_neg (by omega),if_neg (by omega),if_neg (by omega),if_neg (by omega),if_pos (by omega)]
     have hpr:jr (yF l cpus most i) x cpus most=yF l cpus most i:=if_neg (by omega)
     exact⟨ov,rfl,rfl,rfl,rfl,rfl,rfl,rfl,rfl,(by rw [hat,hpr];exact Y)⟩
    refine Z 7 J (z0 (fun h137=> ?_) (fun h137=> ?_))
    ·refine Z 6 J (zf rfl (fun _=>zC rfl rfl rfl (yR (by assumption) (by omega))) ?_)
     refine Z0 (wc _ _ _ (by omega)) J (Z 2 J (zf rfl (fun _=>zC rfl rfl rfl (yR (by assumption) (by omega))) ?_))
     refine Z0 (wc _ _ _ (by omega)) J (Z 2 J (Z0 (wc _ _ _ (by omega)) J ?_))
     have hw148:=zk (v:=x) (n:=70) (by decide)
     refine sb J (fa J Y (sO J Y J J J (fa J Y (sO J Y J J J (fa J Y (sO J Y J J J (fa J Y (sO J Y J J J (Z 1 J ?_)))))))))
     have hat:uX x cpus=⟨6,zB (x.tdiv 32) cpus,zB (x.tdiv 64) 4200,zB (x.tdiv 512) 4200,zB x 70-3⟩:=by unfold uX;rw [if_neg (by omega),if_neg (by omega),if_neg (by omega),if_neg (by omega),if_neg (by omega),if_neg (by omega),if_pos (by omega)]
     have hpr:jr (yF l cpus most i) x cpus most=yF l cpus most i:=if_neg (by omega)
     exact⟨ov,rfl,rfl,rfl,rfl,rfl,rfl,rfl,rfl,(by rw [hat,hpr];exact Y)⟩
    refine Z 6 J (zf rfl (fun _=>zC rfl rfl rfl (yR (by assumption) (by omega))) ?_)
    refine Z0 (wc _ _ _ (by omega)) J (Z 2 J (zf rfl (fun _=>zC rfl rfl rfl (yR (by assumption) (by omega))) ?_))
    refine Z0 (wc _ _ _ (by omega)) J ?_
    have hw46:=zk (v:=x.tdiv 32) (n:=4) (by decide)
    refine sb J (Z 1 J (zf rfl (fun _=>zC rfl rfl rfl (j6 (by omega))) ?_))
    refine Z 1 J (zf rfl (fun _=>zC rfl rfl rfl (j6 (by omega))) ?_)
    refine bu [_,_,_,_,_] J Y Y J (sN J Y Y J J J (Z 1 J ?_))
    have hat:uX x cpus=⟨zB (x.tdiv 64) 9,zB (x.tdiv 32) 4-1,x.tmod 100,x.tmod 7,0⟩:=by unfold uX;rw [if_neg (by omega),if_neg (by omega),if_neg (by omega),if_neg (by omega),if_neg (by omega),if_neg (by omega),if_neg (by omega)]
    have hpr:jr (yF l cpus most i) x cpus most=yF l cpus most i:=if_neg (by omega)
    exact⟨ov,rfl,rfl,rfl,rfl,rfl,rfl,rfl,rfl,(by rw [hat,hpr];exact Y)⟩
   rintro T L0 ⟨ob,hl,g0,g1,g2,g7,g9,g8,g11,hsb⟩
   obtain⟨tg,rfl⟩:=Cw hl g0 g1 g2 g7 g9 g8 g11
   clear hl g0 g1 g2 g7 g9 g8 g11
   refine zu hsb ?_
   clear hsb L0
   have hpl:=bM (out:=yF l cpus most i) (x:=x) (cpus:=cpus) (most:=most)
   refine O 2 J (lN J Y Y J J (zT (cs:= [_,_,_,_,_]) rfl rfl rfl (by decide) rfl fun i156=> ?_))
   refine gV rfl rfl rfl rfl rfl rfl rfl ([uX x cpus]) rfl rfl (by simp) (by omega) rfl fun i157 q157 c157=> ?_
   refine Z 4 J (ad J (Z 2 J ?_))
   have has:yF l cpus most (i+1)=jr (yF l cpus most i) x cpus most++ [uX x cpus]:=by show(if _ then _ else _)=_;rw [hgx,if_pos (by omega)]
   exact Or.inl ⟨rfl,_,by omega,i+1,_,⟨by omega,by rw [has,List.length_append];simp only [List.length_cons,List.length_nil];omega⟩,rfl,rfl,rfl,rfl,rfl,rfl,rfl,rfl,(by rw [has];exact Y)⟩
  refine Z 4 J (Or.inr ⟨nofun,?_⟩)
  refine OX 6 J (zE J J J ?_)
  have hE:JG l cpus most=yF l cpus most i:=by
   unfold JG
   obtain⟨q,hq⟩: ∃q,l.length=i+q:=⟨l.length-i,by omega⟩
   rw [hq]
   exact bv (by omega) q
  rw [hE]
  exact⟨_,rfl,Y⟩
 refine Z 9 J (Or.inr ⟨nofun,?_⟩)
 refine OX 6 J (zE J J J ?_)
 have hE:JG l cpus most=yF l cpus most i:=by
  unfold JG
  obtain⟨q,hq⟩: ∃q,l.length=i+q:=⟨l.length-i,by omega⟩
  rw [hq]
  rw [show q=0 by omega];rfl
 rw [hE]
 exact⟨_,rfl,Y⟩
theorem nm {fr cpus:Int} {kpti inv:Bool} {sec:List Nat} {cs:List (List yl)} {e:Int} {S:KS} (h:jD fr cpus kpti inv sec cs=(e,some S)):
 e=0∧S.Okk 1∧S.Q.n=cpus.toNat∧S.N.gen≤3*cpus.toNat∧ ∀d,d<cpus.toNat→S.Rt d:=by
 unfold jD at h
 split at h
 ·cases h
 rename_i hb
 split at h
 ·cases h
 rename_i hg
 have hb:qt fr cpus=true:=by cases hx:qt fr cpus with|true=>rfl|false=>exact absurd hx hb
 have hbd:=mc hb
 have hl:cs.length≤4:=by rcases Nat.lt_or_ge 4 cs.length with h1|h1;exact absurd (.inl h1) hg;exact h1
 have hc: ∀c,c ∈ cs→q8 c=true:=fun c hm=>by cases h1:q8 c with|true=>rfl|false=>exact absurd (.inr (List.any_eq_true.2 ⟨c,hm,by rw [h1];rfl⟩)) hg
 split at h
 ·cases h
 rename_i T hT
 cases h
 obtain⟨h1,h2,h3⟩:=xg ⟨hbd.1,hbd.2.1⟩ cs hl hc hT
 obtain⟨h4,h5,h6⟩:=WQ h1 cpus.toNat (by omega)
 exact⟨rfl,h4,h6.trans h3,by omega,cF h1 cpus.toNat (by omega)⟩
theorem nl {fr cpus:Int} {kpti inv:Bool} {sec:List Nat} {cs:List (List yl)} {e:Int} (h:jD fr cpus kpti inv sec cs=(e,none)):e≠0:=by
 unfold jD at h
 split at h
 ·cases h;decide
 split at h
 ·cases h;decide
 split at h
 ·cases h;decide
 cases h
theorem Gj (ls:List (List Int)):(gU ls).length≤3∧ ∀j,((gU ls).getD j []).length≤24:=by
 unfold gU
 split
 ·refine⟨by simp,fun j=> ?_⟩
  cases j with
  |zero=>exact Q8 _ _
  |succ j=>simp
 refine⟨by simp;omega,fun j=> ?_⟩
 rw [List.getD_eq_getElem?_getD,List.getElem?_map]
 cases h:(List.range (min 3 ls.length))[j]? with
 |none=>simp
 |some q=>exact Q8 _ _
theorem lz {P:VZ→Prop} {out:List VZ} {a:VZ} {most:Int} (ho: ∀x,x ∈ out→P x) (ha:P a): ∀n x,x ∈ ZC out a most n→P x:=by
 intro n
 induction n with
 |zero=>exact ho
 |succ n ih=>
  intro x hx
  rw [WP]at hx
  split at hx
  ·rcases List.mem_append.1 hx with h|h
   ·exact ih x h
   rw [List.mem_singleton.1 h];exact ha
  exact ih x hx
theorem ll {P:VZ→Prop} {l:List Int} {cpus most:Int} (hP: ∀x,P (uX x cpus)): ∀n x,x ∈ yF l cpus most n→P x:=by
 intro n
 induction n with
 |zero=>intro x h;cases h
 |succ n ih=>
  intro x hx
  rw [Ww]at hx
  split at hx
  ·rcases List.mem_append.1 hx with h|h
   ·unfold jr at h
    split at h
    ·exact lz ih (hP _) _ x h
    exact ih x h
   rw [List.mem_singleton.1 h];exact hP _
  exact ih x hx
theorem eV (x cpus:Int) (hc:0<cpus):(uX x cpus).a≤9223372036854775807∧(uX x cpus).b≤9223372036854775807:=by
 have w1:=zk (v:=x.tdiv 64) (n:=520) (by decide)
 have w2:=zk (v:=x.tdiv 64) (n:=9) (by decide)
 have w3:=zk (v:=x.tdiv 64) (n:=5) (by decide)
 have w4:=zk (v:=x.tdiv 512) (n:=9) (by decide)
 have w5:=zk (v:=x.tdiv 512) (n:=5) (by decide)
 have w6:=zk (v:=x.tdiv 64) (n:=4200) (by decide)
 have w7:=zk (v:=x.tdiv 512) (n:=4200) (by decide)
 have w8:=kM (v:=x) (n:=100) (by decide)
 have w9:=kM (v:=x) (n:=7) (by decide)
 have p1:=iQ (l:= [2056,2057,8,0,10,3584,16,41]) (k:=zB (x.tdiv 64) 8) (fun x=>0≤x∧x≤3584) (by decide) (zk (by decide))
 unfold uX
 iterate 7 refine iP (fun a:VZ=>a.a≤9223372036854775807∧a.b≤9223372036854775807) (fun _=>by constructor<;>dsimp only<;>omega) fun _=> ?_
 constructor<;>dsimp only<;>omega
theorem mt (R:List SP):zy 22 [] R fun w L2=>w= .bool true∧L2=R:=SW.hooked (g:=YI) rfl fun H hH=>⟨_,H,rfl,R,⟨rfl,rfl⟩,hH⟩
section
variable {R:List SP} {k:Nat} {L:KL} {S:KS}
theorem kH (z:Int) (h:0≤z∧z<S.Q.n):zy 26 [vp k 0,vi z] (ent zp k (L,S)::R) fun w L2=>w=vp (L.c z.toNat) 0∧L2=ent zp k (L,S)::R:=
 (ij R k L S z).mono fun w L2 ⟨h1,h2⟩=>⟨by rw [h1,if_pos h],h2⟩
theorem mM (z:Int) (h:0≤z∧z<S.Q.n):zy 27 [vp (L.c z.toNat) 0] (ent zp k (L,S)::R) fun w L2=>w=vp (L.u z.toNat) 0∧L2=ent zp k (L,S)::R:=
 kern_cpu (c:=z.toNat) (by omega) fun R'=>Qw R' _ _
theorem GD (z:Int) (h:0≤z∧z<S.Q.n):zy 36 [vp (L.u z.toNat) 0] (ent zp k (L,S)::R) fun w L2=>w=vi (S.U z.toNat).root∧L2=ent zp k (L,S)::R:=
 kern_mmu (c:=z.toNat) (by omega) fun R'=>mD R' _ _
theorem Ut (z:Int) (h:0≤z∧z<S.Q.n):zy 37 [vp (L.u z.toNat) 0] (ent zp k (L,S)::R) fun w L2=>w=vi (S.U z.toNat).pcid∧L2=ent zp k (L,S)::R:=
 kern_mmu (c:=z.toNat) (by omega) fun R'=>mJ R' _ _
theorem k9:zy 38 [vp L.n 0] (ent zp k (L,S)::R) fun w L2=>w=vi S.N.gen∧L2=ent zp k (L,S)::R:=la fun R'=>A4 R' _ _
theorem Um (z:Int) (hz:z<0):zy 39 [vp k 0,vi z] (ent zp k (L,S)::R) fun w L2=>w= .tuple [.agg (jC (fun _=>0) (.slice none 0 (some 0) 0) 0),.bool false]∧L2=ent zp k (L,S)::R:=
 fG R k L S z (by unfold KS.of;rw [if_neg (by omega)])
theorem UN (z:Int) (hz:0≤z) {x:yg} {b:Nat} (h:S.Okk b) (hx:S.pr z.toNat=some x):zy 39 [vp k 0,vi z] (ent zp k (L,S)::R) fun w L2=> ∃v,w= .tuple [.agg (jC x.w v x.pc),.bool true]∧L2=ent (zP qN 4) v x.code::ent zp k (L,S)::R:=by
 have e:=pD R k L S z.toNat x (h.lt hx) hx (by have:=(h.pr _ _ hx).code;omega)
 rw [show((z.toNat:Nat):Int)=z by omega]at e
 exact e
end
theorem nV {eq:AVal→AVal→Option Bool} {P:Program} {e:TypeId} {n:Nat} {xs:List AVal} : ∀(k i:Nat),(∀j,j<k→ ∃a,jP P e xs ((i+j)*n)=some a∧eq a a=some true)→Zi eq P e n xs xs k i=some true:=by
 intro k
 induction k with
 |zero=>intro i _;rfl
 |succ k ih=>
  intro i h
  obtain⟨a,h1,h2⟩:=h 0 (by omega)
  unfold Zi
  rw [Nat.add_zero]at h1
  rw [h1]
  simp only [h2]
  exact ih (i+1) fun j hj=>by
   have:=h (j+1) (by omega)
   rw [show i+1+j=i+(j+1)by omega];exact this
theorem aW {P:Program} {F:z9} {H:Hp} {t:TypeId} {c:Bool} {cs ds:List AVal} (h1:km P t c (.agg cs) (.agg ds)=true) (h2:Yb P F H 60 t (.agg cs) (.agg ds)=some true):wJ P F H .neq t c (.agg cs) (.agg ds)=some (.bool false):=by
 show(bif km P t c (.agg cs) (.agg ds)then(match Yb P F H 60 t (.agg cs) (.agg ds)with
  |some b=>some (AVal.bool (!b))
  |none=>none)else none)=_
 rw [h1,h2]
 rfl
theorem rH {H:Hp} {c:Bool} (w:Nat→Nat):wJ Tryz.prog [] H .neq 68 c (.agg [vu (w 0),vu (w 1),vu (w 2),vu (w 3),vu (w 4),vu (w 5),vu (w 6),vu (w 7)]) (.agg [vu (w 0),vu (w 1),vu (w 2),vu (w 3),vu (w 4),vu (w 5),vu (w 6),vu (w 7)])=some (.bool false):=by
 have hu: ∀z:Nat,Yb Tryz.prog [] H 59 32 (vu z) (vu z)=some true:=fun z=>by
  show zU.eq [] (.lit (z:Int)) (.lit (z:Int))=some true
  show some (gD (z:Int) (z:Int))=some true
  rw [wh,decide_eq_true rfl]
 have he:Yb Tryz.prog [] H 60 68 (.agg [vu (w 0),vu (w 1),vu (w 2),vu (w 3),vu (w 4),vu (w 5),vu (w 6),vu (w 7)]) (.agg [vu (w 0),vu (w 1),vu (w 2),vu (w 3),vu (w 4),vu (w 5),vu (w 6),vu (w 7)])=some true:=by
  show Zi (Yb Tryz.prog [] H 59 32) Tryz.prog 32 1 [vu (w 0),vu (w 1),vu (w 2),vu (w 3),vu (w 4),vu (w 5),vu (w 6),vu (w 7)] [vu (w 0),vu (w 1),vu (w 2),vu (w 3),vu (w 4),vu (w 5),vu (w 6),vu (w 7)] 8 0=some true
  refine nV 8 0 fun j hj=> ?_
  rcases(by omega:j=0∨j=1∨j=2∨j=3∨j=4∨j=5∨j=6∨j=7)with rfl|rfl|rfl|rfl|rfl|rfl|rfl|rfl<;>exact⟨_,rfl,hu _⟩
 exact aW rfl he
set_option maxHeartbeats 2000000 in
theorem c3 (n:Int) (hn64:gH n) (cv:AVal) (ls:List (List Int)) (hls: ∀q z,z ∈ ls.getD q []→gH z) (v:AVal) (l:List Int) (hl: ∀z,z ∈ l→gH z):zy 7 [vi n,cv,v] (ent nQ cv ls::ent (uh yK 1) v l::([]:List SP)) fun w _=>w= .bool true:=by
 refine SW.intro rfl Tryz.func7 rfl ?_
 refine O0 7 J (Z0 (ip _ n hn64) J (zd rfl rfl rfl fun i7=> ?_))
 refine sN J Y Y J J J (Z 3 J (fa J Y (sO J Y J J J (fa J Y (sO J Y J J J (Z 2 J (zO [0,0,2,7,15,31,31,63,255] [([0,1],[0],some 2),([],[0],some 3),([4,5,6,7,8],[],none)] (by kernel_rfl) ?_)))))))
 refine z4 (Vl J Y Y J J (ZK 1 J (z5 ⟨(YC J Y Y J J J (z3 _ rfl) z6),?_⟩)))
 refine yG (oL _ cv ls hls) rfl (fun _=>rfl) ?_
 rintro u28 _ rfl
 refine zF (z4 (z5 ⟨(YC J Y Y J J J (z3 _ rfl) z6),?_⟩))
 refine zR (Sub.nilE (en:=W8) (es:=1) (fun _=>rfl) (by decide) 0 _) ?_
 refine Yc (ay _ 64 2 (rm n) (fc n) (.slice none 0 (some 0) 0) [] (by decide) (fun x h=>by cases h) u28 (gU ls) (by have:=(Gj ls).1;omega) (fun j=>by have:=(Gj ls).2 j;omega)) rfl (fun _=>rfl) ?_
 intro w29 L29 hp29
 rcases hbt:jD 64 2 (rm n) (fc n) [] (gU ls)with⟨e9,_|S⟩
 ·rw [hbt]at hp29
  obtain⟨rfl,rfl⟩:=hp29
  have hne:=nl hbt
  refine zF (z4 (ZK 5 J (z5 ⟨z6,?_⟩)))
  refine OX 4 J (zf rfl (fun _=>zC rfl rfl rfl (vI rfl)) (GM (hne) ?_))
  refine Z 14 J (zf rfl (fun _=>zC rfl rfl rfl (vI rfl)) (GM (hne) ?_))
  exact Z 1 J (Z0 (mt _) J (Z 4 J (zE J J J ⟨_,rfl,Sub.nil _⟩)))
 rw [hbt]at hp29
 obtain⟨k,L,rfl,rfl⟩:=hp29
 obtain⟨rfl,hok0,hn0,hg0,hr0⟩:=nm hbt
 refine zF (z4 (ZK 5 J (z5 ⟨z6,?_⟩)))
 refine OX 4 J (zf rfl (fun _=>zC rfl rfl rfl (vI rfl)) (qM (by omega) ?_))
 refine Z 2 J (zf rfl (fun _=>zC rfl rfl rfl rfl) ?_)
 refine Z 3 J (Z1 (W2 _ k L S) J Y (zf rfl (fun _=>zC rfl rfl rfl rfl) ?_))
 refine Z 8 J (yG (ix _ v l hl 2 50 (by omega) (by omega)) rfl (fun _=>rfl) ?_)
 rintro u49 _ rfl
 refine yo rfl (fun _ h=>y0 rfl rfl rfl rfl rfl h) ?_
 refine Z 3 J ?_
 obtain⟨acts,hacts⟩: ∃acts,acts=JG l 2 50:=⟨_,rfl⟩
 have hlen:acts.length≤50:=by have:=Ug (l:=l) (cpus:=2) (most:=50) (by decide) l.length;rw [hacts];show(yF l 2 50 l.length).length≤50;omega
 have hact: ∀a,a ∈ acts→a.a≤9223372036854775807∧a.b≤9223372036854775807:=by rw [hacts];exact fun a h=>ll (P:=fun a=>a.a≤9223372036854775807∧a.b≤9223372036854775807) (fun x=>eV x 2 (by decide)) l.length a h
 rw [←hacts]
 refine zl (fun j T LZ=> ∃(ii:Nat) (S:KS),(ii≤acts.length)∧(S.Okk (ii+1))∧(S.Q.n=2)∧(S.N.gen≤6+6*ii)∧(∀d,d<2→S.Rt d)∧j=acts.length-ii∧T.len=11∧Tm.get 8 T=some (vp k 0)∧Tm.get 49 T=some (u49)∧Tm.get 50 T=some (vi (acts.length:Nat))∧Tm.get 51 T=some (vi (ii:Nat))∧Sub LZ (ent (zP iO 5) u49 acts::ent zp k (L,S):: [])) (acts.length) ⟨0,S,by omega,hok0,hn0,by omega,hr0,by omega,rfl,rfl,rfl,rfl,rfl,Y⟩ ?_
 rintro j T L0 ⟨ii,S,hi,hok,hn,hg,hrt,rfl,hl,g8,g49,g50,g51,hsb⟩
 obtain⟨tg,rfl⟩:=W7 hl g8 g49 g50 g51
 clear hl g8 g49 g50 g51
 refine zu hsb ?_
 clear hsb L0
 refine O0 3 J (z0 (fun h52=> ?_) (fun h52=> ?_))
 ·obtain⟨a,ha⟩: ∃a,acts[ii]? =some a:=⟨_,List.getElem?_eq_getElem (by omega)⟩
  obtain⟨ha1,ha2⟩:=hact a (List.mem_of_getElem? ha)
  refine Z 8 J (yo rfl (fun _ h=>yM rfl rfl rfl (by omega) (by omega) h) ?_)
  refine yo rfl (fun _ h=>Wo rfl rfl rfl ha h) ?_
  refine zd rfl rfl rfl fun i11=> ?_
  refine sN J Y Y J J J (Z 4 J (fa J Y (ld J Y J (Z 1 J (z0 (fun h57=> ?_) (fun h57=> ?_))))))
  ·refine Z 27 J (lN J Y Y J J (uw (K:=zp) (a:=k) (x:=(L,S)) (Yd k (L,S)) fun hM=> ?_))
   have hok2:=hok.step hM (wN.mk a.d a.p a.a a.b a.c)
   refine Z1 (Vq _ k L S (ii+1) hok (by omega) (by omega) (wN.mk a.d a.p a.a a.b a.c) ha1 ha2) J Y (Z 3 J (ad J (Z 2 J ?_)))
   obtain⟨hK,hn2,hrr⟩:=pB hok hn hrt (wN.mk a.d a.p a.a a.b a.c)
   have hg2:=Uv hok (wN.mk a.d a.p a.a a.b a.c)
   exact Or.inl ⟨rfl,_,by omega,ii+1,(S.step (wN.mk a.d a.p a.a a.b a.c)).2,by omega,hok2,hn2,by omega,hrr,rfl,rfl,rfl,rfl,rfl,rfl,Y⟩
  refine Z 1 J (fa J Y (ld J Y J (Z 1 J (z0 (fun h61=> ?_) (fun h61=> ?_)))))
  ·refine Z 23 J (lN J Y Y J J (uw (K:=zp) (a:=k) (x:=(L,S)) (Yd k (L,S)) fun hM=> ?_))
   have hok2:=hok.step hM (wN.mk a.d a.p a.a a.b a.c)
   refine Z1 (Vq _ k L S (ii+1) hok (by omega) (by omega) (wN.mk a.d a.p a.a a.b a.c) ha1 ha2) J Y (Z 3 J (ad J (Z 2 J ?_)))
   obtain⟨hK,hn2,hrr⟩:=pB hok hn hrt (wN.mk a.d a.p a.a a.b a.c)
   have hg2:=Uv hok (wN.mk a.d a.p a.a a.b a.c)
   exact Or.inl ⟨rfl,_,by omega,ii+1,(S.step (wN.mk a.d a.p a.a a.b a.c)).2,by omega,hok2,hn2,by omega,hrr,rfl,rfl,rfl,rfl,rfl,rfl,Y⟩
  have hz01:0≤1-a.p∧1-a.p<S.Q.n:=⟨by omega,by omega⟩
  obtain⟨hK,hn2,hrr⟩:=pB hok hn hrt (wN.mk a.d a.p a.a a.b a.c)
  have hK1:=hK (1-a.p).toNat (by omega) (by show(((1-a.p).toNat:Nat):Int)≠a.p;omega)
  have hg2:=Uv hok (wN.mk a.d a.p a.a a.b a.c)
  refine Z 3 J (fa J Y (ld J Y J (sb J (Z1 (kH (k:=k) (L:=L) (S:=S) _ hz01) J Y (zf rfl (fun _=>zC rfl rfl rfl rfl) ?_)))))
  refine Z 3 J (fa J Y (ld J Y J (sb J (Z1 (kH (k:=k) (L:=L) (S:=S) _ hz01) J Y (Z1 (mM (k:=k) (L:=L) (S:=S) _ hz01) J Y (zf rfl (fun _=>zC rfl rfl rfl rfl) ?_))))))
  refine Z 7 J (fa J Y (ld J Y J (sb J (Z1 (kH (k:=k) (L:=L) (S:=S) _ hz01) J Y (Z1 (mM (k:=k) (L:=L) (S:=S) _ hz01) J Y (Z 5 J (fa J Y (ld J Y J (sb J (Z1 (cK _ k L S _) J Y (Z 1 J (Z1 (GD (k:=k) (L:=L) (S:=S) _ hz01) J Y (Z 1 J (Z1 (Ut (k:=k) (L:=L) (S:=S) _ hz01) J Y (Z 1 J (Z1 (W2 _ k L S) J Y (Z1 (k9 (k:=k) (L:=L) (S:=S)) J Y ?_)))))))))))))))))
  rcases Int.lt_or_le (S.Q.cpu (1-a.p)) 0 with hz|hz
  ·refine Z 9 J (Z1 (Um _ hz) J Y (Z 3 J (zd rfl rfl rfl fun i17=> ?_)))
   refine sN J Y Y J J J (Z 5 J (lN J Y Y J J (uw (K:=zp) (a:=k) (x:=(L,S)) (Yd k (L,S)) fun hM=> ?_)))
   have hok2:=hok.step hM (wN.mk a.d a.p a.a a.b a.c)
   refine Z1 (Vq _ k L S (ii+1) hok (by omega) (by omega) (wN.mk a.d a.p a.a a.b a.c) ha1 ha2) J Y ?_
   have hkc:((S.step (wN.mk a.d a.p a.a a.b a.c)).2).Q.cpu (1-a.p)=S.Q.cpu (1-a.p):=by
    have e1:=hK1.on
    have e2:=hK1.n
    unfold zV.cpu
    rw [if_pos ⟨by omega,by omega⟩,if_pos ⟨by omega,by omega⟩];exact e1
   have hzz2:0≤1-a.p∧1-a.p<((S.step (wN.mk a.d a.p a.a a.b a.c)).2).Q.n:=⟨by omega,by omega⟩
   refine Z 5 J (Z1 (Um _ hz) J Y (Z 3 J (zd rfl rfl rfl fun i19=> ?_)))
   refine sN J Y Y J J J (Z 5 J (fa J Y (ld J Y J (sb J (Z1 (cK _ k L (S.step (wN.mk a.d a.p a.a a.b a.c)).2 _) J Y (Z 1 J (zf rfl (fun _=>zC rfl rfl rfl (vI rfl)) (qM (fun h=>h hkc) ?_))))))))
   refine Z 2 J (Z1 (GD (k:=k) (L:=L) (S:=(S.step (wN.mk a.d a.p a.a a.b a.c)).2) _ hzz2) J Y (Z 1 J (zf rfl (fun _=>zC rfl rfl rfl (vI rfl)) (qM (fun h=>h hK1.root) ?_))))
   refine Z 3 J (Z1 (Ut (k:=k) (L:=L) (S:=(S.step (wN.mk a.d a.p a.a a.b a.c)).2) _ hzz2) J Y (Z 2 J (z0 (fun h133=> ?_) (fun h133=> ?_))))
   ·refine Z 2 J (Z1 (W2 _ k L (S.step (wN.mk a.d a.p a.a a.b a.c)).2) J Y (Z1 (k9 (k:=k) (L:=L) (S:=(S.step (wN.mk a.d a.p a.a a.b a.c)).2)) J Y (Z 1 J (zf rfl (fun _=>zC rfl rfl rfl (bK rfl)) (qM (fun h=>by rcases hK1.pcid with e|e;exact h133 e;omega) ?_)))))
    refine Z 5 J (zf rfl (fun _=>zC rfl rfl rfl rfl) ?_)
    refine Z 2 J (fa J Y (lN J Y Y J J (fa J Y (lN J Y Y J J (zf rfl (fun _=>zC rfl rfl rfl rfl) ?_)))))
    refine Z 2 J (fa J Y (ld J Y J (fa J Y (ld J Y J (zf rfl (fun _=>zC rfl rfl rfl (vI rfl)) (qM (fun h=>h rfl) ?_))))))
    refine Z 5 J (ad J (Z 2 J ?_))
    have hM2:True:=trivial
    exact Or.inl ⟨rfl,_,by omega,ii+1,(S.step (wN.mk a.d a.p a.a a.b a.c)).2,by omega,hok2,hn2,by omega,hrr,rfl,rfl,rfl,rfl,rfl,rfl,Y⟩
   refine Z 11 J (zf rfl (fun _=>zC rfl rfl rfl rfl) ?_)
   refine Z 2 J (fa J Y (lN J Y Y J J (fa J Y (lN J Y Y J J (zf rfl (fun _=>zC rfl rfl rfl rfl) ?_)))))
   refine Z 2 J (fa J Y (ld J Y J (fa J Y (ld J Y J (zf rfl (fun _=>zC rfl rfl rfl (vI rfl)) (qM (fun h=>h rfl) ?_))))))
   refine Z 5 J (ad J (Z 2 J ?_))
   have hM2:True:=trivial
   exact Or.inl ⟨rfl,_,by omega,ii+1,(S.step (wN.mk a.d a.p a.a a.b a.c)).2,by omega,hok2,hn2,by omega,hrr,rfl,rfl,rfl,rfl,rfl,rfl,Y⟩
  obtain⟨_,x9,hx9⟩:=hok.runs (1-a.p).toNat (by omega) (by rw [show(((1-a.p).toNat:Nat):Int)=1-a.p by omega];exact hz)
  rw [show(((1-a.p).toNat:Nat):Int)=1-a.p by omega]at hx9
  refine Z 9 J (yG (UN _ hz hok hx9) rfl (fun _=>rfl) ?_)
  rintro _ _ ⟨v104,rfl,rfl⟩
  refine yD (v:=v104) fun av104 cv104 ev104 hv104 _=> ?_
  subst hv104
  refine Z 3 J (zd rfl rfl rfl fun i17=> ?_)
  refine sN J Y Y J J J (Z 5 J (lN J Y Y J J (uw (K:=zp) (a:=k) (x:=(L,S)) (Yd k (L,S)) fun hM=> ?_)))
  have hok2:=hok.step hM (wN.mk a.d a.p a.a a.b a.c)
  refine Z1 (Vq _ k L S (ii+1) hok (by omega) (by omega) (wN.mk a.d a.p a.a a.b a.c) ha1 ha2) J Y ?_
  have hkc:((S.step (wN.mk a.d a.p a.a a.b a.c)).2).Q.cpu (1-a.p)=S.Q.cpu (1-a.p):=by
   have e1:=hK1.on
   have e2:=hK1.n
   unfold zV.cpu
   rw [if_pos ⟨by omega,by omega⟩,if_pos ⟨by omega,by omega⟩];exact e1
  have hzz2:0≤1-a.p∧1-a.p<((S.step (wN.mk a.d a.p a.a a.b a.c)).2).Q.n:=⟨by omega,by omega⟩
  have hx92:((S.step (wN.mk a.d a.p a.a a.b a.c)).2).pr (S.Q.cpu (1-a.p)).toNat=some x9:=by
   rw [hK1.pr (S.Q.cpu (1-a.p)).toNat ?_]
   ·exact hx9
   have e1:=QK (Q:=S.Q) (c:=(1-a.p).toNat) (by omega)
   rw [show(((1-a.p).toNat:Nat):Int)=1-a.p by omega]at e1
   omega
  refine Z 5 J (yG (UN _ hz hok2 hx92) rfl (fun _=>rfl) ?_)
  rintro _ _ ⟨v113,rfl,rfl⟩
  refine yD (v:=v113) fun av113 cv113 ev113 hv113 _=> ?_
  subst hv113
  refine Z 3 J (zd rfl rfl rfl fun i19=> ?_)
  refine sN J Y Y J J J (Z 5 J (fa J Y (ld J Y J (sb J (Z1 (cK _ k L (S.step (wN.mk a.d a.p a.a a.b a.c)).2 _) J Y (Z 1 J (zf rfl (fun _=>zC rfl rfl rfl (vI rfl)) (qM (fun h=>h hkc) ?_))))))))
  refine Z 2 J (Z1 (GD (k:=k) (L:=L) (S:=(S.step (wN.mk a.d a.p a.a a.b a.c)).2) _ hzz2) J Y (Z 1 J (zf rfl (fun _=>zC rfl rfl rfl (vI rfl)) (qM (fun h=>h hK1.root) ?_))))
  refine Z 3 J (Z1 (Ut (k:=k) (L:=L) (S:=(S.step (wN.mk a.d a.p a.a a.b a.c)).2) _ hzz2) J Y (Z 2 J (z0 (fun h133=> ?_) (fun h133=> ?_))))
  ·refine Z 2 J (Z1 (W2 _ k L (S.step (wN.mk a.d a.p a.a a.b a.c)).2) J Y (Z1 (k9 (k:=k) (L:=L) (S:=(S.step (wN.mk a.d a.p a.a a.b a.c)).2)) J Y (Z 1 J (zf rfl (fun _=>zC rfl rfl rfl (bK rfl)) (qM (fun h=>by rcases hK1.pcid with e|e;exact h133 e;omega) ?_)))))
   refine Z 5 J (zf rfl (fun _=>zC rfl rfl rfl rfl) ?_)
   refine Z 2 J (fa J Y (lN J Y Y J J (fa J Y (lN J Y Y J J (zf rfl (fun _=>zC rfl rfl rfl (rH x9.w)) ?_)))))
   refine Z 2 J (fa J Y (ld J Y J (fa J Y (ld J Y J (zf rfl (fun _=>zC rfl rfl rfl (vI rfl)) (qM (fun h=>h rfl) ?_))))))
   refine Z 5 J (ad J (Z 2 J ?_))
   have hM2:True:=trivial
   exact Or.inl ⟨rfl,_,by omega,ii+1,(S.step (wN.mk a.d a.p a.a a.b a.c)).2,by omega,hok2,hn2,by omega,hrr,rfl,rfl,rfl,rfl,rfl,rfl,Y⟩
  refine Z 11 J (zf rfl (fun _=>zC rfl rfl rfl rfl) ?_)
  refine Z 2 J (fa J Y (lN J Y Y J J (fa J Y (lN J Y Y J J (zf rfl (fun _=>zC rfl rfl rfl (rH x9.w)) ?_)))))
  refine Z 2 J (fa J Y (ld J Y J (fa J Y (ld J Y J (zf rfl (fun _=>zC rfl rfl rfl (vI rfl)) (qM (fun h=>h rfl) ?_))))))
  refine Z 5 J (ad J (Z 2 J ?_))
  have hM2:True:=trivial
  exact Or.inl ⟨rfl,_,by omega,ii+1,(S.step (wN.mk a.d a.p a.a a.b a.c)).2,by omega,hok2,hn2,by omega,hrr,rfl,rfl,rfl,rfl,rfl,rfl,Y⟩
 refine Z 4 J (Or.inr ⟨nofun,?_⟩)
 exact OX 2 J (Z0 (mt _) J (Z 3 J (zE J J J ⟨_,rfl,Sub.nil _⟩)))
end Go.Proofs.YtlhcpplnlgehbaaGreat
namespace Go.Proofs.YtlhcpplnlgehbaaGreat
open Go Go.RowKit Go.Px Go.ChangeShapes
def j7 (W:World) (v:Value) (xs:List Int):Prop:=
 (v= .slice none 0 0∧xs= [])∨ ∃a cap,v= .slice (some a) xs.length cap∧xs.length≤cap∧ ∀(i:Nat) z,xs[i]? =some z→W.cell? (a.add i)=some (.int .i64 z)∧gH z
def kZ (W:World) (v:Value) (ls:List (List Int)):Prop:=
 (v= .slice none 0 0∧ls= [])∨ ∃a cap,v= .slice (some a) ls.length cap∧ls.length≤cap∧ ∀(i:Nat) l,ls[i]? =some l→ ∃u,W.cell? (a.add i)=some u∧j7 W u l
theorem WL {W:World} {a:Addr} {v:Value} (h:W.cell? a=some v):a=⟨a.block,a.off,none⟩∧a.block<W.heap.size:=by
 unfold World.cell? at h
 split at h
 ·rename_i c _ _ hx
  split at h
  ·cases h
  rename_i hs
  refine⟨?_,(Array.getElem?_eq_some_iff.1 hx).1⟩
  obtain⟨b,o,s⟩:=a
  cases s with
  |none=>rfl
  |some _=>simp at hs
 cases h
def dk (id:Nat) (v:Value) (n:Nat):AVal:=match v with
 | .slice none _ _=> .slice none 0 (some 0) 1
 |_=> .slice (some (id,0)) n none 1
def kw (v:Value) (cs:List AVal):vE:=match v with
 | .slice none _ _=>⟨[],0,0,false⟩
 | .slice (some a) _ _=>if cs= []then⟨[],0,0,true⟩else⟨cs,a.block,a.off,true⟩
 |_=>⟨[],0,0,false⟩
def mA (V:qS) (W:World) (v:Value) (cs:List AVal):Prop:=
 (v= .slice none 0 0∧cs= [])∨ ∃a cap,v= .slice (some a) cs.length cap∧cs.length≤cap∧ ∀(i:Nat) c,cs[i]? =some c→c.isCell=true∧ ∃u,W.cell? (a.add i)=some u∧zL V c u
theorem lW (b o i:Nat):(⟨b,o,none⟩:Addr).add i=⟨b,o+i,none⟩:=Addr.add_lit b o i
theorem U0 {V:qS} {W:World} {v:Value} {cs:List AVal} (h:mA V W v cs) (hz:v= .slice none 0 0∨0<W.heap.size):(kw v cs).ok V W∧(kw v cs).cs=cs:=by
 rcases h with⟨rfl,rfl⟩|⟨a,cap,rfl,hl,hc⟩
 ·exact⟨⟨fun h=>(by cases h),fun k c h=>(by simp [kw]at h)⟩,rfl⟩
 have hz0:0<W.heap.size:=by rcases hz with h|h;cases h;exact h
 by_cases h0:cs= []
 ·subst h0
  exact⟨⟨fun _=>hz0,fun k c h=>(by simp [kw]at h)⟩,rfl⟩
 obtain⟨c0,hc0⟩: ∃c,cs[0]? =some c:=by
  cases cs with
  |nil=>exact absurd rfl h0
  |cons c _=>exact⟨c,rfl⟩
 obtain⟨_,u0,hu0,_⟩:=hc 0 c0 hc0
 have e0:a.add 0=a:=rfl
 rw [e0]at hu0
 obtain⟨ha,hb⟩:=WL hu0
 simp only [kw,h0,if_false]
 refine⟨⟨fun _=>hb,fun k c hk=> ?_⟩,trivial⟩
 obtain⟨h1,u,h2,h3⟩:=hc k c hk
 refine⟨h1,u,?_,h3⟩
 rw [ha,lW]at h2
 exact h2
theorem Je {V:qS} {W:World} {v:Value} {cs:List AVal} {id:Nat} (h:mA V W v cs) (hz:v= .slice none 0 0∨0<W.heap.size) (hlim:V.lim=W.heap.size) (hblk:V.blk id=if(kw v cs).on then some ((kw v cs).b,(kw v cs).base,(kw v cs).cs.length)else none):zL V (dk id v cs.length) v:=by
 have hro:=(U0 h hz).1
 rcases h with⟨rfl,rfl⟩|⟨a,cap,rfl,hl,hc⟩
 ·exact .sliceN 1
 have hz0:0<W.heap.size:=by rcases hz with h|h;cases h;exact h
 by_cases h0:cs= []
 ·subst h0
  refine .sliceR id 0 0 none 1 0 0 0 cap a (by rw [hblk];rfl) (by rw [hlim];exact hz0) (Nat.zero_le _) (fun k hk=>by cases hk) (fun h=> ?_)
  rcases h with h|⟨k,hk,_⟩
  ·exact absurd h (Nat.lt_irrefl 0)
  cases hk
 obtain⟨c0,hc0⟩: ∃c,cs[0]? =some c:=by
  cases cs with
  |nil=>exact absurd rfl h0
  |cons c _=>exact⟨c,rfl⟩
 obtain⟨_,u0,hu0,_⟩:=hc 0 c0 hc0
 have e0:a.add 0=a:=rfl
 rw [e0]at hu0
 obtain⟨ha,hb⟩:=WL hu0
 refine .sliceR id 0 cs.length none 1 a.block a.off cs.length cap a (by rw [hblk];simp only [kw,h0,if_false,if_true]) (by rw [hlim];exact hb) hl (fun k hk=>by cases hk) (fun _=> ?_)
 rw [Nat.add_zero];exact ha
theorem kC {α:Type} {en:α→List AVal} {v:Value} {ys:List α} {cs:List AVal} {V:qS} {W:World} {id:Nat} {l:List vE} (h:mA V W v cs) (he: ∀x,(en x).length=1) (hcs:cs=ys.flatMap en) (hl:cs.length=ys.length) (hk:l[id]? =some (kw v cs)) (hz:v= .slice none 0 0∨0<W.heap.size):
 uh en 1 (dk id v cs.length) ys (fun j=>if j=id then(fS l).t.get j else none):=by
 have hro:=(U0 h hz).2
 have e:(fun j=>if j=id then(fS l).t.get j else none)=fun j=>if j=id then(kw v cs).obj else none:=by
  funext j
  by_cases hj:j=id
  ·rw [if_pos hj,if_pos hj,hj,Vt,hk];rfl
  rw [if_neg hj,if_neg hj]
 rw [e]
 rcases h with⟨rfl,rfl⟩|⟨a,cap,rfl,hlc,hc⟩
 ·have hy:ys= []:=List.eq_nil_of_length_eq_zero hl.symm
  subst hy
  exact⟨⟨none,some 0,1,rfl⟩,he,by decide,fun h=>absurd rfl h⟩
 have:=A3 (en:=en) (es:=1) (xs:=ys) (c:=none) hk (by rw [hro];exact hcs) he (by decide)
 rw [←hl]at this
 exact this
def iZ (h:yc) (ids:List Nat):yc:=fun j=>if j ∈ ids then h j else none
theorem oT (h:yc): ∀(l:List (Nat×SP)),(l.map (·.1)).Nodup→(∀x,x ∈ l→x.2 fun j=>if j=x.1 then h j else none)→yd (l.map (·.2)) (iZ h (l.map (·.1))):=by
 intro l
 induction l with
 |nil=>intro _ _;trivial
 |cons x l ih=>
  intro hd hx
  rw [List.map_cons,List.nodup_cons]at hd
  refine⟨_,_,?_,?_,?_,hx x (List.mem_cons_self ..),ih hd.2 fun y hy=>hx y (List.mem_cons_of_mem _ hy)⟩
  ·intro k
   by_cases hk:k=x.1
   ·exact .inr (if_neg (by rw [hk];exact hd.1))
   exact .inl (if_neg hk)
  ·intro k y hy
   dsimp only at hy
   by_cases hk:k=x.1
   ·rw [if_pos hk]at hy
    show(if k ∈ _ then h k else none)=some y
    rw [if_pos (by rw [hk];exact List.mem_cons_self ..)];exact hy
   rw [if_neg hk]at hy;cases hy
  intro k y hy
  unfold iZ at hy
  by_cases hk:k ∈ l.map (·.1)
  ·rw [if_pos hk]at hy
   show(if k ∈ _ then h k else none)=some y
   rw [if_pos (by rw [List.map_cons];exact List.mem_cons_of_mem _ hk)];exact hy
  rw [if_neg hk]at hy;cases hy
theorem xX (l:List Int):l.flatMap yK=l.map fun z=>vi z:=by
 induction l with
 |nil=>rfl
 |cons x l ih=>rw [List.flatMap_cons,ih];rfl
theorem rp (l:List AVal):l.flatMap vd=l:=by
 induction l with
 |nil=>rfl
 |cons x l ih=>rw [List.flatMap_cons,ih];rfl
theorem mG {V:qS} {W:World} {v:Value} {l:List Int} (h:j7 W v l):mA V W v (l.map fun z=>vi z):=by
 rcases h with⟨rfl,rfl⟩|⟨a,cap,rfl,hl,hc⟩
 ·exact .inl ⟨rfl,rfl⟩
 refine .inr ⟨a,cap,by rw [List.length_map],by rw [List.length_map];exact hl,fun i c hi=> ?_⟩
 rw [List.getElem?_map]at hi
 cases hz:l[i]? with
 |none=>rw [hz]at hi;cases hi
 |some z=>
  rw [hz]at hi
  cases hi
  exact⟨rfl,_,(hc i z hz).1,.int .i64 (.lit z)⟩
theorem rQ (id:Nat) (v:Value) (n:Nat):(dk id v n).isCell=true:=by
 unfold dk;split<;>rfl
theorem py {ρ:Nat→Int} {rows:List vE} {lim id:Nat} {r:vE} (h:rows[id]? =some r):(aA ρ rows lim).blk id=if r.on then some (r.b,r.base,r.cs.length)else none:=by
 show(rows[id]?).bind _=_
 rw [h];rfl
set_option maxHeartbeats 400000 in
theorem ie {W:World} {v1 v2:Value} {ls:List (List Int)} {l:List Int} (h1:kZ W v1 ls) (h2:j7 W v2 l) (hz:(v1= .slice none 0 0∧v2= .slice none 0 0)∨0<W.heap.size):
 ∃(V:qS) (H:Hp) (cv v:AVal),zt W.heap.size W V H W∧zL V cv v1∧zL V v v2∧Holds [ent nQ cv ls,ent (uh yK 1) v l] H:=by
 have hcell:v1= .slice none 0 0∧ls= []∨ ∃a cap,v1= .slice (some a) ls.length cap∧ls.length≤cap∧ ∀(i:Nat),i<ls.length→ ∃u,W.cell? (a.add i)=some u∧j7 W u (ls.getD i []):=by
  rcases h1 with h|⟨a,cap,h,hl,hc⟩
  ·exact .inl h
  refine .inr ⟨a,cap,h,hl,fun i hi=> ?_⟩
  have:=hc i _ (List.getElem?_eq_getElem hi)
  rw [List.getD_eq_getElem?_getD,List.getElem?_eq_getElem hi];exact this
 obtain⟨vs,hvs,hvc⟩: ∃vs:Nat→Value,(∀i,i<ls.length→j7 W (vs i) (ls.getD i []))∧(v1= .slice none 0 0∧ls= []∨ ∃a cap,v1= .slice (some a) ls.length cap∧ls.length≤cap∧ ∀i,i<ls.length→W.cell? (a.add i)=some (vs i)):=by
  rcases hcell with⟨rfl,rfl⟩|⟨a,cap,rfl,hl,hc⟩
  ·exact⟨fun _=> .slice none 0 0,fun i h=>by simp at h,.inl ⟨rfl,rfl⟩⟩
  refine⟨fun i=>(W.cell? (a.add i)).getD (.slice none 0 0),fun i hi=> ?_,.inr ⟨a,cap,rfl,hl,fun i hi=> ?_⟩⟩
  ·obtain⟨u,hu,hI⟩:=hc i hi
   dsimp only
   rw [hu];exact hI
  obtain⟨u,hu,_⟩:=hc i hi
  show W.cell? (a.add i)=some ((W.cell? (a.add i)).getD (.slice none 0 0))
  rw [hu];rfl
 clear hcell
 obtain⟨us,hus⟩: ∃us:Nat→AVal,us=fun i=>dk (i+1) (vs i) (ls.getD i []).length:=⟨_,rfl⟩
 obtain⟨rows,hrows⟩: ∃rows:List vE,rows=kw v1 ((List.range ls.length).map us)::((List.range ls.length).map fun i=>kw (vs i) ((ls.getD i []).map fun z=>vi z))++ [kw v2 (l.map fun z=>vi z)]:=⟨_,rfl⟩
 have g0:rows[0]? =some (kw v1 ((List.range ls.length).map us)):=by rw [hrows];rfl
 have gi: ∀i,i<ls.length→rows[i+1]? =some (kw (vs i) ((ls.getD i []).map fun z=>vi z)):=by
  intro i hi
  rw [hrows,List.cons_append,List.getElem?_cons_succ,List.getElem?_append_left (by simpa using hi),List.getElem?_map,List.getElem?_range hi];rfl
 have gl:rows[ls.length+1]? =some (kw v2 (l.map fun z=>vi z)):=by
  rw [hrows,List.cons_append,List.getElem?_cons_succ,List.getElem?_append_right (by simp)]
  simp
 have hz1:v1= .slice none 0 0∨0<W.heap.size:=by rcases hz with h|h;exact .inl h.1;exact .inr h
 have hz2:v2= .slice none 0 0∨0<W.heap.size:=by rcases hz with h|h;exact .inl h.2;exact .inr h
 have hzi: ∀i,i<ls.length→vs i= .slice none 0 0∨0<W.heap.size:=by
  intro i hi
  rcases hvc with⟨_,rfl⟩|⟨a,cap,rfl,_,hc⟩
  ·simp at hi
  exact .inr (by have:=(WL (hc i hi)).2;omega)
 obtain⟨V,hV⟩: ∃V,V=aA (fun _=>0) rows W.heap.size:=⟨_,rfl⟩
 have hlim:V.lim=W.heap.size:=by rw [hV];rfl
 have si: ∀i,i<ls.length→mA V W (vs i) ((ls.getD i []).map fun z=>vi z):=fun i hi=>mG (hvs i hi)
 have ri: ∀i,i<ls.length→zL V (us i) (vs i):=by
  intro i hi
  have:=Je (id:=i+1) (si i hi) (hzi i hi) hlim (by rw [hV];exact py (gi i hi))
  rw [List.length_map]at this
  rw [hus];exact this
 have s1:mA V W v1 ((List.range ls.length).map us):=by
  rcases hvc with⟨rfl,rfl⟩|⟨a,cap,rfl,hl,hc⟩
  ·exact .inl ⟨rfl,rfl⟩
  refine .inr ⟨a,cap,by simp,by simpa using hl,fun i c hi=> ?_⟩
  have hil:i<ls.length:=by have:=(List.getElem?_eq_some_iff.1 hi).1;simpa using this
  rw [List.getElem?_map,List.getElem?_range hil]at hi
  cases hi
  exact⟨by rw [hus];exact rQ _ _ _,_,hc i hil,ri i hil⟩
 have s2:mA V W v2 (l.map fun z=>vi z):=mG h2
 have hW:zt W.heap.size W V (fS rows) W:=by
  rw [hV]
  refine Aq fun r hr=> ?_
  rw [←hV]
  rw [hrows]at hr
  simp only [List.cons_append,List.mem_cons,List.mem_append,List.mem_map,List.mem_range,List.not_mem_nil,or_false]at hr
  rcases hr with rfl|⟨i,hi,rfl⟩|rfl
  ·exact(U0 s1 hz1).1
  ·exact(U0 (si i hi) (hzi i hi)).1
  exact(U0 s2 hz2).1
 have hl1:((List.range ls.length).map us).length=ls.length:=by simp
 refine⟨V,fS rows,dk 0 v1 ls.length,dk (ls.length+1) v2 l.length,hW,?_,?_,A9 rows,?_⟩
 ·have:=Je (id:=0) s1 hz1 hlim (by rw [hV];exact py g0)
  rw [hl1]at this;exact this
 ·have:=Je (id:=ls.length+1) s2 hz2 hlim (by rw [hV];exact py gl)
  rw [List.length_map]at this;exact this
 have k0:=kC (en:=vd) (id:=0) (ys:=(List.range ls.length).map us) s1 (fun _=>rfl) (rp _).symm rfl g0 hz1
 have ki: ∀i,i<ls.length→kv (us i,ls.getD i []) (fun j=>if j=i+1 then(fS rows).t.get j else none):=fun i hi=>by
  have:=kC (en:=yK) (id:=i+1) (ys:=ls.getD i []) (si i hi) Zk (xX _).symm (by simp) (gi i hi) (hzi i hi)
  rw [List.length_map]at this
  rw [hus];exact this
 have kl:=kC (en:=yK) (id:=ls.length+1) (ys:=l) s2 Zk (xX _).symm (by simp) gl hz2
 rw [hl1]at k0
 rw [List.length_map]at kl
 have hs:=oT (fun j=>(fS rows).t.get j) ((0,ent (uh vd 1) (dk 0 v1 ls.length) ((List.range ls.length).map us))::((List.range ls.length).map fun i=>(i+1,kv (us i,ls.getD i [])))++ [(ls.length+1,ent (uh yK 1) (dk (ls.length+1) v2 l.length) l)]) ?_ ?_
 ·have hs2:=hs.mono (h':=fun j=>(fS rows).t.get j) (fun k x hk=>by unfold iZ at hk;split at hk;exact hk;cases hk)
  rw [List.cons_append,List.map_cons,List.map_append,List.map_map]at hs2
  have hs3:yd (ent (uh vd 1) (dk 0 v1 ls.length) ((List.range ls.length).map us)::(((List.range ls.length).map fun i=>kv (us i,ls.getD i []))++ [ent (uh yK 1) (dk (ls.length+1) v2 l.length) l])) (fun j=>(fS rows).t.get j):=hs2
  have hs4:=hs3.cons (q:=ent (uh vd 1) (dk 0 v1 ls.length) ((List.range ls.length).map us)) (M:=ent (zG kv) 0 (List.range ls.length,fun i=>(us i,ls.getD i [])):: [ent (uh yK 1) (dk (ls.length+1) v2 l.length) l]) (fun _ e=>e) fun b hb=>qL hb
  have hs5:yd ([ent (uh vd 1) (dk 0 v1 ls.length) ((List.range ls.length).map us),ent (zG kv) 0 (List.range ls.length,fun i=>(us i,ls.getD i []))]++ [ent (uh yK 1) (dk (ls.length+1) v2 l.length) l]) (fun j=>(fS rows).t.get j):=hs4
  obtain⟨a,b,q1,q2,q3,q4,q5⟩:=qL hs5
  exact⟨a,b,q1,q2,q3,⟨us,trivial,q4⟩,q5⟩
 ·rw [List.cons_append,List.map_cons,List.map_append,List.map_map]
  show(0::((List.range ls.length).map (fun i=>i+1)++ [ls.length+1])).Nodup
  have e:0::((List.range ls.length).map (fun i=>i+1)++ [ls.length+1])=List.range (ls.length+2):=by
   rw [List.range_succ_eq_map,List.range_succ,List.map_append]
   rfl
  rw [e];exact List.nodup_range
 intro x hx
 simp only [List.cons_append,List.mem_cons,List.mem_append,List.mem_map,List.mem_range,List.not_mem_nil,or_false]at hx
 rcases hx with rfl|⟨i,hi,rfl⟩|rfl
 ·exact k0
 ·exact ki i hi
 exact kl
end Go.Proofs.YtlhcpplnlgehbaaGreat
namespace Go.Proofs.YtlhcpplnlgehbaaGreat
open Go Go.Conc Go.RowKit Go.Px
theorem nO (w:World) (b o:Nat) (x:Value) (c cap:Nat) (bf:Array Value) (s r:Nat) (hcell:w.cell? ⟨b,o,none⟩=some (.chan (some c))) (hc:w.heap[c]? =some (.chan cap bf false s r false)) (hroom:bf.size<cap):
 Calls Tryz.prog 186 #[.pointer (some ⟨b,o,none⟩),x] w fun e w'=>e= .returned (.bool true)∧w'=w.setChan c cap (bf.push x) false (s+1) r false:=by
 refine calls_of_loneTo fun cs=> ?_
 have e:Frame.enter Tryz.prog 186 #[.pointer (some ⟨b,o,none⟩),x] .normal=(base 186).at ⟨#[.pointer (some ⟨b,o,none⟩),x,undef,undef,undef,undef,undef,undef,undef,undef,undef,undef,undef],[]⟩ [.code (Tryz.f186.body.getD .skip)]:=by
  simp [Frame.enter,Frame.at,Tryz.func186,base,Tryz.f186]
 rw [e]
 refine LoneTo.goes (n:=40) ?_
 simp only [Tryz.f186,Option.getD_some]
 s_c stepG_seq
 s_reg
 s_op
 s_c stepG_region_end
 s_c stepG_seq
 s_c stepG_seq
 s_reg
 s_op
 s_op
 s_op
 s_op
 s_c stepG_region_end
 s_reg
 s_op
 s_c stepG_region_end
 s_c stepG_seq
 s_reg
 s_stop
 refine LoneTo.step (step_lone_select_send_room (c:=c) (cap:=cap) (buf:=bf) (s:=s) (r:=r) (tm:=false) (stepG_comm (cases:= #[scase c x (.int .u64 0)]) (blocking:=false) (shape:= .select) (w':=w) rfl rfl (by decide) (by simp [go_sem,execOp,scase,Act.eval])) hc hroom) ?_
 rw [Frame.finish_at]
 walk_nrm
 refine LoneTo.goes (n:=12) ?_
 s_op
 s_op
 s_c stepG_region_end
 s_c stepG_block
 s_cond true
 s_c stepG_seq
 s_reg
 s_op
 s_c stepG_region_end
 s_c stepG_ret'
 s_stop
 exact LoneTo.done ⟨.returned (.bool true),_,rfl,⟨rfl,rfl⟩,rfl,rfl,rfl,rfl,_,Tryz.func186,by simp [results,Tryz.f186,Frame.at]⟩
theorem tS (w:World) (b o:Nat) (x:Value) (c cap:Nat) (bf:Array Value) (s r:Nat) (hcell:w.cell? ⟨b,o,none⟩=some (.chan (some c))) (hc:w.heap[c]? =some (.chan cap bf false s r false)) (hfull:cap≤bf.size):
 Calls Tryz.prog 186 #[.pointer (some ⟨b,o,none⟩),x] w fun e w'=>e= .returned (.bool false)∧w'=w:=by
 refine calls_of_loneTo fun cs=> ?_
 have e:Frame.enter Tryz.prog 186 #[.pointer (some ⟨b,o,none⟩),x] .normal=(base 186).at ⟨#[.pointer (some ⟨b,o,none⟩),x,undef,undef,undef,undef,undef,undef,undef,undef,undef,undef,undef],[]⟩ [.code (Tryz.f186.body.getD .skip)]:=by
  simp [Frame.enter,Frame.at,Tryz.func186,base,Tryz.f186]
 rw [e]
 refine LoneTo.goes (n:=40) ?_
 simp only [Tryz.f186,Option.getD_some]
 s_c stepG_seq
 s_reg
 s_op
 s_c stepG_region_end
 s_c stepG_seq
 s_c stepG_seq
 s_reg
 s_op
 s_op
 s_op
 s_op
 s_c stepG_region_end
 s_reg
 s_op
 s_c stepG_region_end
 s_c stepG_seq
 s_reg
 s_stop
 refine LoneTo.step (step_lone_select_send_full (c:=c) (cap:=cap) (buf:=bf) (s:=s) (r:=r) (tm:=false) (stepG_comm (cases:= #[scase c x (.int .u64 0)]) (blocking:=false) (shape:= .select) (w':=w) rfl rfl (by decide) (by simp [go_sem,execOp,scase,Act.eval])) hc hfull) ?_
 rw [Frame.finish_at]
 walk_nrm
 refine LoneTo.goes (n:=12) ?_
 s_op
 s_op
 s_c stepG_region_end
 s_c stepG_block
 s_cond false
 s_c stepG_seq
 s_reg
 s_op
 s_c stepG_region_end
 s_c stepG_ret'
 s_stop
 exact LoneTo.done ⟨.returned (.bool false),_,rfl,⟨rfl,rfl⟩,rfl,rfl,rfl,rfl,_,Tryz.func186,by simp [results,Tryz.f186,Frame.at]⟩
theorem nz (w:World) (b o:Nat) (c cap:Nat) (bf:Array Value) (s r:Nat) (hcell:w.cell? ⟨b,o,none⟩=some (.chan (some c))) (hc:w.heap[c]? =some (.chan cap bf false s r false)) (hsome:0<bf.size):
 Calls Tryz.prog 188 #[.pointer (some ⟨b,o,none⟩)] w fun e w'=>e= .returned (.tuple #[(bf[0]?).getD undef,.bool true])∧w'=w.setChan c cap (bf.extract 1 bf.size) false s (r+1) false:=by
 refine calls_of_loneTo fun cs=> ?_
 have e:Frame.enter Tryz.prog 188 #[.pointer (some ⟨b,o,none⟩)] .normal=(base 188).at ⟨#[.pointer (some ⟨b,o,none⟩),undef,undef,undef,undef,undef,undef,undef,undef,undef,undef,undef,undef,undef],[]⟩ [.code (Tryz.f188.body.getD .skip)]:=by
  simp [Frame.enter,Frame.at,Tryz.func188,base,Tryz.f188]
 rw [e]
 refine LoneTo.goes (n:=40) ?_
 simp only [Tryz.f188,Option.getD_some]
 s_c stepG_seq
 s_reg
 s_op
 s_op
 s_c stepG_region_end
 s_c stepG_seq
 s_reg
 s_op
 s_op
 s_op
 s_op
 s_c stepG_region_end
 s_c stepG_seq
 s_reg
 s_stop
 refine LoneTo.step (step_lone_select_recv_buf (c:=c) (cap:=cap) (buf:=bf) (s:=s) (r:=r) (tm:=false) (stepG_comm (cases:= #[rcase c (.int .u64 0)]) (blocking:=false) (shape:= .select) (w':=w) rfl rfl (by decide) (by simp [go_sem,execOp,rcase,Act.eval])) hc hsome) ?_
 rw [Frame.finish_at]
 walk_nrm
 refine LoneTo.goes (n:=20) ?_
 s_op
 s_op
 s_c stepG_region_end
 s_c stepG_block
 s_cond true
 s_c stepG_seq
 s_reg
 s_op
 s_op
 s_c stepG_region_end
 s_c stepG_seq
 s_reg
 s_op
 s_op
 s_op
 s_c stepG_region_end
 s_c stepG_ret'
 s_stop
 exact LoneTo.done ⟨.returned (.tuple #[(bf[0]?).getD undef,.bool true]),_,rfl,⟨rfl,rfl⟩,rfl,rfl,rfl,rfl,_,Tryz.func188,by simp [results,Tryz.f188,Frame.at,Array.getElem?_eq_getElem hsome]⟩
theorem fA (w:World) (b o:Nat) (c cap:Nat) (s r:Nat) (hcell:w.cell? ⟨b,o,none⟩=some (.chan (some c))) (hc:w.heap[c]? =some (.chan cap #[] false s r false)):
 Calls Tryz.prog 188 #[.pointer (some ⟨b,o,none⟩)] w fun e w'=>e= .returned (.tuple #[.int .u64 0,.bool false])∧w'=w:=by
 refine calls_of_loneTo fun cs=> ?_
 have e:Frame.enter Tryz.prog 188 #[.pointer (some ⟨b,o,none⟩)] .normal=(base 188).at ⟨#[.pointer (some ⟨b,o,none⟩),undef,undef,undef,undef,undef,undef,undef,undef,undef,undef,undef,undef,undef],[]⟩ [.code (Tryz.f188.body.getD .skip)]:=by
  simp [Frame.enter,Frame.at,Tryz.func188,base,Tryz.f188]
 rw [e]
 refine LoneTo.goes (n:=40) ?_
 simp only [Tryz.f188,Option.getD_some]
 s_c stepG_seq
 s_reg
 s_op
 s_op
 s_c stepG_region_end
 s_c stepG_seq
 s_reg
 s_op
 s_op
 s_op
 s_op
 s_c stepG_region_end
 s_c stepG_seq
 s_reg
 s_stop
 refine LoneTo.step (step_lone_select_default (c:=c) (cap:=cap) (s:=s) (r:=r) (tm:=false) (stepG_comm (cases:= #[rcase c (.int .u64 0)]) (blocking:=false) (shape:= .select) (w':=w) rfl rfl (by decide) (by simp [go_sem,execOp,rcase,Act.eval])) hc) ?_
 rw [Frame.finish_at]
 walk_nrm
 refine LoneTo.goes (n:=20) ?_
 s_op
 s_op
 s_c stepG_region_end
 s_c stepG_block
 s_cond false
 s_c stepG_seq
 s_reg
 s_op
 s_op
 s_c stepG_region_end
 s_c stepG_ret'
 s_stop
 exact LoneTo.done ⟨.returned (.tuple #[.int .u64 0,.bool false]),_,rfl,⟨rfl,rfl⟩,rfl,rfl,rfl,rfl,_,Tryz.func188,by simp [results,Tryz.f188,Frame.at]⟩
theorem sR:jG Tryz.prog 186:=by
 have h:(match Tryz.prog.funcs[186]? with
  |some q=> !(q.name== "runtime.NumGoroutine") && !q.body.isNone
  |none=>false)=true:=by kernel_rfl
 revert h
 cases h1:Tryz.prog.funcs[186]? with
 |none=>intro h;cases h
 |some q=>
  intro h
  simp only [Bool.and_eq_true,Bool.not_eq_true']at h
  exact⟨q,h1,h.1,h.2⟩
theorem eA:jG Tryz.prog 188:=by
 have h:(match Tryz.prog.funcs[188]? with
  |some q=> !(q.name== "runtime.NumGoroutine") && !q.body.isNone
  |none=>false)=true:=by kernel_rfl
 revert h
 cases h1:Tryz.prog.funcs[188]? with
 |none=>intro h;cases h
 |some q=>
  intro h
  simp only [Bool.and_eq_true,Bool.not_eq_true']at h
  exact⟨q,h1,h.1,h.2⟩
section
variable {F:z9} {G:(Nat→Int)→Prop} {B:Nat} {w0:World}
theorem dU:j3 Tryz.prog F G B w0 fun f' args H=>if f'=186 then UG args H else none:=by
 intro f' args H v H' hh
 simp only at hh
 split at hh
 case isFalse=>cases hh
 rename_i hf'
 subst hf'
 unfold UG at hh
 split at hh
 case h_2=>cases hh
 rename_i i o v0
 split at hh
 case h_2=>cases hh
 rename_i rr hr1
 unfold Ve at hh
 split at hh
 case h_2=>cases hh
 rename_i cap buf s n hch
 refine⟨sR,fun V w args' hF hW hl=> ?_⟩
 obtain⟨l,rfl⟩: ∃l:List Value,args'=l.toArray:=⟨args'.toList,by simp⟩
 simp only at hl
 cases hl with
 |cons hp hl=>cases hl with
  |cons hx hl=>cases hl with
   |nil=>
    cases hp with
    |ptr id off b base S hb=>
     obtain⟨cv,hcell,hcv,_⟩:=Wr hW hb hr1
     cases hcv with
     |chan id2 c base2 S2 hb2=>
      obtain⟨x,hxo,hor⟩:=hW.obj _ _ _ _ _ hch hb2
      cases hor with
      |chan _ _ _ _ _ _ _ xb hB hxb=>
       have hlen:=hxb.length
       simp only [Array.length_toList]at hlen
       cases hlt:Nat.blt buf.length cap with
       |true=>
        rw [hlt]at hh
        cases hh
        rw [Nat.blt_eq]at hlt
        refine(nO w b (base+o) _ c cap xb s n hcell hxo (by omega)).mono fun e w' he=> ?_
        obtain⟨rfl,rfl⟩:=he
        obtain⟨h1,h2⟩:=hW.putObj hb2 hch hB (.chan cap (buf++ [v0]) (s+1) n c base2 S2 (xb.push _) hB (by simp only [Array.toList_push];exact hxb.append (.cons hx .nil)))
        exact⟨V,_,rfl,h2,h1,.bool true⟩
       |false=>
        rw [hlt]at hh
        cases hh
        have hge:cap≤buf.length:=by
         rcases Nat.lt_or_ge buf.length cap with h|h
         ·rw [Eq.mpr Nat.blt_eq h]at hlt;cases hlt
         exact h
        refine(tS w b (base+o) _ c cap xb s n hcell hxo (by omega)).mono fun e w' he=> ?_
        obtain⟨rfl,rfl⟩:=he
        exact⟨V,_,rfl,.refl V _,hW,.bool false⟩
theorem m6:j3 Tryz.prog F G B w0 fun f' args H=>if f'=188 then Wz args H else none:=by
 intro f' args H v H' hh
 simp only at hh
 split at hh
 case isFalse=>cases hh
 rename_i hf'
 subst hf'
 unfold Wz at hh
 split at hh
 case h_2=>cases hh
 rename_i i o
 split at hh
 case h_2=>cases hh
 rename_i rr hr1
 unfold Vy at hh
 split at hh
 case h_2=>cases hh
 rename_i cap buf s n hch
 refine⟨eA,fun V w args' hF hW hl=> ?_⟩
 obtain⟨l,rfl⟩: ∃l:List Value,args'=l.toArray:=⟨args'.toList,by simp⟩
 simp only at hl
 cases hl with
 |cons hp hl=>cases hl with
  |nil=>
   cases hp with
   |ptr id off b base S hb=>
    obtain⟨cv,hcell,hcv,_⟩:=Wr hW hb hr1
    cases hcv with
    |chan id2 c base2 S2 hb2=>
     obtain⟨x,hxo,hor⟩:=hW.obj _ _ _ _ _ hch hb2
     cases hor with
     |chan _ _ _ _ _ _ _ xb hB hxb=>
      obtain⟨l2,rfl⟩: ∃l:List Value,xb=l.toArray:=⟨xb.toList,by simp⟩
      simp only at hxb
      cases hxb with
      |nil=>
       cases hh
       refine(fA w b (base+o) c cap s n hcell hxo).mono fun e w' he=> ?_
       obtain⟨rfl,rfl⟩:=he
       exact⟨V,_,rfl,.refl V _,hW,.tupleL (.cons (.int .u64 (.lit 0)) (.cons (.bool false) .nil))⟩
      |cons hv ht=>
       rename_i v1 u1 us vs
       cases hh
       refine(nz w b (base+o) c cap _ s n hcell hxo (by simp)).mono fun e w' he=> ?_
       obtain⟨rfl,rfl⟩:=he
       obtain⟨h1,h2⟩:=hW.putObj hb2 hch hB (.chan cap us s (n+1) c base2 S2 (((u1::vs).toArray).extract 1 ((u1::vs).toArray).size) hB (by simpa using ht))
       refine⟨V,_,rfl,h2,h1,?_⟩
       refine .tupleL (vs:= [_,.bool true]) (.cons ?_ (.cons (.bool true) .nil))
       simpa using hv
theorem CK:WF Tryz.prog F G B w0 hk:=by
 intro f g h
 unfold hk at h
 by_cases h1:f=186
 ·subst h1
  have:some UG=some g:=h
  cases this
  exact dU
 rw [show Nat.beq f 186=false by rw [←Bool.not_eq_true,Nat.beq_eq];exact h1]at h
 by_cases h2:f=188
 ·subst h2
  have:some Wz=some g:=h
  cases this
  exact m6
 rw [show Nat.beq f 188=false by rw [←Bool.not_eq_true,Nat.beq_eq];exact h2]at h
 by_cases h3:f=22
 ·subst h3
  have:some YI=some g:=h
  cases this
  exact dD dz bW
 rw [show Nat.beq f 22=false by rw [←Bool.not_eq_true,Nat.beq_eq];exact h3]at h
 cases h
end
end Go.Proofs.YtlhcpplnlgehbaaGreat
namespace Go.Proofs.YtlhcpplnlgehbaaGreat
open Go Go.RowKit Go.Px Go.ChangeShapes
section
variable {H:Type} {enc:TypeId×Value→H} {W:World} {base:Nat} {held:Bool}
theorem rS {P:Program} {r:Reach} {b:Nat} {t e:TypeId} {v:Value} (ht:P.underlying t=some (.slice e)) (h:Value.okWide P W r b t v):v= .slice none 0 0∨((∃a len cap,v= .slice (some a) len cap)∧0<W.heap.size):=by
 unfold Value.okWide at h
 rw [ht]at h
 simp only at h
 unfold Cell.okWide at h
 rw [ht]at h
 unfold Cell.ok at h
 rw [ht]at h
 cases v<;>simp only at h
 rename_i p len cap
 cases p with
 |none=>
  cases len<;>cases cap<;>simp only at h
  exact .inl rfl
 |some a=>
  refine .inr ⟨⟨a,len,cap,rfl⟩,?_⟩
  obtain⟨_,_,h⟩:=h
  unfold World.has World.shape? at h
  obtain⟨_,_,row,cells,h,_⟩:=h
  split at h
  ·rename_i hx
   have:=(Array.getElem?_eq_some_iff.1 hx).1
   omega
  cases h
theorem mq {P:Program} {t e:TypeId} {fuel:Nat} {cs:List Value} {x:DataW H×List MemPlace} (ht:P.underlying t=some (.slice e)) (he:P.underlying e=some (.int .i64)) (hc:P.cellsOf e=1)
 (h:DataW.trod enc P W base (fun _=>true) held fuel t cs=some x): ∃u xs,cs= [u]∧j7 W u xs:=by
 rcases open_ints ht he hc h with⟨rfl,_⟩|⟨a,len,cap,zs,rfl,_,hl,_,hz,_,hcell,hwf⟩
 ·exact⟨_,[],rfl,.inl ⟨rfl,rfl⟩⟩
 simp only [if_true]at hz
 have hlen:(zs.take len).length=len:=by rw [List.length_take];omega
 refine⟨_,zs.take len,rfl,.inr ⟨a,cap,by rw [hlen],by rw [hlen];exact hl,fun i z hi=> ?_⟩⟩
 have hil:i<len:=by have:=(List.getElem?_eq_some_iff.1 hi).1;omega
 rw [List.getElem?_take_of_lt hil]at hi
 have hc1:=hcell i (by omega)
 rw [List.getD_eq_getElem?_getD,hi]at hc1
 refine⟨hc1,?_⟩
 have:=hwf z (List.mem_of_getElem? hi)
 simp only [Lit.wf,IntKind.min,IntKind.max,IntKind.signed,IntKind.bits,Bool.and_eq_true,decide_eq_true_eq,if_true]at this
 exact⟨by omega,by omega⟩
theorem aP {P:Program} {t e e2:TypeId} {fuel:Nat} {cs:List Value} {x:DataW H×List MemPlace} (ht:P.underlying t=some (.slice e)) (he:P.underlying e=some (.slice e2)) (hc:P.cellsOf e=1) (he2:P.underlying e2=some (.int .i64)) (hc2:P.cellsOf e2=1)
 (h:DataW.trod enc P W base (fun _=>true) held fuel t cs=some x): ∃u ls,cs= [u]∧kZ W u ls:=by
 rcases DataW.trod_slice ht h with⟨rfl,_⟩|⟨a,len,cap,elems,rest,n,_,rfl,_,hb,hl,_,hlen,hel,_⟩
 ·exact⟨_,[],rfl,.inl ⟨rfl,rfl⟩⟩
 have each: ∀i,i<len→ ∃u xs,W.cell? (a.add i)=some u∧j7 W u xs:=by
  intro i hi
  have h1:=hel i hi
  rw [List.getElem?_eq_getElem (by omega)]at h1
  rw [hc,Nat.mul_one,Option.bind_eq_some_iff]at h1
  obtain⟨cs',hcs,hy⟩:=h1
  obtain⟨u,xs,rfl,hI⟩:=mq he he2 hc2 hy
  exact⟨u,xs,cell_of_cells?_one hcs,hI⟩
 obtain⟨F,hF⟩: ∃F:Nat→List Int,∀i,i<len→ ∃u,W.cell? (a.add i)=some u∧j7 W u (F i):=by
  have: ∀i,∃xs,i<len→ ∃u,W.cell? (a.add i)=some u∧j7 W u xs:=by
   intro i
   by_cases hi:i<len
   ·obtain⟨u,xs,h1,h2⟩:=each i hi
    exact⟨xs,fun _=>⟨u,h1,h2⟩⟩
   exact⟨[],fun h=>absurd h hi⟩
  exact⟨fun i=>(this i).choose,fun i hi=>(this i).choose_spec hi⟩
 have hll:((List.range len).map F).length=len:=by simp
 refine⟨_,(List.range len).map F,rfl,.inr ⟨a,cap,by rw [hll],by rw [hll];exact hl,fun i l hi=> ?_⟩⟩
 have hil:i<len:=by have:=(List.getElem?_eq_some_iff.1 hi).1;omega
 rw [List.getElem?_map,List.getElem?_range hil]at hi
 cases hi
 exact hF i hil
theorem t0 {v:Value} {l:List Int} (h:j7 W v l): ∀z,z ∈ l→gH z:=by
 intro z hz
 obtain⟨i,hi⟩:=List.mem_iff_getElem?.1 hz
 rcases h with⟨_,rfl⟩|⟨a,cap,_,_,hc⟩
 ·cases hz
 exact(hc i z hi).2
theorem ac {v:Value} {ls:List (List Int)} (h:kZ W v ls): ∀q z,z ∈ ls.getD q []→gH z:=by
 intro q z hz
 rw [List.getD_eq_getElem?_getD]at hz
 cases hq:ls[q]? with
 |none=>rw [hq]at hz;cases hz
 |some l=>
  rw [hq]at hz
  rcases h with⟨_,rfl⟩|⟨a,cap,_,_,hc⟩
  ·simp at hq
  obtain⟨u,_,hI⟩:=hc q l hq
  exact t0 hI z hz
theorem m4 {P:Program} {W':World} (hl:laidOutB P=true) (hm:mapsRowed P=true) (hs:((List.range P.types.size).all fun t=>match P.underlying t with|some (.slice e)=>decide (0<P.cellsOf e)|_=>true)=true) (hB:Below W.heap.size W W') {sp:Nat→Bool} : ∀ {ts:List TypeId} {vs:List Value} {ds:List (DataW H)} {ps:List MemPlace},(∀t,t ∈ ts→t<P.types.size)→DataW.TrodAll enc P W 0 (fun _=>true) true ts vs ds ps→(∀p,p ∈ ps→sp p.block=true)→DataW.TrodAll enc P W' 0 sp true ts vs ds ps:=by
 intro ts vs ds ps hts h hsp
 have h1:=DataW.TrodAll.respare (kids_rows hl hm) (slices_full_of P hs) hts h hsp
 clear h hsp hts
 induction ts generalizing vs ds ps with
 |nil=>cases vs<;>cases ds<;>exact h1
 |cons t ts ih=>
  cases vs with
  |nil=>cases ds<;>exact h1
  |cons v vs=>
   cases ds with
   |nil=>exact h1
   |cons d ds=>
    obtain⟨p,q,h2,h3,e⟩:=h1
    obtain⟨n,hn⟩:=h2
    exact⟨p,q,⟨n,DataW.trod_carry n _ _ _ hn (fun p hp=>hB.same (DataW.trod_lt n _ _ _ hn p hp))⟩,ih h3,e⟩
end
theorem Ju {W:World} (a0:Int) (w0:gH a0) {v1 v2:Value} {ls:List (List Int)} {l:List Int} (h1:kZ W v1 ls) (h2:j7 W v2 l) (hz:(v1= .slice none 0 0∧v2= .slice none 0 0)∨0<W.heap.size):
 Calls Tryz.prog 7 #[.int .i64 a0,v1,v2] W fun e w'=>e= .returned (.bool true)∧Below W.heap.size W w'∧ ∀b arr el z,W.heap.size≤b→w'.heap[b]? =some (.cells arr el z)→z=(0,0):=by
 obtain⟨V,H,cv,v,hW,r1,r2,hH⟩:=ie h1 h2 hz
 obtain⟨r,H',⟨n,hn⟩,L',rfl,_⟩:=c3 a0 w0 cv ls (ac h1) v l (t0 h2) H hH
 exact xJ (G:=fun _=>True) Db ⟨fun i lo hi h=>by simp at h,trivial⟩ CK hW (hn n (Nat.le_refl n)) (.cons (.int .i64 (.lit a0)) (.cons r1 (.cons r2 .nil)))
end Go.Proofs.YtlhcpplnlgehbaaGreat
