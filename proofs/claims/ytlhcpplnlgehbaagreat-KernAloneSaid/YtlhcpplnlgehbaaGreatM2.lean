/- Part of the proof: PQuiet6, PQuiet7, PAlloc, PWrite, PAppend, PCopy, POp, PRun, PPlan, PStep, PGhost, PDraw, PDraw2. Names and blanks are cut short to keep within the size of a claim. -/
import Derived.Laws.Build
import Derived.Lib.AppendZeros
import Derived.Orders
import Derived.Test.YtlhcpplnlgehbaaGreatM1
set_option linter.unusedVariables false
set_option linter.unusedSimpArgs false
section
namespace Go.Px
open Go Go.RowKit
variable {P:Program} {F:zD} {V:qw} {B:Nat} {w0 w:World} {H:Hp}
theorem Jm: ∀(l:List z0) (o:Nat) (vs:List z0),(u4 l o vs).length=l.length:=by
 intro l
 induction l with
 |nil=>intro o vs;simp [u4]
 |cons c l ih=>
  intro o vs
  cases o with
  |succ o=>simp [u4,ih]
  |zero=>cases vs<;>simp [u4,ih]
theorem bN: ∀(l:List z0) (o:Nat) (vs:List z0) (i:Nat),(u4 l o vs)[i]? =if o≤i∧i<o+vs.length∧i<l.length then vs[i-o]? else l[i]? :=by
 intro l
 induction l with
 |nil=>intro o vs i;simp [u4]
 |cons c l ih=>
  intro o vs i
  cases o with
  |succ o=>
   cases i with
   |zero=>simp [u4]
   |succ i=>
    simp only [u4,List.getElem?_cons_succ,ih,List.length_cons]
    by_cases h:o≤i∧i<o+vs.length∧i<l.length
    ·rw [if_pos h,if_pos (by omega)];congr 1;omega
    rw [if_neg h,if_neg (by omega)]
  |zero=>
   cases vs with
   |nil=>simp [u4]
   |cons v vs=>
    cases i with
    |zero=>simp [u4]
    |succ i=>
     simp only [u4,List.getElem?_cons_succ,ih,List.length_cons,Nat.sub_zero]
     by_cases h:0≤i∧i<0+vs.length∧i<l.length
     ·rw [if_pos h,if_pos (by omega)]
     rw [if_neg h,if_neg (by omega)]
theorem iG (off:Nat): ∀(vs:List (Value×Nat)) (cs:Array Value),(vs.foldl (fun cs (x:Value×Nat)=>cs.setIfInBounds (off+x.2) x.1) cs).size=cs.size:=by
 intro vs
 induction vs with
 |nil=>intro cs;rfl
 |cons x vs ih=>intro cs;simp [ih]
theorem HC (off:Nat): ∀(vs:List Value) (k:Nat) (cs:Array Value) (i:Nat),((vs.zipIdx k).foldl (fun cs (x:Value×Nat)=>cs.setIfInBounds (off+x.2) x.1) cs)[i]? =if off+k≤i∧i<off+k+vs.length∧i<cs.size then vs[i-(off+k)]? else cs[i]? :=by
 intro vs
 induction vs with
 |nil=>intro k cs i;simp only [List.zipIdx_nil,List.foldl_nil,List.length_nil,Nat.add_zero];rw [if_neg (by omega)]
 |cons v vs ih=>
  intro k cs i
  simp only [List.zipIdx_cons,List.foldl_cons,ih,Array.size_setIfInBounds,List.length_cons]
  by_cases h1:off+(k+1)≤i∧i<off+(k+1)+vs.length∧i<cs.size
  ·rw [if_pos h1,if_pos (by omega)]
   rw [show i-(off+k)=(i-(off+(k+1)))+1 by omega]
   simp
  rw [if_neg h1]
  by_cases h2:i=off+k
  ·subst h2
   by_cases h3:off+k<cs.size
   ·rw [if_pos (by omega)];simp [h3]
   rw [if_neg (by omega),Array.getElem?_eq_none (by simp;omega),Array.getElem?_eq_none (by omega)]
  rw [if_neg (by omega),Array.getElem?_setIfInBounds_ne (Ne.symm h2)]
theorem Ze {v:z0} {u:Value} (h:zS V v u) (ht:v.isTuple=false): ∀x,x ∈ v.cells→x.yK=true:=by
 cases h<;>first
  |(cases ht;done)
  |(intro x hx;simp only [z0.cells,List.mem_singleton]at hx;subst hx;rfl)
  |(rename_i hc;exact hc)
def WT (V:qw) (l:List (Nat×z0)) (m:List (Nat×Value)):Prop:=l.map (·.1)=m.map (·.1)∧yw V (l.map (·.2)) (m.map (·.2))
theorem Jn {T:Tm} {a:Act} : ∀ {l:List (Nat×Operand)} {vs:List (Nat×z0)},(∀x,x ∈ l.map (·.2)→ ∀v,zK T x=some v→zS V v (a.eval x))→partsOf T l=some vs→WT V vs (l.map fun(i,x)=>(i,a.eval x))∧ ∀p,p ∈ vs→ ∀u,u ∈ p.2.cells→u.yK=true:=by
 intro l
 induction l with
 |nil=>intro vs _ h;cases h;exact⟨⟨rfl,.nil⟩,fun p hp=>by simp at hp⟩
 |cons x xs ih=>
  intro vs hl h
  obtain⟨i,x⟩:=x
  simp only [partsOf]at h
  cases h1:zK T x with
  |none=>rw [h1]at h;cases h
  |some v=>
   rw [h1]at h
   cases ht:v.isTuple with
   |true=>simp only [ht,cond_true]at h;cases h
   |false=>
    simp only [ht,cond_false]at h
    cases h2:partsOf T xs with
    |none=>rw [h2]at h;cases h
    |some us=>
     rw [h2]at h;cases h
     obtain⟨h3,h4⟩:=ih (fun y hy=>hl y (by rw [List.map_cons];exact List.mem_cons_of_mem _ hy)) h2
     have hv:=hl x (by simp) v h1
     refine⟨⟨by simp [h3.1],.cons hv h3.2⟩,fun p hp=> ?_⟩
     rcases List.mem_cons.1 hp with rfl|hp
     ·exact Ze hv ht
     exact h4 p hp
theorem UG {place:Nat→Option (Nat×Nat)} : ∀(l:List (Nat×z0)) (m:List (Nat×Value)) (cs:List z0) (x:Array Value) (out:List z0),WT V l m→yw V cs x.toList→(∀u,u ∈ cs→u.yK=true)→
 (∀p,p ∈ l→ ∀u,u ∈ p.2.cells→u.yK=true)→Q7 place cs l=some out→ ∃y,Instr.fill place x m=some y∧yw V out y.toList∧(∀u,u ∈ out→u.yK=true)∧out.length=cs.length:=by
 intro l
 induction l with
 |nil=>
  intro m cs x out hp hl hc _ h
  cases h
  have:m= []:=by have:=hp.1;cases m<;>simp_all
  subst this
  exact⟨x,rfl,hl,hc,rfl⟩
 |cons p l ih=>
  intro m cs x out hp hl hc nX h
  obtain⟨i,v⟩:=p
  cases m with
  |nil=>have:=hp.1;simp at this
  |cons q m=>
   obtain⟨j,u⟩:=q
   have LR:i=j:=by have:=hp.1;simp at this;exact this.1
   subst LR
   have hvu:zS V v u:=by have:=hp.2;simp only [List.map_cons]at this;cases this;assumption
   have xq:WT V l m:=⟨by have:=hp.1;simp at this;exact this,by have:=hp.2;simp only [List.map_cons]at this;cases this;assumption⟩
   simp only [Q7]at h
   split at h
   ·cases h
   rename_i off size Ub
   cases hb:Nat.beq v.cells.length size && Nat.ble (off+size) cs.length with
   |false=>rw [hb]at h;cases h
   |true=>
    rw [hb]at h
    simp only [cond_true]at h
    rw [Bool.and_eq_true]at hb
    have h1:=Nat.eq_of_beq_eq_true hb.1
    have h2:=Nat.le_of_ble_eq_true hb.2
    have gE:=hvu.cells
    have Y2:u.cells.size=size:=by rw [hvu.gV,h1]
    have hlen:=hl.length
    have hlen':cs.length=x.size:=by simpa using hlen
    have Sf:Instr.fill place x ((i,u)::m)=Instr.fill place (u.cells.zipIdx.foldl (fun cs (c,j)=>cs.setIfInBounds (off+j) c) x) m:=by
     simp only [Instr.fill,Ub]
     rw [if_neg]
     simp [Y2]
     omega
    rw [Sf]
    refine ih m (u4 cs off v.cells) _ out xq ?_ ?_ (fun p hp=>nX p (by simp [hp])) h|>.imp fun y hy=>⟨hy.1,hy.2.1,hy.2.2.1,by rw [hy.2.2.2,Jm]⟩
    ·have Rw:(u.cells.zipIdx.foldl (fun cs (c,j)=>cs.setIfInBounds (off+j) c) x)=((u.cells.toList.zipIdx 0).foldl (fun cs (x:Value×Nat)=>cs.setIfInBounds (off+x.2) x.1) x):=by
      rw [←Array.foldl_toList,Array.toList_zipIdx]
     rw [Rw]
     refine yw.of ?_ fun n a b ha hb=> ?_
     ·rw [Jm,Array.length_toList];exact hlen'.trans (iG off _ x).symm
     rw [bN]at ha
     rw [Array.getElem?_toList,HC]at hb
     have e3:u.cells.toList.length=v.cells.length:=gE.length.symm
     by_cases kh:off≤n∧n<off+v.cells.length∧n<cs.length
     ·rw [if_pos kh]at ha
      rw [if_pos (by omega)]at hb
      exact gE.pt _ a b ha hb
     rw [if_neg kh]at ha
     rw [if_neg (by omega)]at hb
     exact hl.pt n a b ha (by simpa using hb)
    intro a ha
    obtain⟨n,hn⟩:=List.mem_iff_getElem?.1 ha
    rw [bN]at hn
    split at hn
    ·exact nX (i,v) (by simp) a (List.mem_of_getElem? hn)
    exact hc a (List.mem_of_getElem? hn)
end Go.Px
end
section
namespace Go.Px
open Go Go.RowKit
variable {P:Program} {F:zD} {V:qw} {B:Nat} {w0 w:World} {H:Hp}
theorem tW: ∀(l:List Field) (pl:List (Nat×Nat)),placesOf P l=some pl→ ∀w,(l.mapM fun f=>(do pure (f.offset,←sizeOf f.type):Sem (Nat×Nat))).run P w= .ok pl w:=by
 intro l
 induction l with
 |nil=>intro pl h w;cases h;simp
 |cons f l ih=>
  intro pl h w
  simp only [placesOf]at h
  split at h
  ·cases h
  rename_i n hn
  split at h
  ·cases h
  rename_i O4 hp
  cases h
  rw [List.mapM_cons]
  simp only [Sem.run_bind,qA hn,Result.andThen_ok,Sem.run_pure,ih O4 hp w]
theorem dc {t:TypeId} {l:Option (List (Nat×z0))} {m:Array (Nat×Value)} {r:zN} (hl: ∀x,l=some x→WT V x m.toList∧ ∀p,p ∈ x→ ∀u,u ∈ p.2.cells→u.yK=true)
 (h:QW P t (zeroOf P t) l H=some r) (w:World): ∃v v',r= .val v H∧zS V v v'∧(Instr.build t m).run P w= .ok v' w:=by
 unfold QW at h
 split at h
 ·rename_i z l hz
  obtain⟨zv,rz,G4⟩:=jI (P:=P) hz
  obtain⟨hp,nX⟩:=hl l rfl
  have hzc:=(G4 V).cells
  split at h
  ·rename_i fs hu
   cases ht:z.isTuple with
   |true=>simp only [ht,cond_true]at h;cases h
   |false=>
   simp only [ht,cond_false]at h
   split at h
   ·rename_i pl Ub
    split at h
    ·rename_i cs hf
     cases h
     have UH:(fun(i:Nat)=>pl[i]?)=(fun(i:Nat)=>pl.toArray[i]?):=by funext i;simp
     rw [UH]at hf
     obtain⟨y,h1,h2,h3,_⟩:=UG l m.toList z.cells zv.cells cs hp hzc (Ze (G4 V) ht) nX hf
     refine⟨.agg cs,.agg y,rfl,zS.MU h2 h3,?_⟩
     simp only [Instr.build,Sem.run_bind,rz,Result.andThen_ok,zR hu]
     rw [Array.mapM_eq_mapM_toList]
     simp only [Sem.run_map,tW fs.toList pl Ub w,Result.andThen_ok,h1,Sem.run_pure]
    cases h
   cases h
  ·rename_i n e hu
   cases ht:z.isTuple with
   |true=>simp only [ht,cond_true]at h;cases h
   |false=>
   simp only [ht,cond_false]at h
   split at h
   ·rename_i size hs
    split at h
    ·rename_i cs hf
     cases h
     obtain⟨y,h1,h2,h3,_⟩:=UG l m.toList z.cells zv.cells cs hp hzc (Ze (G4 V) ht) nX hf
     refine⟨.agg cs,.agg y,rfl,zS.MU h2 h3,?_⟩
     simp only [Instr.build,Sem.run_bind,rz,Result.andThen_ok,zR hu,qA hs,h1,Sem.run_pure]
    cases h
   cases h
  cases h
 cases h
theorem de {t:TypeId} {x:OV} {r:zN} {u:Value} (hx: ∀v,x=some v→zS V v u) (h:VD P t x H=some r) (w:World):
 ∃v v',r= .val v H∧zS V v v'∧(Instr.makeInterface t u).run P w= .ok v' w:=by
 unfold VD at h
 split at h
 ·cases h
 ·rename_i v d wY hu
  cases h
  refine⟨_,_,rfl,.iface t v u (hx v rfl),?_⟩
  simp only [Instr.makeInterface,Sem.run_bind,zR hu,Result.andThen_ok,Sem.run_pure]
 cases h
theorem k6 {x:OV} {n:Nat} {r:zN} {u:Value} (hx: ∀v,x=some v→zS V v u) (h:Zg x n H=some r) (w:World):
 ∃v v',r= .val v H∧zS V v v'∧(Instr.extract u n).run P w= .ok v' w:=by
 unfold Zg at h
 split at h
 ·rename_i vs
  obtain⟨y,rfl,hl⟩:=(hx _ rfl).ig
  obtain⟨v,hv,rfl⟩:=qP h
  obtain⟨v',h1,h2⟩:=hl.at n v hv
  have kd:y[n]? =some v':=by simpa using h1
  exact⟨v,v',rfl,h2,by simp [Instr.extract,kd]⟩
 cases h
theorem xW {x:OV} {xt t:TypeId} {ok:Bool} {r:zN} {u:Value} (hx: ∀v,x=some v→zS V v u) (h:doAssert P x t ok H=some r) (w:World):
 ∃v v',r= .val v H∧zS V v v'∧(Instr.typeAssert u xt t ok).run P w= .ok v' w:=by
 unfold doAssert at h
 split at h
 ·cases h
 ·rename_i d wY hu
  cases hx _ rfl
  cases ok with
  |false=>cases h
  |true=>
   simp only [cond_true]at h
   split at h
   ·rename_i z hz
    cases h
    obtain⟨zv,rz,G4⟩:=jI (P:=P) hz
    refine⟨_,.tuple #[zv,.bool false],rfl,zS.nG (.cons (G4 V) (.cons (.bool false) .nil)),?_⟩
    cases d<;>first
     |exact absurd rfl (wY _)
     |simp [Instr.typeAssert,zR hu,rz]
   cases h
 ·rename_i t' v d wY hu
  have hv:=hx _ rfl
  cases hv with
  |iface _ _ u' hv=>
  cases he:Nat.beq t' t with
  |false=>rw [he]at h;cases h
  |true=>
   rw [he]at h
   have he:=Nat.eq_of_beq_eq_true he
   subst he
   cases h
   cases ok with
   |true=>
    refine⟨_,.tuple #[u',.bool true],rfl,zS.nG (.cons hv (.cons (.bool true) .nil)),?_⟩
    cases d<;>first
     |exact absurd rfl (wY _)
     |simp [Instr.typeAssert,zR hu]
   |false=>
    refine⟨_,u',rfl,hv,?_⟩
    cases d<;>first
     |exact absurd rfl (wY _)
     |simp [Instr.typeAssert,zR hu]
 cases h
theorem vc (V:qw) (n:Nat):zS V (WU n) (goInt n):= .int .i64 (.lit (.ofNat n))
theorem sE (hW:yD B w0 V H w) {t ty:TypeId} {ts:Array TypeId} {x:z0} {u:Value} {us:Array Value} (xv:ts[0]? =some t) (iZ:us[0]? =some u) (hx:zS V x u) {v:z0} (h:ix P H t x=some v):
 ∃v',zS V v v'∧(Builtin.len_ ts ty us).run P w= .ok v' w:=by
 unfold ix at h
 split at h
 ·rename_i s hu
  obtain⟨q,rfl,hq⟩:=hx.ux
  cases hb:zk s with
  |false=>rw [hb]at h;cases h
  |true=>
   rw [hb]at h;cases h
   exact⟨_,vc V _,by simp [Builtin.len_,xv,iZ,zR hu,V4 hb hq]⟩
 ·rename_i n e hu
  cases h
  exact⟨_,vc V _,by simp [Builtin.len_,xv,iZ,zR hu]⟩
 ·rename_i e a n c es hu
  cases h
  cases hx with
  |YD es=>exact⟨_,vc V _,by simp [Builtin.len_,xv,iZ,zR hu]⟩
  |slice=>exact⟨_,vc V _,by simp [Builtin.len_,xv,iZ,zR hu]⟩
  |uA=>exact⟨_,vc V _,by simp [Builtin.len_,xv,iZ,zR hu]⟩
  |vU=>exact⟨_,vc V _,by simp [Builtin.len_,xv,iZ,zR hu]⟩
 ·rename_i k e hu
  cases h
  cases hx
  exact⟨_,vc V _,by simp [Builtin.len_,xv,iZ,zR hu]⟩
 ·rename_i k e i hu
  split at h
  ·rename_i es clock hm
   cases h
   obtain⟨b,base,S,hb,rfl⟩:=hx.VK
   obtain⟨_,ms,dt,U3,_⟩:=Zl hW hb hm
   have:es.length=ms.size:=by simpa using U3.1
   exact⟨_,vc V _,by simp [Builtin.len_,xv,iZ,zR hu,vS dt,this]⟩
  cases h
 ·rename_i d e i hu
  split at h
  ·rename_i cap buf s r ho
   cases h
   cases hx with
   |chan _ b base S hb=>
    obtain⟨x,hxx,hr⟩:=hW.obj i _ b base S ho hb
    cases hr with
    |chan _ _ _ _ _ _ _ x hB hl=>
     have:buf.length=x.size:=by simpa using hl.length
     refine⟨_,vc V _,?_⟩
     have hg:(getObj b).run P w= .ok (.chan cap x false s r false) w:=by simp [getObj,Sem.run,hxx]
     simp [Builtin.len_,xv,iZ,zR hu,hg,this]
  cases h
 cases h
theorem zS.D2 {f:FuncId} {x y:List z0} {v:Value} (h:zS V (.func f x y) v): ∃p q,v= .func (.func f) p q:=by
 cases h with
 |func _ _ _ p q=>exact⟨p,q,rfl⟩
theorem xh {f:z0→z0→Option z0} {g:Value→Value→Sem Value} (hfg: ∀a b c u v,f a b=some c→zS V a u→zS V b v→ ∃c',zS V c c'∧(g u v).run P w= .ok c' w):
 ∀(xs:List z0) (us:List Value) (x c:z0) (u:Value),yw V xs us→zS V x u→xg f x xs=some c→ ∃c',zS V c c'∧(us.foldlM g u).run P w= .ok c' w:=by
 intro xs
 induction xs with
 |nil=>intro us x c u hl hx h;cases hl;cases h;exact⟨u,hx,by simp⟩
 |cons y xs ih=>
  intro us x c u hl hx h
  cases hl with
  |cons hy hl=>
   simp only [xg]at h
   split at h
   ·rename_i z hz
    obtain⟨z',h1,h2⟩:=hfg _ _ _ _ _ hz hx hy
    obtain⟨c',h3,h4⟩:=ih _ _ _ _ hl h1 h
    exact⟨c',h3,by simp [List.foldlM_cons,h2,h4]⟩
   cases h
theorem sJ (hF:dJ F V.ρ) (a b c:z0) (u v:Value) (h:I7 F a b=some c) (ha:zS V a u) (hb:zS V b v): ∃c',zS V c c'∧(Builtin.min2 u v).run P w= .ok c' w:=by
 unfold I7 at h
 split at h
 ·rename_i k s j q
  obtain rfl:=ha.uw
  obtain rfl:=hb.uw
  split at h
  ·rename_i e
   cases h
   have:=SInt.Jl hF e
   refine⟨_,.int k q,?_⟩
   have:q.ev V.ρ<s.ev V.ρ:=of_decide_eq_true this.symm
   simp [Builtin.min2,this]
  ·rename_i e
   cases h
   have:=SInt.Jl hF e
   refine⟨_,.int k s,?_⟩
   have: ¬q.ev V.ρ<s.ev V.ρ:=of_decide_eq_false this.symm
   simp [Builtin.min2,this]
  cases h
 cases h
theorem sI (hF:dJ F V.ρ) (a b c:z0) (u v:Value) (h:I5 F a b=some c) (ha:zS V a u) (hb:zS V b v): ∃c',zS V c c'∧(Builtin.max2 u v).run P w= .ok c' w:=by
 unfold I5 at h
 split at h
 ·rename_i k s j q
  obtain rfl:=ha.uw
  obtain rfl:=hb.uw
  split at h
  ·rename_i e
   cases h
   have:=SInt.Jl hF e
   refine⟨_,.int k q,?_⟩
   have:q.ev V.ρ>s.ev V.ρ:=of_decide_eq_true this.symm
   simp [Builtin.max2,this]
  ·rename_i e
   cases h
   have:=SInt.Jl hF e
   refine⟨_,.int k s,?_⟩
   have: ¬q.ev V.ρ>s.ev V.ρ:=of_decide_eq_false this.symm
   simp [Builtin.max2,this]
  cases h
 cases h
def ta:Builtin→Bool
 | .len=>true
 | .cap=>true
 | .min=>true
 | .max=>true
 |_=>false
theorem dZ (hF:dJ F V.ρ) (hW:yD B w0 V H w) {b:Builtin} (hb:ta b=true) {ts:Array TypeId} {ty:TypeId} {cs:Array Bool} {args:List z0} {us:Array Value} (hl:yw V args us.toList) {r:zN}
 (h:yc P F b ts.toList H args=some r): ∃v v',r= .val v H∧zS V v v'∧(builtin b ts ty cs us).run P w= .ok (.value v') w:=by
 cases b<;>simp only [ta]at hb<;>try (cases hb;done)
 ·
  simp only [yc]at h
  split at h
  ·rename_i t PQ a n c es zC0 ht
   obtain⟨q,e1,e2⟩:=hl.at 0 _ rfl
   have ht':ts[0]? =some t:=by
    have:ts.toList[0]? =some t:=by rw [ht];rfl
    simpa using this
   have kG:us[0]? =some q:=by simpa using e1
   split at h
   ·rename_i e hu
    cases h
    cases e2 with
    |YD es=>exact⟨_,goInt 0,rfl,vc V 0,by simp [builtin,Builtin.cap_,ht',kG,zR hu]⟩
    |slice i off len _ _ b base S c' U0 nW Je hS=>
     have:=Je c rfl
     subst this
     exact⟨_,goInt c',rfl,vc V c',by simp [builtin,Builtin.cap_,ht',kG,zR hu]⟩
    |vU i off len _ _ b base S c' _ U0 _ nW Je _=>
     have:=Je c rfl
     subst this
     exact⟨_,goInt c',rfl,vc V c',by simp [builtin,Builtin.cap_,ht',kG,zR hu]⟩
    |uA i off _ b base S o c' _ U0 Je ho' hS=>
     obtain⟨rfl,rfl⟩:=Je c rfl
     exact⟨_,goInt 0,rfl,vc V 0,by simp [builtin,Builtin.cap_,ht',kG,zR hu]⟩
   cases h
  cases h
 ·
  simp only [yc]at h
  split at h
  ·rename_i t PQ x zC0 ht
   obtain⟨v,hv,rfl⟩:=qP h
   obtain⟨q,e1,e2⟩:=hl.at 0 _ rfl
   have ht':ts[0]? =some t:=by
    have:ts.toList[0]? =some t:=by rw [ht];rfl
    simpa using this
   have kG:us[0]? =some q:=by simpa using e1
   obtain⟨v',h1,h2⟩:=sE hW (ty:=ty) ht' kG e2 hv
   exact⟨v,v',rfl,h1,by simp [builtin,h2]⟩
  cases h
 ·
  simp only [yc]at h
  split at h
  ·rename_i x xs
   obtain⟨v,hv,rfl⟩:=qP h
   cases hu:us.toList with
   |nil=>rw [hu]at hl;cases hl
   |cons u PR=>
    rw [hu]at hl
    cases hl with
    |cons hx hl=>
     obtain⟨v',h1,h2⟩:=xh (P:=P) (w:=w) (sI hF) xs PR x v u hl hx hv
     exact⟨v,v',rfl,h1,by simp [builtin,Builtin.max_,hu,h2]⟩
  cases h
 ·
  simp only [yc]at h
  split at h
  ·rename_i x xs
   obtain⟨v,hv,rfl⟩:=qP h
   cases hu:us.toList with
   |nil=>rw [hu]at hl;cases hl
   |cons u PR=>
    rw [hu]at hl
    cases hl with
    |cons hx hl=>
     obtain⟨v',h1,h2⟩:=xh (P:=P) (w:=w) (sJ hF) xs PR x v u hl hx hv
     exact⟨v,v',rfl,h1,by simp [builtin,Builtin.min_,hu,h2]⟩
  cases h
def Zc:Op→Bool
 | .move _| .assign _| .pick .. | .build .. | .load .. | .nilCheck _| .binOp .. | .unOp .. | .convert .. | .makeInterface .. | .makeFunc .. | .slice .. | .fieldAddr .. | .field .. | .indexAddr ..
 | .index .. | .lookup .. | .extract .. | .typeAssert .. =>true
 | .call c=>match c.callee with
  | .builtin b=>ta b
  |_=>false
 |_=>false
theorem J4 {T:Tm} {a:Act} {x:Option Operand} (hT: ∀y,x=some y→ ∀v,zK T y=some v→zS V v (a.eval y)) (hn:x.map (zK T)≠some none):QP V ((x.map (zK T)).getD none) (x.map a.eval):=by
 cases x with
 |none=>exact .none
 |some x=>
  simp only [Option.map_some]at hn ⊢
  cases hx:zK T x with
  |none=>rw [hx]at hn;exact absurd rfl hn
  |some v=>exact .some (hT x rfl v hx)
theorem Wy (hF:dJ F V.ρ) (hW:yD B w0 V H w) {T:Tm} {a:Act} {o:Oper} (hT:pB V T a o.op.operands) (hq:Zc o.op=true) {r:zN} (h:yd P F T H o=some r):
 ∃v v',r= .val v H∧zS V v v'∧(execOp a.eval o).run P w= .ok (.value v') w:=by
 obtain⟨dst,op,ty,pos,after,guard⟩:=o
 have ev: ∀ {x:Operand},x ∈ op.operands→ ∀v,zK T x=some v→zS V v (a.eval x):=fun hx v h=>hT _ hx v h
 clear hT
 have lift: ∀ {s:Sem Value} {r:zN},(∃v v',r= .val v H∧zS V v v'∧s.run P w= .ok v' w)→(execOp a.eval ⟨dst,op,ty,pos,after,guard⟩)=(do pure (.value (←s)))→
  ∃v v',r= .val v H∧zS V v v'∧(execOp a.eval ⟨dst,op,ty,pos,after,guard⟩).run P w= .ok (.value v') w:=by
  intro s r ⟨v,v',h1,h2,h3⟩ e
  exact⟨v,v',h1,h2,by rw [e];simp [h3]⟩
 cases op<;>simp only [Zc]at hq<;>try (cases hq;done)
 case move x=>
  obtain⟨v,hv,rfl⟩:=qP h
  exact⟨v,_,rfl,ev (by simp [Op.operands]) _ hv,rfl⟩
 case assign x=>
  obtain⟨v,hv,rfl⟩:=qP h
  exact⟨v,_,rfl,ev (by simp [Op.operands]) _ hv,rfl⟩
 case pick c x y=>
  simp only [yd,xc]at h
  split at h
  ·rename_i b hc
   obtain⟨v,hv,rfl⟩:=qP h
   have Je:=(ev (x:=c) (by simp [Op.operands]) _ hc).Wt
   cases b with
   |true=>exact⟨v,_,rfl,ev (by simp [Op.operands]) _ hv,by simp [execOp,Je,asBool]⟩
   |false=>exact⟨v,_,rfl,ev (by simp [Op.operands]) _ hv,by simp [execOp,Je,asBool]⟩
  cases h
 case build t parts=>
  refine lift (dc (m:=parts.map fun(i,x)=>(i,a.eval x)) (fun x hx=> ?_) h w) rfl
  have:=Jn (a:=a) (V:=V) (fun y hy=>ev (by simpa [Op.operands] using hy)) hx
  simpa using this
 case load t x=>exact lift (mg hW (ev (by simp [Op.operands])) h) rfl
 case nilCheck x=>
  simp only [yd,Zz]at h
  split at h
  ·rename_i p hx
   cases h
   obtain⟨i,off⟩:=p
   have hv:=ev (by simp [Op.operands]) _ hx
   obtain⟨b,base,S,hb,he⟩:=hv.Za
   exact⟨_,_,rfl,hv,by simp [execOp,he]⟩
  ·rename_i f x' y' hx
   cases h
   have hv:=ev (by simp [Op.operands]) _ hx
   obtain⟨p,q,he⟩:=hv.D2
   exact⟨_,_,rfl,hv,by simp [execOp,he]⟩
  cases h
 case binOp op t x y yt=>
  obtain⟨z,z',h1,h2,h3,h4⟩:=fT (x:=x) (y:=y) hF hW (ev (by simp [Op.operands])) (ev (by simp [Op.operands])) h
  exact⟨z,z',h1,h2,by simp [execOp,h3,h4]⟩
 case unOp op t x=>exact lift (cD hF (ev (by simp [Op.operands])) h w) rfl
 case convert s d x=>exact lift (mf hF (ev (by simp [Op.operands])) h w) rfl
 case makeInterface t x=>exact lift (de (ev (by simp [Op.operands])) h w) rfl
 case makeFunc f xs ys=>
  simp only [yd,xY]at h
  split at h
  ·rename_i f u v hu hv
   cases h
   have h1:=QD (a:=a) (V:=V) (fun y hy=>ev (by simp [Op.operands];left;simpa using hy)) hu
   have h2:=QD (a:=a) (V:=V) (fun y hy=>ev (by simp [Op.operands];right;simpa using hy)) hv
   refine⟨_,_,rfl,?_,rfl⟩
   exact .func f u v _ _ (by simpa using h1.length) (by simpa using h2.length) (fun i p q hp hq=>h1.pt i p q hp (by simpa using hq)) (fun i p q hp hq=>h2.pt i p q hp (by simpa using hq))
  cases h
 case slice t x lo hi mx=>
  simp only [yd,wW]at h
  split at h
  ·cases h
  ·cases h
  ·cases h
  ·rename_i l1 l2 l3 v hx h1 h2 h3
   obtain⟨z,hz,rfl⟩:=qP h
   obtain⟨z',h4,h5⟩:=tx hW (ev (by simp [Op.operands]) _ hx) (J4 (fun y hy=>ev (by simp [Op.operands,hy])) h1) (J4 (fun y hy=>ev (by simp [Op.operands,hy])) h2) (J4 (fun y hy=>ev (by simp [Op.operands,hy])) h3) hz
   exact⟨z,z',rfl,h4,by simp [execOp,h5]⟩
  cases h
 case fieldAddr t x n=>exact lift (Ur (ev (by simp [Op.operands])) h w) rfl
 case field t x n=>exact lift (dd (ev (by simp [Op.operands])) h w) rfl
 case indexAddr t x y=>exact lift (Us (ev (by simp [Op.operands])) (ev (by simp [Op.operands])) h w) rfl
 case index t x y=>exact lift (dg (ev (by simp [Op.operands])) (ev (by simp [Op.operands])) h w) rfl
 case lookup t x k ok=>exact lift (xZ hF hW (ev (by simp [Op.operands])) (ev (by simp [Op.operands])) h) rfl
 case extract x n=>exact lift (k6 (ev (by simp [Op.operands])) h w) rfl
 case typeAssert x xt t ok=>exact lift (xW (ev (by simp [Op.operands])) h w) rfl
 case call c=>
  obtain⟨callee,args,Oz⟩:=c
  cases callee<;>simp only at hq<;>try (cases hq;done)
  case builtin b=>
   simp only [yd,yq]at h
   split at h
   ·rename_i zC0 has
    have hl:=QD (a:=a) (V:=V) (fun y hy=>ev (by simp [Op.operands,Call.operands];simpa using hy)) has
    have:=dZ (ty:=ty) (cs:=args.map fun| .const _=>true|_=>false) (us:=args.map a.eval) hF hW hq (by simpa using hl) h
    obtain⟨v,v',h1,h2,h3⟩:=this
    refine⟨v,v',h1,h2,?_⟩
    simp only [execOp,resolve,Sem.run_bind,Sem.run_pure,Result.andThen_ok,invoke]
    exact h3
   cases h
end Go.Px
end
section
namespace Go.Px
open Go Go.RowKit
variable {P:Program} {F:zD} {V:qw} {B:Nat} {w0 w:World} {H:Hp}
def Vs (P:Program) (V:qw) (B:Nat) (H:Hp) (w:World) (r:zN) (s:Sem Value):Prop:=
 ∃v ob x base S v',r= .val v (H.alloc ob)∧s.run P w= .ok v' (w.alloc x)∧QO V B ob w.heap.size base S x∧
  ∀V',V.le V'→V'.uD H.next=some (w.heap.size,base,S)→zS V' v v'
theorem run_newObj (o:Obj) (w:World):(newObj o).run P w= .ok w.heap.size (w.alloc o):=by
 simp [newObj,Sem.run]
theorem GB {v:z0} {u:Value} (hv:zS V v u) (ht:v.isTuple=false) (hB:B≤w.heap.size) (t:TypeId):
 Vs P V B H w (.val (.ptr (some (H.next,0))) (wy H v.cells)) (do pure (.pointer (some (←newVar t u)))):=by
 refine⟨_,newRow v.cells,.cells u.cells t,0,v.cells.length,.pointer (some ⟨w.heap.size,0,none⟩),rfl,?_,?_,?_⟩
 ·simp [newVar,Go.newRow]
 ·have:=Y8 (B:=B) hv.cells (Ze hv ht) w.heap.size v.cells.length t [] hB (by simp)
  simpa using this
 intro V' _ h
 have:=zS.ptr (V:=V') H.next 0 _ _ _ h
 simpa using this
theorem mc {z:z0} {t:TypeId} (hz:zeroOf P t=some z) (hB:B≤w.heap.size) {r:zN} (h:gS (some z) H=some r):Vs P V B H w r (Instr.alloc t true (.tuple #[])):=by
 obtain⟨zv,rz,G4⟩:=jI (P:=P) hz
 simp only [gS]at h
 cases ht:z.isTuple with
 |true=>rw [ht]at h;cases h
 |false=>
  rw [ht]at h;cases h
  obtain⟨v,ob,x,base,S,v',h1,h2,h3,h4⟩:=GB (P:=P) (H:=H) (G4 V) ht hB t
  exact⟨v,ob,x,base,S,v',h1,by simpa [Instr.alloc,rz] using h2,h3,h4⟩
theorem fS {x:OV} {u:Value} (hx: ∀v,x=some v→zS V v u) (hB:B≤w.heap.size) (t:TypeId) {r:zN} (h:gS x H=some r):Vs P V B H w r (Instr.box t u):=by
 unfold gS at h
 split at h
 ·rename_i v
  cases ht:v.isTuple with
  |true=>rw [ht]at h;cases h
  |false=>
   rw [ht]at h;cases h
   exact GB (hx v rfl) ht hB t
 cases h
theorem gz (cs:List z0): ∀n,(yR cs n).length=n*cs.length:=by
 intro n
 induction n with
 |zero=>simp [yR]
 |succ n ih=>simp [yR,ih,Nat.add_mul,Nat.add_comm]
theorem sj (cs:List z0): ∀n i,i<n*cs.length→(yR cs n)[i]? =cs[i%cs.length]? :=by
 intro n
 induction n with
 |zero=>intro i h;omega
 |succ n ih=>
  intro i h
  simp only [yR]
  by_cases hi:i<cs.length
  ·rw [List.getElem?_append_left hi,Nat.mod_eq_of_lt hi]
  rw [List.getElem?_append_right (by omega),ih _ (by rw [Nat.add_mul]at h;omega),←Nat.mod_eq_sub_mod (by omega)]
theorem ZE {z:z0} {zv:Value} (hz:zS V z zv) (n:Nat) (q:Array Value) (hq:n*z.cells.length≠0→q=zv.cells):
 yw V (yR z.cells n) ((Array.range (n*z.cells.length)).map (q[· %q.size]!)).toList:=by
 have hc:=hz.cells
 refine yw.of (by rw [gz];simp) fun i a b ha hb=> ?_
 have hi:i<n*z.cells.length:=by have:=(List.getElem?_eq_some_iff.1 ha).1;rw [gz]at this;exact this
 rw [sj _ _ _ hi]at ha
 obtain rfl:=hq (by omega)
 have Y2:zv.cells.size=z.cells.length:=hz.gV
 obtain⟨b',h1,h2⟩:=hc.at _ a ha
 have uE:i%z.cells.length<zv.cells.size:=by
  have:=(List.getElem?_eq_some_iff.1 ha).1
  omega
 have U0:zv.cells[i%zv.cells.size]! =b':=by
  rw [Y2]
  rw [getElem!_pos zv.cells _ uE]
  rw [Array.getElem?_toList]at h1
  exact(Array.getElem?_eq_some_iff.1 h1).2
 simp [hi]at hb
 rw [U0]at hb
 subst hb
 exact h2
theorem Jp {cs:List z0} (hc: ∀u,u ∈ cs→u.yK=true): ∀n u,u ∈ yR cs n→u.yK=true:=by
 intro n
 induction n with
 |zero=>intro u h;simp [yR]at h
 |succ n ih=>intro u h;simp only [yR,List.mem_append]at h;exact h.elim (hc u) (ih u)
theorem UC {t:TypeId} {len:Nat} {l:Option (List (Nat×z0))} {m:Array (Nat×Value)} {r:zN} (hB:B≤w.heap.size) (hl: ∀x,l=some x→WT V x m.toList∧ ∀p,p ∈ x→ ∀u,u ∈ p.2.cells→u.yK=true)
 (h:vw P t len l H=some r):Vs P V B H w r (Instr.buildSlice t len m):=by
 unfold vw at h
 split at h
 ·rename_i e l hu
  obtain⟨hp,nX⟩:=hl l rfl
  split at h
  ·rename_i size z hs hz
   obtain⟨zv,rz,G4⟩:=jI (P:=P) hz
   cases hb:Nat.beq z.cells.length size && Nat.ble (len*size) 65536 && !z.isTuple with
   |false=>rw [hb]at h;cases h
   |true=>
    rw [hb]at h
    simp only [cond_true]at h
    simp only [Bool.and_eq_true,Bool.not_eq_true']at hb
    obtain⟨⟨pX,kg⟩,ht⟩:=hb
    have pX:=Nat.eq_of_beq_eq_true pX
    have kg:=Nat.le_of_ble_eq_true kg
    split at h
    ·rename_i cs hf
     cases h
     have zc:=Ze (G4 V) ht
     let q:Array Value:=if len*size=0 then #[]else zv.cells
     have hq:len*z.cells.length≠0→q=zv.cells:=fun wY=>by show(if len*size=0 then #[]else zv.cells)=_;rw [if_neg (by rw [←pX];exact wY)]
     have Jf:=ZE (G4 V) len q hq
     rw [pX]at Jf
     obtain⟨y,h1,h2,h3,h4⟩:=UG l m.toList _ _ cs hp Jf (Jp zc len) nX hf
     have hlen:cs.length=len*size:=by rw [h4,gz,pX]
     refine⟨_,newRow cs,.cells y e,0,cs.length,.slice (some ⟨w.heap.size,0,none⟩) len len,rfl,?_,?_,?_⟩
     ·simp only [Instr.buildSlice,Sem.run_bind,zR hu,Result.andThen_ok,qA hs]
      rw [if_neg (by simp only [Nat.reducePow];omega)]
      by_cases h0:len*size=0
      ·have FR:q= #[]:=if_pos h0
       rw [FR]at h1
       rw [if_pos h0]
       simp only [Sem.run_bind,Sem.run_pure,Result.andThen_ok,h1,Go.newRow,run_newObj]
      have FR:q=zv.cells:=if_neg h0
      rw [FR]at h1
      rw [if_neg h0]
      simp only [Sem.run_bind,Sem.run_pure,Result.andThen_ok,rz,h1,Go.newRow,run_newObj]
     ·have:=Y8 (B:=B) h2 h3 w.heap.size cs.length e [] hB (by simp)
      simpa using this
     intro V' _ hV
     have:=zS.slice (V:=V') H.next 0 len (some len) size _ _ _ len hV (Nat.le_refl _) (fun k hk=>by cases hk;rfl) (by omega)
     simpa using this
    cases h
  cases h
 cases h
theorem k7 {t:TypeId} {x:Option OV} {u:Option Value} (hB:B≤w.heap.size) (hx: ∀y,x=some (some y)→ ∃v,u=some v∧zS V y v) (hn:x=none→u=none) {r:zN} (h:gq P t x H=some r):
 Vs P V B H w r (Instr.makeMap t u):=by
 have fin: ∀(hr:(Instr.makeMap t u).run P w= .ok (.map (some w.heap.size)) (w.alloc (.map #[] 0))),Vs P V B H w (.val (.map (some H.next)) (H.alloc (.map [] 0))) (Instr.makeMap t u):=fun hr=>
  ⟨_,.map [] 0,.map #[] 0,0,0,_,rfl,hr,.map [] 0 _ 0 0 #[] hB rfl (fun i e m h=>by simp at h),fun V' _ hV=> .map H.next _ _ _ hV⟩
 unfold gq at h
 split at h
 ·rename_i k e hu
  split at h
  ·cases h
   rw [hn rfl]
   rw [hn rfl]at fin
   exact fin (by simp [Instr.makeMap])
  ·rename_i k' s
   cases h
   obtain⟨v,rfl,hv⟩:=hx _ rfl
   obtain rfl:=hv.uw
   exact fin (by simp [Instr.makeMap,zR hu,asInt,asIntOf])
  cases h
 cases h
theorem Gj {t:TypeId} {x:OV} {u:Value} (hB:B≤w.heap.size) (hx: ∀v,x=some v→zS V v u) {r:zN} (h:jT P t x H=some r):
 Vs P V B H w r (Instr.makeChan t u):=by
 unfold jT at h
 split at h
 ·rename_i d e v hu
  split at h
  ·rename_i n bytes hn HS
   obtain⟨k,rfl⟩:=wv hn (hx _ rfl)
   cases hb:Nat.ble n 1024 && Nat.ble bytes yi with
   |false=>rw [hb]at h;cases h
   |true=>
    rw [hb]at h
    cases h
    rw [Bool.and_eq_true]at hb
    have h1:=Nat.le_of_ble_eq_true hb.1
    have h2:=Nat.le_of_ble_eq_true hb.2
    obtain⟨i,hi,hib⟩:=QT HS
    have hmul:((bytes:Int)*(n:Int))≤1048576*1024:=by
     have:=Nat.mul_le_mul h2 h1
     have h2:((bytes*n:Nat):Int)≤((yi*1024:Nat):Int):=Int.ofNat_le.2 this
     rw [Int.natCast_mul]at h2
     simpa [yi] using h2
    refine⟨_,.chan n [] 0 0,.chan n #[] false 0 0 false,0,0,.chan (some w.heap.size),rfl,?_,.chan n [] 0 0 _ 0 0 #[] hB .nil,fun V' _ hV=> .chan H.next _ _ _ hV⟩
    have hm:(IntKind.i64.max:Int)=9223372036854775807:=by decide
    have c2: ¬((n:Int)<0∨(n:Int)>IntKind.i64.max∨(bytes:Int)*(n:Int)>2^48-112):=by
     rw [hm]
     simp only [Int.reducePow,Int.reduceSub]
     omega
    simp only [Instr.makeChan,Sem.run_bind,asInt,asIntOf,Sem.run_pure,Result.andThen_ok,zR hu,run_typeInfo hi,hib]
    rw [if_neg c2]
    simp only [Sem.run_bind,run_newObj,Result.andThen_ok,Sem.run_pure,Int.toNat_natCast]
  cases h
 cases h
theorem run_askRoom (n:Nat) (w:World):(askRoom n).run P w= .ok () w:=by
 unfold askRoom
 split
 ·rfl
 rfl
theorem Ut {t:TypeId} {x y:OV} {u z:Value} (hB:B≤w.heap.size) (hx: ∀v,x=some v→zS V v u) (hy: ∀v,y=some v→zS V v z) {r:zN} (h:gu P t x y H=some r):
 Vs P V B H w r (Instr.makeSlice t u z):=by
 unfold gu at h
 split at h
 ·rename_i e a b hu
  split at h
  ·rename_i l c size zz bytes hl hc hs hz HS
   obtain⟨zv,rz,G4⟩:=jI (P:=P) hz
   obtain⟨k1,rfl⟩:=wv hl (hx _ rfl)
   obtain⟨k2,rfl⟩:=wv hc (hy _ rfl)
   cases hb:Nat.beq zz.cells.length size && Nat.ble c 65536 && Nat.ble l c && Nat.ble bytes yi && !zz.isTuple with
   |false=>rw [hb]at h;cases h
   |true=>
    rw [hb]at h
    cases h
    simp only [Bool.and_eq_true,Bool.not_eq_true']at hb
    obtain⟨⟨⟨⟨pX,kg⟩,HQ⟩,P7⟩,ht⟩:=hb
    have pX:=Nat.eq_of_beq_eq_true pX
    have kg:=Nat.le_of_ble_eq_true kg
    have HQ:=Nat.le_of_ble_eq_true HQ
    have P7:=Nat.le_of_ble_eq_true P7
    obtain⟨i,hi,hib⟩:=QT HS
    have zc:=Ze (G4 V) ht
    let q:Array Value:=if c*size=0 then #[]else zv.cells
    have hq:c*zz.cells.length≠0→q=zv.cells:=fun wY=>by show(if c*size=0 then #[]else zv.cells)=_;rw [if_neg (by rw [←pX];exact wY)]
    have Jf:=ZE (G4 V) c q hq
    rw [pX]at Jf
    have B1:IntKind.i64.wrap (l:Int)=(l:Int):=jq ((u3 _ _).2 ⟨by simp only [G7];omega,by simp only [ZO];omega⟩)
    have FT:IntKind.i64.wrap (c:Int)=(c:Int):=jq ((u3 _ _).2 ⟨by simp only [G7];omega,by simp only [ZO];omega⟩)
    have hmul:((bytes:Int)*(c:Int))≤1048576*65536:=by
     have:=Nat.mul_le_mul P7 kg
     have h2:((bytes*c:Nat):Int)≤((yi*65536:Nat):Int):=Int.ofNat_le.2 this
     rw [Int.natCast_mul]at h2
     simpa [yi] using h2
    have hlen:(yR zz.cells c).length=c*size:=by rw [gz,pX]
    refine⟨_,newRow (yR zz.cells c),.cells ((Array.range (c*size)).map (q[· %q.size]!)) e,0,(yR zz.cells c).length,.slice (some ⟨w.heap.size,0,none⟩) l c,rfl,?_,?_,?_⟩
    ·simp only [Instr.makeSlice,Sem.run_bind,zR hu,Result.andThen_ok,asInt,asIntOf,Sem.run_pure,run_typeInfo hi,hib,B1,FT]
     have c1:(decide ((c:Int)<0)||decide ((bytes:Int)*(c:Int)>2^48))=false:=by
      rw [Bool.or_eq_false_iff]
      exact⟨decide_eq_false (by omega),decide_eq_false (by simp only [Int.reducePow];omega)⟩
     have c2: ¬(((decide ((c:Int)<0)||decide ((bytes:Int)*(c:Int)>2^48))||decide ((l:Int)<0)||decide ((l:Int)>(c:Int)))=true):=by
      rw [c1]
      simp
      omega
     rw [if_neg c2]
     simp only [Sem.run_bind,run_askRoom,Result.andThen_ok,qA hs,Int.toNat_natCast]
     by_cases h0:c*size=0
     ·have FR:q= #[]:=if_pos h0
      rw [FR]
      rw [if_pos h0]
      simp only [Sem.run_bind,Sem.run_pure,Result.andThen_ok,Go.newRow,run_newObj]
     have FR:q=zv.cells:=if_neg h0
     rw [FR]
     rw [if_neg h0]
     simp only [Sem.run_bind,Sem.run_pure,Result.andThen_ok,rz,Go.newRow,run_newObj]
    ·have:=Y8 (B:=B) Jf (Jp zc c) w.heap.size (yR zz.cells c).length e [] hB (by simp)
     simpa only [List.append_nil,Array.toArray_toList] using this
    intro V' _ hV
    have:=zS.slice (V:=V') H.next 0 l (some c) size _ _ _ c hV HQ (fun k hk=>by cases hk;rfl) (by omega)
    simpa using this
  cases h
 cases h
def wA:Op→Bool
 | .alloc _| .box .. | .buildSlice .. | .makeMap .. | .makeChan .. | .makeSlice .. =>true
 |_=>false
theorem JO (hB:B≤w.heap.size) {T:Tm} {a:Act} {o:Oper} (hT:pB V T a o.op.operands) (hq:wA o.op=true) {r:zN} (h:yd P F T H o=some r):
 ∃v ob x base S v',r= .val v (H.alloc ob)∧(execOp a.eval o).run P w= .ok (.value v') (w.alloc x)∧QO V B ob w.heap.size base S x∧
  ∀V',V.le V'→V'.uD H.next=some (w.heap.size,base,S)→zS V' v v':=by
 obtain⟨dst,op,ty,pos,after,guard⟩:=o
 have ev: ∀ {x:Operand},x ∈ op.operands→ ∀v,zK T x=some v→zS V v (a.eval x):=fun hx v h=>hT _ hx v h
 clear hT
 have lift: ∀ {s:Sem Value} {r:zN},Vs P V B H w r s→(execOp a.eval ⟨dst,op,ty,pos,after,guard⟩)=(do pure (.value (←s)))→
  ∃v ob x base S v',r= .val v (H.alloc ob)∧(execOp a.eval ⟨dst,op,ty,pos,after,guard⟩).run P w= .ok (.value v') (w.alloc x)∧QO V B ob w.heap.size base S x∧
   ∀V',V.le V'→V'.uD H.next=some (w.heap.size,base,S)→zS V' v v':=by
  intro s r ⟨v,ob,x,base,S,v',h1,h2,h3,h4⟩ e
  exact⟨v,ob,x,base,S,v',h1,by rw [e];simp [h2],h3,h4⟩
 cases op<;>simp only [wA]at hq<;>try (cases hq;done)
 case alloc t=>
  simp only [yd]at h
  cases hz:zeroOf P t with
  |none=>rw [hz]at h;cases h
  |some z=>rw [hz]at h;exact lift (mc hz hB h) rfl
 case box t x=>exact lift (fS (ev (by simp [Op.operands])) hB t h) rfl
 case buildSlice t len parts=>
  have h':vw P t len (partsOf T parts.toList) H=some r:=h
  have hm:Vs P V B H w r (Instr.buildSlice t len (parts.map fun(i,x)=>(i,a.eval x))):=UC hB (fun x hx=>by
   have:=Jn (a:=a) (V:=V) (fun y hy=>ev (by simpa [Op.operands] using hy)) hx
   simpa using this) h'
  have e:(execOp a.eval ⟨dst,.buildSlice t len parts,ty,pos,after,guard⟩)=(do pure (.value (←Instr.buildSlice t len (parts.map fun(i,x)=>(i,a.eval x))))):=by simp only [execOp]
  exact lift hm e
 case makeMap t x=>
  refine lift (k7 (u:=x.map a.eval) hB (fun y hy=> ?_) (fun hx=> ?_) h) rfl
  ·cases x with
   |none=>cases hy
   |some x=>simp only [Option.map_some,Option.some.injEq]at hy;exact⟨a.eval x,rfl,ev (by simp [Op.operands]) _ hy⟩
  cases x with
  |none=>rfl
  |some x=>cases hx
 case makeChan t x=>exact lift (Gj hB (ev (by simp [Op.operands])) h) rfl
 case makeSlice t x y=>exact lift (Ut hB (ev (by simp [Op.operands])) (ev (by simp [Op.operands])) h) rfl
end Go.Px
end
section
namespace Go.Px
open Go Go.RowKit
variable {P:Program} {F:zD} {V:qw} {B:Nat} {w0 w:World} {H:Hp}
theorem Q1: ∀(vs:List z0) (c:Tr z0) (o i:Nat),(jf c o vs).get i=if o≤i∧i<o+vs.length then vs[i-o]? else c.get i:=by
 intro vs
 induction vs with
 |nil=>intro c o i;show c.get i=_;rw [if_neg (by simp)]
 |cons v vs ih=>
  intro c o i
  show(jf (c.set o v) (o+1) vs).get i=_
  rw [ih,Tr.yh]
  simp only [List.length_cons]
  by_cases h1:o+1≤i∧i<o+1+vs.length
  ·rw [if_pos h1,if_pos (by omega)]
   have:i-o=(i-(o+1))+1:=by omega
   rw [this];simp
  rw [if_neg h1]
  by_cases h2:i=o
  ·subst h2;simp
  rw [if_neg h2,if_neg (by omega)]
theorem bM {a:z0} {v:Value} (h:zS V a v) (hc:a.yK=true):v.oneCell'=true:=by cases h<;>first|rfl|cases hc
theorem mE (hW:yD B w0 V H w) {i b base S off m:Nat} {c:Tr z0} {zC0:List z0} {vs:List Value} (hb:V.uD i=some (b,base,S)) (ho:H.t.get i=some (.cells true c m))
 (hlen:off+zC0.length≤m) (hc: ∀u,u ∈ zC0→u.yK=true) (hl:yw V zC0 vs):
 ∃w',(storeCells ⟨b,base+off,none⟩ vs).run P w= .ok () w'∧yD B w0 V (H.put i (.cells true (jf c off zC0) m)) w'∧Ext V V H (H.put i (.cells true (jf c off zC0) m)):=by
 obtain⟨x,hx,hr⟩:=hW.obj i _ b base S ho hb
 cases hr with
 |cells _ _ _ _ _ _ arr el fz aw HU hS hn Vl Wo=>
  obtain⟨rfl,hB⟩:=aw rfl
  replace hS:=hS rfl
  replace Vl:=Vl rfl
  have XS:=hl.length
  have Cp: ∀v,v ∈ vs→v.oneCell'=true:=by
   intro v hv
   obtain⟨j,hj⟩:=List.mem_iff_getElem?.1 hv
   have lT:j<zC0.length:=by have:=(List.getElem?_eq_some_iff.1 hj).1;omega
   exact bM (hl.pt j (zC0[j]'lT) v (by simp [lT]) hj) (hc _ (List.getElem_mem lT))
  have uZ:=run_storeCells_at (P:=P) b (base+off) el vs 0 arr w hx (by omega) Cp
  simp only [Nat.add_zero]at uZ
  refine⟨_,uZ,?_⟩
  have hbs:b<w.heap.size:=hW.lt i b base S hb
  have UH: ∀k,((arr.toList.take (base+off)++vs++arr.toList.drop (base+off+vs.length)).toArray)[k]? =if base+off≤k∧k<base+off+vs.length then vs[k-(base+off)]? else arr[k]? :=by
   intro k
   have ht:(arr.toList.take (base+off)).length=base+off:=by simp;omega
   rw [List.getElem?_toArray]
   by_cases h1:k<base+off
   ·rw [if_neg (by omega),List.append_assoc,List.getElem?_append_left (by omega),List.getElem?_take_of_lt h1,Array.getElem?_toList]
   by_cases h2:k<base+off+vs.length
   ·rw [if_pos (by omega),List.append_assoc,List.getElem?_append_right (by omega),ht,List.getElem?_append_left (by omega)]
   rw [if_neg (by omega),List.getElem?_append_right (by simp only [List.length_append,ht];omega),List.getElem?_drop]
   simp only [List.length_append,ht]
   rw [show base+off+vs.length+(k-(base+off+vs.length))=k by omega,Array.getElem?_toList]
  have Y2:((arr.toList.take (base+off)++vs++arr.toList.drop (base+off+vs.length)).toArray).size=arr.size:=by simp;omega
  refine hW.TO hb ho ⟨rfl,rfl,rfl,?_,fun k hk=>setRow_other w b k _ (by omega)⟩ ?_ (fun k hk=>setRow_other w b k _ hk) (setRow_heap w b arr _ el (0,0) hx) ?_
  ·simp [World.setRow]
  ·simp [World.setRow]
  refine .cells true _ m b base S _ el (0,0) (fun _=>⟨rfl,hB⟩) (fun _=>rfl) (fun _=>by rw [Y2];exact hS) hn (fun _ j hj=> ?_) (fun j a ha=> ?_)
  ·rw [Q1]
   split
   ·rename_i h;exact⟨zC0[j-off]'(by omega),by simp [show j-off<zC0.length by omega]⟩
   exact Vl j hj
  rw [Q1]at ha
  split at ha
  ·rename_i h
   obtain⟨v,h1,h2⟩:=hl.at _ a ha
   refine⟨by omega,hc a (List.mem_of_getElem? ha),v,?_,h2⟩
   rw [UH,if_pos (by omega),show base+j-(base+off)=j-off by omega]
   exact h1
  rename_i h
  obtain⟨h0,h1,v,h2,h3⟩:=Wo j a ha
  refine⟨h0,h1,v,?_,h3⟩
  rw [UH,if_neg (by omega)]
  exact h2
theorem dH (hW:yD B w0 V H w) {i b base S off:Nat} {zC0:List z0} {H':Hp} (hb:V.uD i=some (b,base,S)) (h:H.write i off zC0=some H'):B≤b:=by
 unfold Hp.write at h
 split at h
 ·rename_i c m ho
  obtain⟨x,hx,hr⟩:=hW.obj i _ b base S ho hb
  cases hr with
  |cells _ _ _ _ _ _ arr el fz aw=>exact(aw rfl).2
 cases h
theorem j0 (hW:yD B w0 V H w) {i b base S off:Nat} {zC0:List z0} {vs:List Value} {H':Hp} (hb:V.uD i=some (b,base,S)) (h:H.write i off zC0=some H') (hl:yw V zC0 vs):
 ∃w',(storeCells ⟨b,base+off,none⟩ vs).run P w= .ok () w'∧yD B w0 V H' w'∧Ext V V H H':=by
 unfold Hp.write at h
 split at h
 ·rename_i c m ho
  cases hc:Nat.ble (off+zC0.length) m && yf zC0 with
  |false=>rw [hc]at h;cases h
  |true=>
   rw [hc]at h;cases h
   rw [Bool.and_eq_true]at hc
   exact mE hW hb ho (Nat.le_of_ble_eq_true hc.1) ((vH zC0).1 hc.2) hl
 cases h
theorem nP (hW:yD B w0 V H w) {i b base S off:Nat} {a:z0} {v:Value} {H':Hp} (hb:V.uD i=some (b,base,S)) (h:H.Q0 i off a=some H') (hl:zS V a v):
 ∃w',(storeCells ⟨b,base+off,none⟩ [v]).run P w= .ok () w'∧yD B w0 V H' w'∧Ext V V H H':=by
 unfold Hp.Q0 at h
 split at h
 ·rename_i c m ho
  cases hc:Nat.blt off m && a.yK with
  |false=>rw [hc]at h;cases h
  |true=>
   rw [hc]at h;cases h
   rw [Bool.and_eq_true]at hc
   have h1:off<m:=by simpa using hc.1
   exact mE hW hb ho (zC0:= [a]) (by simp;omega) (fun u hu=>by simp at hu;subst hu;exact hc.2) (.cons hl .nil)
 cases h
theorem n6 (hW:yD B w0 V H w) {t:TypeId} {i b base S off:Nat} {a:z0} {v:Value} {H':Hp} (hb:V.uD i=some (b,base,S)) (h:bp P t H i off a=some H') (hv:zS V a v):
 ∃w',(storeVar t ⟨b,base+off,none⟩ v).run P w= .ok () w'∧yD B w0 V H' w'∧Ext V V H H':=by
 unfold bp at h
 have Y2:=hv.gV
 split at h
 ·rename_i hs
  split at h
  ·rename_i x hx
   have gE:=hv.cells
   rw [hx]at gE Y2
   cases hu:v.cells.toList with
   |nil=>rw [hu]at gE;cases gE
   |cons y ys=>
    rw [hu]at gE
    cases gE with
    |cons hy hys=>
     cases hys
     obtain⟨w',h1,h2⟩:=nP (P:=P) hW hb h hy
     refine⟨w',?_,h2⟩
     simp only [storeVar,Sem.run_bind,qA hs,Result.andThen_ok]
     rw [if_neg (by simp [Y2])]
     rw [hu]
     exact h1
  cases h
 ·rename_i n _ hs
  cases hn:Nat.beq a.cells.length n with
  |false=>rw [hn]at h;cases h
  |true=>
   rw [hn]at h
   have hn:=Nat.eq_of_beq_eq_true hn
   obtain⟨w',h1,h2⟩:=j0 (P:=P) hW hb h hv.cells
   refine⟨w',?_,h2⟩
   simp only [storeVar,Sem.run_bind,qA hs,Result.andThen_ok]
   rw [if_neg (by simp [Y2,hn])]
   exact h1
 cases h
theorem dh (hW:yD B w0 V H w) {t:TypeId} {x y:OV} {u z:Value} (hx: ∀v,x=some v→zS V v u) (hy: ∀v,y=some v→zS V v z) {r:zN} (h:VF P t x y H=some r):
 ∃H' w',r= .val unit H'∧(Instr.storeAt t u z).run P w= .ok () w'∧yD B w0 V H' w'∧Ext V V H H':=by
 unfold VF at h
 split at h
 ·rename_i i off v
  obtain⟨b,base,S,hb,rfl⟩:=(hx _ rfl).Za
  split at h
  ·rename_i H' hs
   cases h
   obtain⟨w',h1,h2⟩:=n6 (P:=P) hW hb hs (hy _ rfl)
   exact⟨H',w',rfl,by simpa [Instr.storeAt,Instr.sureAddr] using h1,h2⟩
  cases h
 cases h
theorem pY {a b:z0} (h:Y4 a b=true):a=b∧(∀u v,zS V a u→zS V b v→u=v∧Instr.sameBits 10000 v u=true):=by
 have flat: ∀x y,ka x y=true→x=y∧ ∀u v,zS V x u→zS V y v→u=v∧ ∀n,Instr.sameBits n v u=true:=by
  intro x y NV
  unfold ka at NV
  split at NV
  ·have:=eq_of_beq NV
   subst this
   exact⟨rfl,fun u v hu hv=>by cases hu;cases hv;exact⟨rfl,fun n=>by cases n<;>simp [Instr.sameBits]⟩⟩
  ·rw [Bool.and_eq_true]at NV
   have h1:=(Wv _ _).1 NV.1
   have h2:=(ZA _ _).1 NV.2
   subst h1 h2
   exact⟨rfl,fun u v hu hv=>by cases hu;cases hv;exact⟨rfl,fun n=>by cases n<;>simp [Instr.sameBits]⟩⟩
  cases NV
 unfold Y4 at h
 split at h
 ·rw [Bool.and_eq_true]at h
  have h1:=(Wv _ _).1 h.1
  have h2:=(ZA _ _).1 h.2
  subst h1 h2
  exact⟨rfl,fun u v hu hv=>by cases hu;cases hv;exact⟨rfl,by simp [Instr.sameBits]⟩⟩
 ·have:=eq_of_beq h
  subst this
  exact⟨rfl,fun u v hu hv=>by cases hu;cases hv;exact⟨rfl,by simp [Instr.sameBits]⟩⟩
 ·rw [Bool.and_eq_true]at h
  have h1:=(Yj _ _).1 h.1
  subst h1
  refine⟨rfl,fun u v hu hv=> ?_⟩
  obtain⟨s,rfl,hs⟩:=hu.ux
  obtain⟨q,rfl,hq⟩:=hv.ux
  have:s=q:=by
   cases s with
   |mk sd=>cases q with
    |mk qd=>
     congr 1
     exact Array.toList_inj.1 (hs.trans hq.symm)
  subst this
  refine⟨rfl,?_⟩
  show(s==s)=true
  rw [beq_toListBytes]
  simp
 ·rename_i a b
  have key: ∀(a b:List z0),Wk a b=true→a=b∧ ∀xs ys,yw V a xs→yw V b ys→xs=ys∧ ∀n,((ys.zip xs).all fun(x,y)=>Instr.sameBits n x y)=true:=by
   intro a
   induction a with
   |nil=>intro b h;cases b with
    |nil=>exact⟨rfl,fun xs ys h1 h2=>by cases h1;cases h2;exact⟨rfl,fun n=>rfl⟩⟩
    |cons=>cases h
   |cons x a ih=>intro b h;cases b with
    |nil=>cases h
    |cons y b=>
     simp only [Wk,Bool.and_eq_true]at h
     obtain⟨rfl,f1⟩:=flat x y h.1
     obtain⟨rfl,f2⟩:=ih b h.2
     refine⟨rfl,fun xs ys h1 h2=> ?_⟩
     cases h1 with
     |cons p1 q1=>cases h2 with
      |cons p2 q2=>
       obtain⟨rfl,g1⟩:=f1 _ _ p1 p2
       obtain⟨rfl,g2⟩:=f2 _ _ q1 q2
       exact⟨rfl,fun n=>by simp only [List.zip_cons_cons,List.all_cons,g1 n,Bool.true_and];exact g2 n⟩
  obtain⟨rfl,hk⟩:=key a b h
  refine⟨rfl,fun u v hu hv=> ?_⟩
  obtain⟨xs,rfl,hl,_⟩:=hu.Qh
  obtain⟨ys,rfl,nW,_⟩:=hv.Qh
  obtain⟨e1,e2⟩:=hk _ _ hl nW
  have:xs=ys:=Array.toList_inj.1 e1
  subst this
  refine⟨rfl,?_⟩
  have e2:=e2 9999
  show(xs.size==xs.size && (xs.toList.zip xs.toList).all fun(x,y)=>Instr.sameBits 9999 x y)=true
  simpa using e2
 cases h
theorem u6 {b:Nat} {o o':Obj} (h:w.heap[b]? =some o) (hn: ∀a t f,o≠ .cells a t f):(setObj b o').run P w= .ok () { w with heap:=w.heap.setIfInBounds b o' } :=by
 cases o with
 |cells a t f=>exact absurd rfl (hn a t f)
 |_=>simp [setObj,Sem.run,h]
theorem yD.Qp (hW:yD B w0 V H w) {id b base S:Nat} {o o':jS} {x':Obj} (hb:V.uD id=some (b,base,S)) (ho:H.t.get id=some o) (hB:B≤b) (hr:QO V B o' b base S x'):
 yD B w0 V (H.put id o') { w with heap:=w.heap.setIfInBounds b x' } ∧Ext V V H (H.put id o'):=by
 have uE:=hW.lt id b base S hb
 refine hW.TO hb ho ⟨rfl,rfl,rfl,by simp,fun k hk=> ?_⟩ (by simp) (fun k hk=> ?_) (by simp [uE]) hr
 ·simp [Array.getElem?_setIfInBounds_ne (show b≠k by omega)]
 simp [Array.getElem?_setIfInBounds_ne (Ne.symm hk)]
theorem Wi (hF:dJ F V.ρ) (hW:yD B w0 V H w) {t:TypeId} {m k x:OV} {mu ku xu:Value} (hm: ∀v,m=some v→zS V v mu) (hk: ∀v,k=some v→zS V v ku) (hx: ∀v,x=some v→zS V v xu)
 {r:zN} (h:gK P F t m k x H=some r): ∃H' w',r= .val unit H'∧(Instr.mapUpdate t mu ku xu).run P w= .ok () w'∧yD B w0 V H' w'∧Ext V V H H':=by
 unfold gK at h
 split at h
 ·rename_i m k v
  replace hm:=hm _ rfl
  replace hk:=hk _ rfl
  replace hx:=hx _ rfl
  split at h
  ·rename_i H' kG
   cases h
   unfold Vg at kG
   split at kG
   ·rename_i kt et hu
    cases hf:vM P kt k with
    |false=>rw [hf]at kG;cases kG
    |true=>
     rw [hf]at kG
     simp only [cond_true]at kG
     split at kG
     ·rename_i i
      obtain⟨b,base,S,hb,rfl⟩:=hm.VK
      split at kG
      ·rename_i es clock HZ
       obtain⟨ho,ms,dt,U3,hB⟩:=Zl hW hb HZ
       have YR: ∀(es:Array MapEntry) c a t f,Obj.map es c≠ .cells a t f:=fun _ _ _ _ _=>nofun
       split at kG
       ·rename_i j e cg
        obtain⟨q,h1,h2⟩:=vR hF hW hk hf U3 cg
        rcases h2 with⟨h2,_⟩|⟨j',e',m',h2,rfl,h3,h4⟩
        ·cases h2
        cases h2
        cases HX:Y4 k e.key with
        |false=>rw [HX]at kG;cases kG
        |true=>
         rw [HX]at kG;cases kG
         have hE:=U3.2 j e m' h3 h4
         obtain⟨_,Jg⟩:=pY (V:=V) HX
         obtain⟨he,yU⟩:=Jg ku m'.key hk hE.key
         have h4':ms[j]? =some m':=by simpa using h4
         have Cs:(Instr.keyThatStays (((ms[j]?).map (·.key)).getD ku) ku).run P w= .ok ku w:=by
          rw [h4']
          simp only [Option.map_some,Option.getD_some,Instr.keyThatStays,yU,if_true,Sem.run_pure]
         refine⟨_,_,rfl,?_,hW.Qp hb ho hB (x':= .map (ms.modify j fun e=> { e with key:=ku,val:=xu }) clock) ?_⟩
         ·simp only [Instr.mapUpdate,Sem.run_bind,zR hu,Result.andThen_ok,vS dt,wm hf hk,h1,Cs]
          exact u6 dt (YR _ _)
         refine .map _ _ _ _ _ _ hB (by simp;simpa using U3.1) fun n e1 m1 Vm Zi=> ?_
         rw [Array.getElem?_modify]at Zi
         by_cases hn:n=j
         ·subst hn
          have uE:n<es.length:=(List.getElem?_eq_some_iff.1 h3).1
          simp [uE]at Vm
          rw [if_pos rfl,h4']at Zi
          simp at Zi
          subst Vm Zi
          exact⟨hk,hx,hE.born⟩
         rw [List.getElem?_set_ne (Ne.symm hn)]at Vm
         rw [if_neg (Ne.symm hn)]at Zi
         exact U3.2 n e1 m1 Vm (by simpa using Zi)
       ·rename_i cg
        cases kG
        obtain⟨q,h1,h2⟩:=vR hF hW hk hf U3 cg
        rcases h2 with⟨_,rfl⟩|⟨j',e',m',h2,_⟩
        ·refine⟨_,_,rfl,?_,hW.Qp hb ho hB (x':= .map (ms.push { key:=ku,val:=xu,born:=clock }) (clock+1)) ?_⟩
         ·simp only [Instr.mapUpdate,Sem.run_bind,zR hu,Result.andThen_ok,vS dt,wm hf hk,h1]
          exact u6 dt (YR _ _)
         have hlen:es.length=ms.size:=by simpa using U3.1
         refine .map _ _ _ _ _ _ hB (by simp [hlen]) fun n e1 m1 Vm Zi=> ?_
         rw [Array.getElem?_push]at Zi
         by_cases hn:n=ms.size
         ·subst hn
          rw [if_pos rfl]at Zi
          rw [←hlen]at Vm
          simp at Vm Zi
          subst Vm Zi
          exact⟨hk,hx,rfl⟩
         rw [if_neg hn]at Zi
         have uE:n<ms.size:=(Array.getElem?_eq_some_iff.1 Zi).1
         rw [List.getElem?_append_left (by omega)]at Vm
         exact U3.2 n e1 m1 Vm (by simpa using Zi)
        cases h2
       cases kG
      cases kG
     cases kG
   cases kG
  cases h
 cases h
theorem db (hF:dJ F V.ρ) (hW:yD B w0 V H w) {t ty:TypeId} {ts:Array TypeId} {us:Array Value} {m k:z0} {mu ku:Value} (ht:ts[0]? =some t) (Hi:us[0]? =some mu) (hu1:us[1]? =some ku)
 (hm:zS V m mu) (hk:zS V k ku) {H':Hp} (h:Uq P F t H m k=some H'): ∃w',(Builtin.delete_ ts ty us).run P w= .ok (.tuple #[]) w'∧yD B w0 V H' w'∧Ext V V H H':=by
 unfold Uq at h
 split at h
 ·rename_i kt et hu
  cases hf:vM P kt k with
  |false=>rw [hf]at h;cases h
  |true=>
   rw [hf]at h
   simp only [cond_true]at h
   split at h
   ·rename_i i
    obtain⟨b,base,S,hb,rfl⟩:=hm.VK
    split at h
    ·rename_i es clock HZ
     obtain⟨ho,ms,dt,U3,hB⟩:=Zl hW hb HZ
     have YR: ∀(es:Array MapEntry) c a t f,Obj.map es c≠ .cells a t f:=fun _ _ _ _ _=>nofun
     have hlen:es.length=ms.size:=by simpa using U3.1
     split at h
     ·rename_i j e cg
      cases h
      obtain⟨q,h1,h2⟩:=vR hF hW hk hf U3 cg
      rcases h2 with⟨h2,_⟩|⟨j',e',m',h2,rfl,h3,h4⟩
      ·cases h2
      cases h2
      have lT:j<ms.size:=by have:=(List.getElem?_eq_some_iff.1 h3).1;omega
      refine⟨_,?_,hW.Qp hb ho hB (x':= .map (ms.eraseIdxIfInBounds j) clock) ?_⟩
      ·simp only [Builtin.delete_,ht,Hi,hu1,Sem.run_bind,zR hu,Result.andThen_ok,vS dt,wm hf hk,h1,u6 dt (YR _ _),Sem.run_pure]
      refine .map _ _ _ _ _ _ hB ?_ fun n e1 m1 Vm Zi=> ?_
      ·rw [List.length_eraseIdx,Array.eraseIdxIfInBounds_eq]
       simp [lT,hlen]
      rw [Array.eraseIdxIfInBounds_eq]at Zi
      simp only [lT,dif_pos]at Zi
      have PA:((ms.toList.eraseIdx j))[n]? =some m1:=by
       have e3:(ms.eraseIdx j lT).toList=ms.toList.eraseIdx j:=Array.toList_eraseIdx
       rw [←e3,Array.getElem?_toList];exact Zi
      rw [List.getElem?_eraseIdx]at Vm PA
      split at Vm
      ·rename_i uE;rw [if_pos uE]at PA;exact U3.2 n e1 m1 Vm PA
      rename_i uE;rw [if_neg uE]at PA;exact U3.2 (n+1) e1 m1 Vm PA
     ·rename_i cg
      cases h
      obtain⟨q,h1,h2⟩:=vR hF hW hk hf U3 cg
      rcases h2 with⟨_,rfl⟩|⟨j',e',m',h2,_⟩
      ·refine⟨_,?_,hW.Qp hb ho hB (x':= .map ms clock) ?_⟩
       ·simp only [Builtin.delete_,ht,Hi,hu1,Sem.run_bind,zR hu,Result.andThen_ok,vS dt,wm hf hk,h1,u6 dt (YR _ _),Sem.run_pure]
       exact .map _ _ _ _ _ _ hB hlen fun n e1 m1 Vm Zi=>U3.2 n e1 m1 Vm (by simpa using Zi)
      cases h2
     cases h
    cases h
   ·cases hm;cases h
    exact⟨w,by simp [Builtin.delete_,ht,Hi,hu1,zR hu,wm hf hk],hW,.refl V H⟩
   cases h
 cases h
end Go.Px
end
section
namespace Go.Px
open Go Go.RowKit
variable {P:Program} {F:zD} {V:qw} {B:Nat} {w0 w:World} {H:Hp}
theorem iQ (n:Nat): ∀r c,Builtin.growBy n r c≤max c (n+(n+768)/4):=by
 intro r
 induction r with
 |zero=>intro c;simp only [Builtin.growBy];omega
 |succ r ih=>
  intro c
  simp only [Builtin.growBy]
  split
  ·omega
  have:=ih (c+(c+768)/4)
  omega
theorem sL {n c:Nat} (h:c<n):Builtin.nextslicecap n c≤2*n+768:=by
 unfold Builtin.nextslicecap
 split
 ·omega
 split
 ·omega
 have:=iQ n 4 c
 omega
theorem yD.del (hW:yD B w0 V H w) (i:Nat):yD B w0 V ⟨H.t.del i,H.next⟩ w:=by
 have sub: ∀id o,(H.t.del i).get id=some o→id≠i∧H.t.get id=some o:=by
  intro id o h
  rw [Tr.Qa]at h
  split at h
  ·cases h
  rename_i wY;exact⟨wY,h⟩
 refine⟨hW.below,hW.size,fun id ar=>⟨(hW.next id ar).1,?_⟩,hW.lt,fun id o b base S h1 h2=>hW.obj id o b base S (sub id o h1).2 h2,fun id nZ o o' b b' ba Pj S S' h1 h2=>hW.inj id nZ o o' b b' ba Pj S S' (sub id o h1).2 (sub nZ o' h2).2,hW.fz,hW.GX⟩
 show(H.t.del i).get id=none
 rw [Tr.Qa,(hW.next id ar).2]
 simp
theorem yD.alias (hW:yD B w0 V H w) {w':World} {i b base S vW S':Nat} {o o':jS} {x':Obj} (hb:V.uD i=some (b,base,S)) (ho:H.t.get i=some o)
 (tC:Below B w w') (Y2:w'.heap.size=w.heap.size) (Qb: ∀k,k≠b→w'.heap[k]? =w.heap[k]?) (hx:w'.heap[b]? =some x') (hr:QO V B o' b vW S' x'):
 yD B w0 (V.bind H.next (b,vW,S')) (Hp.alloc ⟨H.t.del i,H.next⟩ o') w':=by
 have hle:=hW.Ye (b,vW,S')
 have j6: ∀id b1 a1 S1,(V.bind H.next (b,vW,S')).uD id=some (b1,a1,S1)→(id=H.next∧b1=b∧a1=vW∧S1=S')∨(id≠H.next∧V.uD id=some (b1,a1,S1)):=by
  intro id b1 a1 S1 h
  by_cases e:id=H.next
  ·subst e;simp [qw.bind]at h;exact .inl ⟨rfl,h.1.symm,h.2.1.symm,h.2.2.symm⟩
  simp [qw.bind,e]at h;exact .inr ⟨e,h⟩
 have UQ: ∀id q,((Hp.alloc ⟨H.t.del i,H.next⟩ o').t.get id=some q)→(id=H.next∧q=o')∨(id≠H.next∧id≠i∧H.t.get id=some q):=by
  intro id q h
  simp only [Hp.alloc,Tr.yh,Tr.Qa]at h
  by_cases e:id=H.next
  ·subst e;simp at h;exact .inl ⟨rfl,h.symm⟩
  rw [if_neg e]at h
  split at h
  ·cases h
  rename_i wY;exact .inr ⟨e,wY,h⟩
 refine⟨hW.below.trans tC,by rw [Y2];exact hW.size,?_,?_,?_,?_,kc hW.fz Qb hx hr,hW.GX⟩
 ·intro id ar
  have hid':H.next+1≤id:=ar
  have h1:=hW.next id (by omega)
  refine⟨by simp [qw.bind,show id≠H.next by omega,h1.1],?_⟩
  simp only [Hp.alloc,Tr.yh,Tr.Qa]
  rw [if_neg (by omega),h1.2]
  simp
 ·intro id b1 a1 S1 h
  rw [Y2]
  rcases j6 id b1 a1 S1 h with⟨_,rfl,_⟩|⟨_,h⟩
  ·exact hW.lt i _ _ _ hb
  exact hW.lt id _ _ _ h
 ·intro id q b1 a1 S1 h1 h2
  rcases UQ id q h1 with⟨rfl,rfl⟩|⟨wY,Gu,kd⟩
  ·rcases j6 _ _ _ _ h2 with⟨_,rfl,rfl,rfl⟩|⟨wY,_⟩
   ·exact⟨x',hx,hr.mono hle⟩
   exact absurd rfl wY
  rcases j6 _ _ _ _ h2 with⟨e,_⟩|⟨_,my⟩
  ·exact absurd e wY
  obtain⟨y,hy,Sy⟩:=hW.obj id q b1 a1 S1 kd my
  exact⟨y,by
   rcases hW.inj id i q o b1 b a1 base S1 S kd ho my hb Gu with hn|hn
   ·rw [Qb b1 hn];exact hy
   rw [tC.block b1 hn];exact hy,Sy.mono hle⟩
 intro id nZ q q' b1 b2 a1 a2 S1 S2 h1 h2 h3 h4 wY
 rcases UQ _ _ h1 with⟨e1,_⟩|⟨n1,m1,kd⟩<;>rcases UQ _ _ h2 with⟨e2,_⟩|⟨n2,m2,my⟩
 ·omega
 ·rcases j6 _ _ _ _ h3 with⟨_,rfl,_⟩|⟨n3,_⟩
  ·rcases j6 _ _ _ _ h4 with⟨e4,_⟩|⟨_,h4'⟩
   ·exact absurd e4 n2
   have:=hW.inj nZ i q' o b2 b1 a2 base S2 S my ho h4' hb m2
   omega
  exact absurd e1 n3
 ·rcases j6 _ _ _ _ h4 with⟨_,rfl,_⟩|⟨n3,_⟩
  ·rcases j6 _ _ _ _ h3 with⟨e4,_⟩|⟨_,h3'⟩
   ·exact absurd e4 n1
   exact hW.inj id i q o b1 b2 a1 base S1 S kd ho h3' hb m1
  exact absurd e2 n3
 rcases j6 _ _ _ _ h3 with⟨e,_⟩|⟨_,h3'⟩
 ·exact absurd e n1
 rcases j6 _ _ _ _ h4 with⟨e,_⟩|⟨_,h4'⟩
 ·exact absurd e n2
 exact hW.inj id nZ q q' b1 b2 a1 a2 S1 S2 kd my h3' h4' wY
theorem Ji {x:z0} {u:Value} {n:Nat} (hx:zS V x u) (h:sD x=some n) (w:World):(Builtin.lenOf u).run P w= .ok n w:=by
 unfold sD at h
 split at h
 ·cases h;cases hx<;>rfl
 ·rename_i s
  obtain⟨q,rfl,hq⟩:=hx.ux
  cases hb:zk s with
  |false=>rw [hb]at h;cases h
  |true=>
   rw [hb]at h;cases h
   simp [Builtin.lenOf,V4 hb hq]
 cases h
theorem Ux (hW:yD B w0 V H w) {x:z0} {u:Value} {size n:Nat} {zC0:List z0} (hx:zS V x u) (h:Yu H size n x=some zC0):
 ∃vs,yw V zC0 vs∧(∀u,u ∈ zC0→u.yK=true)∧(∀w':World,w'.heap=w.heap→(Builtin.firstCells size n u).run P w'= .ok vs.toArray w')∧zC0.length=n*size:=by
 unfold Yu at h
 split at h
 ·rename_i i off len cap es
  cases hn:Nat.beq n 0 with
  |true=>
   rw [hn]at h;cases h
   have:=Nat.eq_of_beq_eq_true hn
   subst this
   refine⟨[],.nil,fun u h=>by simp at h,fun _ _=> ?_,by simp⟩
   cases hx<;>simp [Builtin.firstCells,loadCells,loadCellsFrom]
  |false=>
  rw [hn]at h
  simp only [cond_false]at h
  have UI:n≠0:=fun e=>by subst e;cases hn
  cases hx with
  |slice _ _ _ _ _ b base S c hb hl hc hS=>
   cases hle:Nat.ble n len with
   |false=>rw [hle]at h;cases h
   |true=>
    rw [hle]at h
    simp only [cond_true]at h
    obtain⟨h1,h2,vs,h3,h4⟩:=QH hW hb h
    refine⟨vs,h3,h2,fun w' hh=> ?_,h1⟩
    have:=run_loadCells_list (P:=P) w' ⟨b,base+off,none⟩ vs (fun j v hj=>by rw [←h4 j v hj];simp only [World.cell?,hh])
    rw [←h3.length,h1]at this
    simpa [Builtin.firstCells] using this
  |vU _ _ _ _ _ b base S c a hb hbl hl hc ha=>
   cases hle:Nat.ble n len with
   |false=>rw [hle]at h;cases h
   |true=>
    rw [hle]at h
    simp only [cond_true]at h
    have hle:=Nat.le_of_ble_eq_true hle
    obtain rfl:=ha (.inl (by omega))
    obtain⟨h1,h2,vs,h3,h4⟩:=QH hW hb h
    refine⟨vs,h3,h2,fun w' hh=> ?_,h1⟩
    have:=run_loadCells_list (P:=P) w' ⟨b,base+off,none⟩ vs (fun j v hj=>by rw [←h4 j v hj];simp only [World.cell?,hh])
    rw [←h3.length,h1]at this
    simpa [Builtin.firstCells] using this
  |uA _ _ _ b base S o c _ hb hc ho hS=>
   cases hle:Nat.ble n 0 with
   |false=>rw [hle]at h;cases h
   |true=>have:=Nat.le_of_ble_eq_true hle;omega
 ·cases hx
  cases hn:Nat.beq n 0 with
  |false=>rw [hn]at h;cases h
  |true=>
   rw [hn]at h;cases h
   have:=Nat.eq_of_beq_eq_true hn
   subst this
   exact⟨[],.nil,fun u h=>by simp at h,fun _ _=>rfl,by simp⟩
 ·rename_i s
  obtain⟨q,rfl,hq⟩:=hx.ux
  cases ca:zk s && (Nat.beq size 1 && Nat.ble n s.length)with
  |false=>rw [ca]at h;cases h
  |true=>
   rw [ca]at h;cases h
   simp only [Bool.and_eq_true]at ca
   obtain⟨hb,NP,Cn⟩:=ca
   have NP:=Nat.eq_of_beq_eq_true NP
   have Cn:=Nat.le_of_ble_eq_true Cn
   subst NP
   have XU:=m3 hb hx
   rw [m6]
   have key: ∀(l:List Nat),(∀k,k ∈ l→k<256)→yw V (l.map fun b=>z0.int .u8 (.lit (.ofNat b))) ((l.map UInt8.ofNat).map fun b=>Value.int .u8 (b.toNat:Int)):=by
    intro l
    induction l with
    |nil=>intro _;exact .nil
    |cons x l ih=>
     intro hl
     refine .cons ?_ (ih fun k hk=>hl k (by simp [hk]))
     have e:(UInt8.ofNat x).toNat=x:=UInt8.toNat_ofNat_of_lt' (hl x (by simp))
     show zS V (z0.int .u8 (.lit (.ofNat x))) (.int .u8 ((UInt8.ofNat x).toNat:Int))
     have:=zS.int (V:=V) .u8 (.lit (.ofNat x))
     rw [e];exact this
   have hk:=(key s ((qW s).1 hb)).take n
   refine⟨_,hk,fun u hu=> ?_,fun _ _=> ?_,by simp;omega⟩
   ·obtain⟨b,_,rfl⟩:=List.mem_map.1 (List.mem_of_mem_take hu);rfl
   simp only [Builtin.firstCells,Sem.run_pure]
   congr 1
   apply Array.toList_inj.1
   simp only [Array.toList_map,ByteArray.data_extract,Array.toList_extract,List.extract_eq_take_drop,List.drop_zero,Nat.sub_zero,XU,List.map_take]
 cases h
theorem run_choose (q:Question) (w:World): ∃n w',(choose q).run P w= .ok n w'∧(w'=w∨w'=w.drew)∧(q.forced=false→n=q.cut (w.tape w.drawn q)):=by
 cases hf:q.forced with
 |true=>exact⟨0,w,by simp [choose,Sem.run,hf],.inl rfl,fun h=>by cases h⟩
 |false=>exact⟨_,w.drew,by simp [choose,Sem.run,hf],.inr rfl,fun _=>rfl⟩
theorem yD.drew (hW:yD B w0 V H w):yD B w0 V H w.drew:=
 ⟨hW.below.drew,hW.size,hW.next,hW.lt,hW.obj,hW.inj,hW.fz,hW.GX⟩
theorem EK {b k0:Nat} {el:TypeId} {arr:Array Value} {vs:List Value} (hx:w.heap[b]? =some (.cells arr el)) (hS:k0+vs.length≤arr.size) (Cp: ∀v,v ∈ vs→v.oneCell'=true):
 ∃nt:Array Value,(storeCells ⟨b,k0,none⟩ vs).run P w= .ok () (w.setRow b nt)∧nt.size=arr.size∧ ∀k,nt[k]? =if k0≤k∧k<k0+vs.length then vs[k-k0]? else arr[k]? :=by
 have uZ:=run_storeCells_at (P:=P) b k0 el vs 0 arr w hx (by omega) Cp
 simp only [Nat.add_zero]at uZ
 refine⟨_,uZ,by simp;omega,fun k=> ?_⟩
 have ht:(arr.toList.take k0).length=k0:=by simp;omega
 rw [List.getElem?_toArray]
 by_cases h1:k<k0
 ·rw [if_neg (by omega),List.append_assoc,List.getElem?_append_left (by omega),List.getElem?_take_of_lt h1,Array.getElem?_toList]
 by_cases h2:k<k0+vs.length
 ·rw [if_pos (by omega),List.append_assoc,List.getElem?_append_right (by omega),ht,List.getElem?_append_left (by omega)]
 rw [if_neg (by omega),List.getElem?_append_right (by simp only [List.length_append,ht];omega),List.getElem?_drop]
 simp only [List.length_append,ht]
 rw [show k0+vs.length+(k-(k0+vs.length))=k by omega,Array.getElem?_toList]
theorem oj {zC0:List z0} {vs:List Value} (hl:yw V zC0 vs) (hc: ∀u,u ∈ zC0→u.yK=true): ∀v,v ∈ vs→v.oneCell'=true:=by
 intro v hv
 obtain⟨j,hj⟩:=List.mem_iff_getElem?.1 hv
 have XS:=hl.length
 have lT:j<zC0.length:=by have:=(List.getElem?_eq_some_iff.1 hj).1;omega
 exact bM (hl.pt j (zC0[j]'lT) v (by simp [lT]) hj) (hc _ (List.getElem_mem lT))
theorem dY (hW:yD B w0 V H w) {t xt e:TypeId} {kn:IntKind} {ty:TypeId} {s x:z0} {su xu:Value} (hs:zS V s su) (hx:zS V x xu) (hu:yj P t=some (.slice e)) (PI:yj P xt=some (.int kn)) {r:zN} (h:kR P e H s x=some r):
 ∃v H' V' w' v',r= .val v H'∧Ext V V' H H'∧yD B w0 V' H' w'∧zS V' v v'∧(Builtin.append_ #[t,xt] ty #[su,xu]).run P w= .ok v' w':=by
 unfold kR at h
 split at h
 case h_2=>cases h
 rename_i es k m
 split at h
 case h_2=>cases h
 rename_i size bytes z Y2 HS hz
 cases hb:(Nat.beq z.cells.length size && Nat.blt 0 size && Nat.blt 0 m.toNat && Nat.ble m.toNat 1024 && Nat.ble bytes yi && yf z.cells)with
 |false=>rw [hb]at h;cases h
 |true=>
  rw [hb]at h
  cases h
  simp only [Bool.and_eq_true]at hb
  obtain⟨⟨⟨⟨⟨b1,b2⟩,b3⟩,b4⟩,b5⟩,b6⟩:=hb
  have b1:=Nat.eq_of_beq_eq_true b1
  have b2:0<size:=by rw [Nat.blt_eq]at b2;exact b2
  have b3:0<m.toNat:=by rw [Nat.blt_eq]at b3;exact b3
  have b4:=Nat.le_of_ble_eq_true b4
  have b5:=Nat.le_of_ble_eq_true b5
  cases hs
  cases hx
  have hm:((m.toNat:Nat):Int)=m:=by omega
  unfold zeroOf at hz
  split at hz
  case h_2=>cases hz
  rename_i i hi
  split at hz
  case h_2=>cases hz
  rename_i zv hzv
  have G4: ∀V,zS V z zv:=fun V=>ZY V 4 zv z hz
  have Sg:i.size=size:=by unfold yb at Y2;rw [hi]at Y2;cases Y2;rfl
  have hby':i.bytes=bytes:=by unfold bytesOf at HS;rw [hi]at HS;cases HS;rfl
  have hmb:m.toNat*i.bytes≤281474976710656:=by
   rw [hby']
   have:=Nat.mul_le_mul b4 b5
   unfold yi at this
   omega
  have uZ:=Go.Lib.run_append_nil_zeros (P:=P) w t xt ty e i zv k kn hu PI hi hzv m.toNat b3 (by omega) (by omega) hmb
  rw [hm]at uZ
  have S5:=grownCap_ge w m.toNat 0 e
  have hzs:zv.cells.size=size:=by rw [(G4 V).gV,b1]
  have Jf:yw V (yR z.cells m.toNat) (Builtin.zeroCells zv.cells m.toNat).toList:=by
   have:=ZE (G4 V) m.toNat zv.cells (fun _=>rfl)
   have ez:((Array.range (m.toNat*z.cells.length)).map (zv.cells[· %zv.cells.size]!)).toList=(Builtin.zeroCells zv.cells m.toNat).toList:=by rw [←(G4 V).gV];rfl
   rw [ez]at this;exact this
  have kD: ∀u,u ∈ yR z.cells m.toNat→u.yK=true:=by
   have NW: ∀u,u ∈ z.cells→u.yK=true:=by
    have Vl: ∀ {l:List z0},yf l=true→ ∀u,u ∈ l→u.yK=true:=by
     intro l
     induction l with
     |nil=>intro _ u hu;cases hu
     |cons a l ih=>
      intro h u hu
      have h:(a.yK && yf l)=true:=h
      rw [Bool.and_eq_true]at h
      rcases List.mem_cons.1 hu with rfl|hu
      ·exact h.1
      exact ih h.2 u hu
    exact Vl b6
   generalize m.toNat=q
   induction q with
   |zero=>intro u hu;cases hu
   |succ q ih=>
    intro u hu
    rcases List.mem_append.1 hu with hu|hu
    ·exact NW u hu
    exact ih u hu
  have hlen:(yR z.cells m.toNat).length=m.toNat*size:=by rw [gz,b1]
  have av:(Builtin.zeroCells zv.cells (grownCap w m.toNat 0 e-m.toNat)).toList.length=(grownCap w m.toNat 0 e-m.toNat)*size:=by simp [Builtin.zeroCells,hzs]
  have hS:grownCap w m.toNat 0 e*size=(yR z.cells m.toNat).length+(Builtin.zeroCells zv.cells (grownCap w m.toNat 0 e-m.toNat)).toList.length:=by
   rw [hlen,av,←Nat.add_mul];congr 1;omega
  have Mz:=hW.drew
  have cq:=Y8 (B:=B) Jf kD w.drew.heap.size (grownCap w m.toNat 0 e*size) e _ Mz.size hS
  have dq:=Mz.alloc cq
  refine⟨_,_,V.bind H.next (w.drew.heap.size,0,grownCap w m.toNat 0 e*size),_,.slice (some ⟨w.heap.size,0,none⟩) m.toNat (grownCap w m.toNat 0 e),rfl,Mz.Uw (newRow (yR z.cells m.toNat)) (w.drew.heap.size,0,grownCap w m.toNat 0 e*size),dq,?_,?_⟩
  ·have:=zS.slice (V:=V.bind H.next (w.drew.heap.size,0,grownCap w m.toNat 0 e*size)) H.next 0 m.toNat none size w.drew.heap.size 0 (grownCap w m.toNat 0 e*size) (grownCap w m.toNat 0 e) (qw.Uj _ _ _) S5 (fun k h=>by cases h) (by omega)
   simpa using this
  have e1: ∀A C:Array Value,(A.toList++C.toList).toArray=A++C:=fun A C=>by apply Array.toList_inj.1;simp
  rw [e1]
  exact uZ
theorem dX (hW:yD B w0 V H w) {ts:Array TypeId} {ty:TypeId} {args:List z0} {us:Array Value} (hl:yw V args us.toList) {r:zN} (h:uS P ts.toList H args=some r):
 ∃v H' V' w' v',r= .val v H'∧Ext V V' H H'∧yD B w0 V' H' w'∧zS V' v v'∧(Builtin.append_ ts ty us).run P w= .ok v' w':=by
 unfold uS at h
 split at h
 case h_2=>cases h
 rename_i t xt PQ s x zC0 xv
 obtain⟨su,lV,hs⟩:=hl.at 0 s rfl
 obtain⟨xu,Wr,hx⟩:=hl.at 1 x rfl
 rw [Array.getElem?_toList]at lV Wr
 have ax:ts[0]? =some t:=by
  have:ts.toList[0]? =some t:=by rw [xv];rfl
  simpa using this
 have ht1:ts[1]? =some xt:=by
  have:ts.toList[1]? =some xt:=by rw [xv];rfl
  simpa using this
 split at h
 case h_3=>cases h
 case h_2=>
  rename_i e kn hu PI
  obtain⟨v,H',V',w',v',h1,h2,h3,h4,h5⟩:=dY (ty:=ty) hW hs hx hu PI h
  refine⟨v,H',V',w',v',h1,h2,h3,h4,?_⟩
  rw [←h5]
  simp only [Builtin.append_,ax,ht1,lV,Wr]
  rfl
 rename_i e xe hu PI
 split at h
 case h_2=>cases h
 rename_i size bytes z a len cap es n Y2 HS hz hn
 obtain⟨zv,rz,G4⟩:=jI (P:=P) hz
 obtain⟨ti,NQ,Sh⟩:=QT HS
 cases hb:Nat.beq z.cells.length size && Nat.ble (len+n) yi && Nat.ble bytes yi with
 |false=>rw [hb]at h;cases h
 |true=>
 rw [hb]at h
 simp only [cond_true]at h
 simp only [Bool.and_eq_true]at hb
 have pX:=Nat.eq_of_beq_eq_true hb.1.1
 have kg:=Nat.le_of_ble_eq_true hb.1.2
 have HQ:=Nat.le_of_ble_eq_true hb.2
 have z2E:zv.cells.size=size:=by rw [(G4 V).gV,pX]
 split at h
 case h_1=>cases h
 rename_i new NI
 obtain⟨vs,hY,NS,PD,_⟩:=Ux (P:=P) hW hx NI
 have fu:=Ji (P:=P) hx hn w
 have room: ∀c bs,c<len+n→su= .slice bs len c→ ∀(j6:List Value),(∀w':World,w'.heap=w.heap→(Builtin.firstCells size len su).run P w'= .ok j6.toArray w')→
  ∃w' c' rest,(w'=w∨w'=w.drew)∧len+n≤c'∧rest.length=(c'-(len+n))*size∧(Builtin.append_ ts ty us).run P w= .ok (.slice (some ⟨w'.heap.size,0,none⟩) (len+n) c') (w'.alloc (.cells (j6++vs++rest).toArray e)):=by
  intro c bs hc hsu j6 hold
  obtain⟨c',w',FO,ay,j5⟩:=run_choose (P:=P) (.appendCap (len+n) c e) w
  have Je:len+n≤c':=by
   rw [j5 rfl]
   simp only [Question.cut]
   omega
  have hh:w'.heap=w.heap:=by rcases ay with rfl|rfl<;>rfl
  have h1:=hold w' hh
  have h2:=PD w' hh
  refine⟨w',c',(Builtin.zeroCells zv.cells (c'-(len+n))).toList,ay,Je,by simp [Builtin.zeroCells,z2E],?_⟩
  have hm:(IntKind.i64.max:Int)=9223372036854775807:=by decide
  have g1: ¬(((len+n:Nat):Int)>IntKind.i64.max∧(False∨bytes=0)):=by
   rw [hm];unfold yi at kg;omega
  have g2: ¬(Builtin.nextslicecap (len+n) c*bytes>2^48):=by
   have a1:=sL hc
   have a2:Builtin.nextslicecap (len+n) c*bytes≤(2*yi+768)*yi:=Nat.mul_le_mul (by omega) HQ
   have a3:(2*yi+768)*yi=2199828561920:=by decide
   simp only [Nat.reducePow]
   omega
  subst hsu
  simp only [Builtin.append_,ax,lV,Wr,ht1,Sem.run_bind,zR hu,zR PI,Result.andThen_ok,qA Y2,Sem.run_pure,Bool.false_eq_true,if_false,fu]
  rw [if_neg (by omega)]
  simp only [Sem.run_bind,run_typeInfo NQ,Result.andThen_ok,Sh]
  rw [if_neg g1]
  simp only [Sem.run_bind,run_typeInfo NQ,Result.andThen_ok,Sh]
  rw [if_neg g2]
  simp only [Sem.run_bind,FO,Result.andThen_ok,run_typeInfo NQ,run_askRoom,h1,h2,rz,Bool.not_false,if_true,Go.newRow,run_newObj,Sem.run_pure]
  congr 3
  simp
 have Qg: ∀c bs,len+n≤c→su= .slice bs len c→ ∀w',(match bs with
  |some a=>storeCells (a.add (len*size)) vs
  |none=>pure ():Sem Unit).run P w= .ok () w'→(Builtin.append_ ts ty us).run P w= .ok (.slice bs (len+n) c) w':=by
  intro c bs hc hsu w' UJ
  subst hsu
  simp only [Builtin.append_,ax,lV,Wr,ht1,Sem.run_bind,zR hu,zR PI,Result.andThen_ok,qA Y2,Sem.run_pure,Bool.false_eq_true,if_false,fu]
  rw [if_pos hc]
  simp only [Bool.not_false,if_true,Sem.run_bind,PD w rfl,Result.andThen_ok]
  cases bs with
  |none=>simp only [Sem.run_pure,Result.ok.injEq,true_and]at UJ;subst UJ;simp
  |some a=>
   simp only at UJ
   simp only [Sem.run_bind]
   rw [UJ]
   rfl
 have Cn:new.length=vs.length:=hY.length
 have NJ:new.length=n*size:=by assumption
 have fresh: ∀(w':World) (c':Nat) (j6:List z0) (UR rest:List Value) (H1:Hp),yD B w0 V H1 w'→H1.next=H.next→len+n≤c'→rest.length=(c'-(len+n))*size→yw V j6 UR→(∀u,u ∈ j6→u.yK=true)→j6.length=len*size→
  (Ext V V H H1→Ext V (V.bind H.next (w'.heap.size,0,c'*size)) H (wy H1 (j6++new)))∧yD B w0 (V.bind H.next (w'.heap.size,0,c'*size)) (wy H1 (j6++new)) (w'.alloc (.cells (UR++vs++rest).toArray e))∧zS (V.bind H.next (w'.heap.size,0,c'*size)) (.slice (some (H.next,0)) (len+n) none size) (.slice (some ⟨w'.heap.size,0,none⟩) (len+n) c'):=by
  intro w' c' j6 UR rest H1 Mz dp Je Jf ho ZL hol
  have hS:c'*size=(j6++new).length+rest.length:=by
   rw [List.length_append,hol,NJ,Jf,←Nat.add_mul,←Nat.add_mul]
   congr 1;omega
  have cq:=Y8 (B:=B) (ho.append hY) (fun u hu=>by rcases List.mem_append.1 hu with h|h;exact ZL u h;exact NS u h) w'.heap.size (c'*size) e rest Mz.size hS
  have dq:=Mz.alloc cq
  rw [dp]at dq
  refine⟨fun hE=>hE.trans (by have:=Mz.Uw (newRow (j6++new)) (w'.heap.size,0,c'*size);rw [dp]at this;exact this),dq,?_⟩
  have:=zS.slice (V:=V.bind H.next (w'.heap.size,0,c'*size)) H.next 0 (len+n) none size w'.heap.size 0 (c'*size) c' (qw.Uj _ _ _) Je (fun k h=>by cases h) (by omega)
  simpa using this
 have wU: ∀w',(w'=w∨w'=w.drew)→yD B w0 V H w':=by
  rintro w' (rfl|rfl)
  ·exact hW
  exact hW.drew
 split at h
 ·
  cases hs with
  |YD=>
   cases UI:Nat.beq n 0 with
   |true=>
    rw [UI]at h;cases h
    have:=Nat.eq_of_beq_eq_true UI
    subst this
    exact⟨_,_,V,w,_,rfl,.refl V H,hW,.YD es,Qg 0 none (by omega) rfl w (by simp)⟩
   |false=>
    rw [UI]at h;cases h
    have UI:n≠0:=fun e=>by subst e;cases UI
    obtain⟨w',c',rest,ay,Je,Jf,uZ⟩:=room 0 none (by omega) rfl [] (fun w' _=>by simp [Builtin.firstCells])
    obtain⟨f1,f2,f3⟩:=fresh w' c' [] [] rest H (wU w' ay) rfl Je Jf .nil (by simp) (by simp)
    exact⟨_,_,_,_,_,rfl,f1 (.refl V H),f2,f3,uZ⟩
 ·
  rename_i i off
  obtain⟨a0,c,rfl,z87⟩: ∃a c,su= .slice (some a) len c∧len≤c:=by
   cases hs with
   |slice _ _ _ _ _ b base S c Q2 Yi Wo dM=>exact⟨_,c,rfl,Yi⟩
   |uA _ _ _ b base S o c _ Q2 Wo FN dM=>exact⟨_,c,rfl,Nat.zero_le _⟩
   |vU _ _ _ _ _ b base S c a Q2 hbl Yi Wo ha=>exact⟨_,c,rfl,Yi⟩
  cases UI:Nat.beq n 0 with
  |true=>
   rw [UI]at h;cases h
   have:=Nat.eq_of_beq_eq_true UI
   subst this
   have NR:vs= []:=List.eq_nil_of_length_eq_zero (by omega)
   refine⟨_,_,V,w,_,rfl,.refl V H,hW,hs,Qg c _ (by omega) rfl w ?_⟩
   subst NR
   simp [storeCells]
  |false=>
  rw [UI]at h
  simp only [cond_false]at h
  cases Yh:Nat.beq es size with
  |false=>rw [Yh]at h;cases h
  |true=>
  rw [Yh]at h
  have:=Nat.eq_of_beq_eq_true Yh
  subst this
  simp only [cond_true]at h
  split at h
  case h_2=>cases h
  rename_i rows U4
  obtain⟨b,base,S,o,Q2,hae,Yi,FN,dM,hoo⟩: ∃b base S o,V.uD i=some (b,base,S)∧a0=⟨b,o,none⟩∧len≤c∧base≤o∧o+c*es≤base+S∧(len=0∨o=base+off):=by
   cases hs with
   |slice _ _ _ _ _ b base S c Q2 Yi Wo dM=>exact⟨b,base,S,_,Q2,rfl,Yi,by omega,by omega,.inr rfl⟩
   |uA _ _ _ b base S o c _ Q2 Wo FN dM=>exact⟨b,base,S,o,Q2,rfl,Nat.zero_le _,FN,dM,.inl rfl⟩
   |vU _ _ _ _ _ b base S c a Q2 hbl Yi Wo ha=>exact absurd (pj hW U4 Q2) (by have:=hW.GX;omega)
  subst hae
  cases hr:Nat.ble (off+len*es) rows with
  |false=>rw [hr]at h;cases h
  |true=>
  rw [hr]at h
  simp only [cond_true]at h
  split at h
  case h_2=>cases h
  rename_i j6 hold
  cases h
  have hr:=Nat.le_of_ble_eq_true hr
  obtain⟨Dw,PL,UR,Iq,PN⟩:=QH hW Q2 hold
  have Dy:=Iq.length
  by_cases jC:len+n≤c
  ·
   unfold Hp.p6 at U4
   split at U4
   case h_2=>cases U4
   rename_i cc m ho
   cases U4
   obtain⟨xo,jy,SO⟩:=hW.obj i _ b base S ho Q2
   cases SO with
   |cells _ _ _ _ _ _ arr el fz aw HU hS' hn' Vl kD=>
   obtain⟨rfl,hB⟩:=aw rfl
   replace hS':=hS' rfl
   have Cp:=oj hY NS
   have fp:(len+n)*es≤c*es:=Nat.mul_le_mul_right _ jC
   rw [Nat.add_mul]at fp
   obtain⟨nt,UJ,Sg,LQ⟩:=EK (P:=P) (k0:=o+len*es) jy (by omega) Cp
   have tC:Below B w (w.setRow b nt):=⟨rfl,rfl,rfl,by simp [World.setRow],fun k hk=>setRow_other w b k _ (by omega)⟩
   have z1P:QO V B (newRow (j6++new)) b o (base+S-o) (.cells nt el):=by
    have hlen:(j6++new).length=len*es+n*es:=by rw [List.length_append,Dw,NJ]
    refine .cells true _ _ b o (base+S-o) nt el (0,0) (fun _=>⟨rfl,hB⟩) (fun _=>rfl) (fun _=>by rw [Sg];omega) (by omega) (fun _ j hj=> ?_) (fun j q hq=> ?_)
    ·rw [Tr.gb,if_pos (by omega)]
     exact⟨(j6++new)[j]'hj,by simp only [Nat.sub_zero];exact List.getElem?_eq_getElem hj⟩
    rw [Tr.gb]at hq
    split at hq
    ·rename_i hj
     simp only [Nat.sub_zero]at hq
     have lT:j<(j6++new).length:=(List.getElem?_eq_some_iff.1 hq).1
     by_cases hjo:j<j6.length
     ·rw [List.getElem?_append_left hjo]at hq
      obtain⟨v,h1,h2⟩:=Iq.at j q hq
      refine⟨by omega,PL q (List.mem_of_getElem? hq),v,?_,h2⟩
      rw [LQ,if_neg (by omega)]
      have:=PN j v h1
      have Cl:len≠0:=fun e=>by rw [e,Nat.zero_mul]at Dw;omega
      rw [hoo.resolve_left Cl]
      simpa [World.cell?,jy,vb] using this
     rw [List.getElem?_append_right (by omega)]at hq
     obtain⟨v,h1,h2⟩:=hY.at _ q hq
     refine⟨by omega,NS q (List.mem_of_getElem? hq),v,?_,h2⟩
     have hjv:j-j6.length<vs.length:=(List.getElem?_eq_some_iff.1 h1).1
     rw [LQ,if_pos (by omega),←h1]
     congr 1;omega
    rw [Tr.get_nil]at hq;cases hq
   have dq:=hW.alias (vW:=o) (S':=base+S-o) Q2 ho tC (by simp [World.setRow]) (fun k hk=>setRow_other w b k _ hk) (setRow_heap w b arr _ el (0,0) jy) z1P
   refine⟨_,_,_,_,_,rfl,(Ext.del Q2).trans ((hW.del i).Uw (newRow (j6++new)) (b,o,base+S-o)),dq,?_,Qg c _ jC rfl _ (by simp only [vb];exact UJ)⟩
   have:=zS.slice (V:=V.bind H.next (b,o,base+S-o)) H.next 0 (len+n) none es b o (base+S-o) c (qw.Uj _ _ _) jC (fun k h=>by cases h) (by omega)
   simpa using this
  ·obtain⟨w',c',rest,ay,Je,Jf,uZ⟩:=room c _ (by omega) rfl UR (fun w' hh=>by
    have:=run_loadCells_list (P:=P) w' ⟨b,o,none⟩ UR (fun j v hj=>by
     have hj2:=(List.getElem?_eq_some_iff.1 hj).1
     have Cl:len≠0:=fun e=>by rw [e,Nat.zero_mul]at Dw;omega
     rw [←PN j v hj,hoo.resolve_left Cl];simp only [World.cell?,hh])
    rw [←Dy,Dw]at this
    simpa [Builtin.firstCells] using this)
   obtain⟨f1,f2,f3⟩:=fresh w' c' j6 UR rest ⟨H.t.del i,H.next⟩ ((wU w' ay).del i) rfl Je Jf Iq PL Dw
   exact⟨_,_,_,_,_,rfl,f1 (.del Q2),f2,f3,uZ⟩
 ·
  rename_i i off ck
  cases UI:Nat.beq n 0 with
  |true=>
   rw [UI]at h;cases h
   have:=Nat.eq_of_beq_eq_true UI
   subst this
   have NR:vs= []:=List.eq_nil_of_length_eq_zero (by omega)
   subst NR
   refine⟨_,_,V,w,_,rfl,.refl V H,hW,hs,?_⟩
   cases hs with
   |uA _ _ _ b base S o c _ Q2 Wo FN dM=>exact Qg _ _ (by omega) rfl w (by simp [storeCells])
   |slice _ _ _ _ _ b base S c Q2 Yi Wo dM=>exact Qg _ _ (by omega) rfl w (by simp [storeCells])
   |vU _ _ _ _ _ b base S c a Q2 hbl Yi Wo ha=>exact Qg _ _ (by omega) rfl w (by simp [storeCells])
  |false=>
  rw [UI]at h
  simp only [cond_false]at h
  have UI:n≠0:=fun e=>by subst e;cases UI
  cases jC:Nat.ble (len+n) ck with
  |true=>
   rw [jC]at h
   simp only [cond_true]at h
   split at h
   case h_2=>cases h
   rename_i H' FU
   cases h
   have jC:=Nat.le_of_ble_eq_true jC
   cases hs with
   |vU _ _ _ _ _ b base S c a Q2 hbl Yi Wo ha=>exact absurd (dH hW Q2 FU) (by have:=hW.GX;omega)
   |uA _ _ _ b base S o c _ Q2 Wo FN dM=>have:=Wo _ rfl;omega
   |slice _ _ _ _ _ b base S c Q2 Yi Wo dM=>
   have:=Wo _ rfl
   subst this
   obtain⟨w',UJ,Az⟩:=j0 (P:=P) hW Q2 FU hY
   refine⟨_,_,V,w',_,rfl,Az.2,Az.1,?_,Qg c _ (by omega) rfl _ (by simp only [vb];rw [Nat.add_assoc];exact UJ)⟩
   exact .slice i off (len+n) _ es b base S c Q2 jC Wo dM
  |false=>
   rw [jC]at h
   simp only [cond_false]at h
   have jC: ¬len+n≤ck:=fun e=>by rw [Nat.ble_eq_true_of_le e]at jC;cases jC
   cases Ck:Nat.beq len 0 with
   |true=>
    rw [Ck]at h
    cases h
    have:=Nat.eq_of_beq_eq_true Ck
    subst this
    obtain⟨a,rfl⟩: ∃a,su= .slice a 0 ck:=by
     cases hs with
     |uA _ _ _ b base S o c _ Q2 Wo FN dM=>have:=Wo _ rfl;exact⟨_,by rw [this.1,this.2]⟩
     |slice _ _ _ _ _ b base S c Q2 Yi Wo dM=>have:=Wo _ rfl;exact⟨_,by rw [this]⟩
     |vU _ _ _ _ _ b base S c a Q2 hbl Yi Wo ha=>have:=Wo _ rfl;exact⟨_,by rw [this]⟩
    obtain⟨w',c',rest,ay,Je,Jf,uZ⟩:=room ck _ (by omega) rfl [] (fun w' hh=>by cases a<;>simp [Builtin.firstCells,loadCells,loadCellsFrom])
    obtain⟨f1,f2,f3⟩:=fresh w' c' [] [] rest H (wU w' ay) rfl Je Jf .nil (by simp) (by simp)
    exact⟨_,_,_,_,_,rfl,f1 (.refl V H),f2,f3,uZ⟩
   |false=>
   rw [Ck]at h
   simp only [cond_false]at h
   have Ck:len≠0:=fun e=>by subst e;cases Ck
   split at h
   case h_2=>cases h
   rename_i j6 hold
   cases h
   cases hs with
   |uA=>exact absurd rfl Ck
   |vU _ _ _ _ _ b base S c a Q2 hbl Yi Wo ha=>
    have:=Wo _ rfl
    subst this
    obtain rfl:=ha (.inl (by omega))
    obtain⟨Dw,PL,UR,Iq,PN⟩:=QH hW Q2 hold
    have Dy:=Iq.length
    obtain⟨w',c',rest,ay,Je,Jf,uZ⟩:=room c _ (by omega) rfl UR (fun w' hh=>by
     have:=run_loadCells_list (P:=P) w' ⟨b,base+off,none⟩ UR (fun j v hj=>by rw [←PN j v hj];simp only [World.cell?,hh])
     rw [←Dy,Dw]at this
     simpa [Builtin.firstCells] using this)
    obtain⟨f1,f2,f3⟩:=fresh w' c' j6 UR rest H (wU w' ay) rfl Je Jf Iq PL Dw
    exact⟨_,_,_,_,_,rfl,f1 (.refl V H),f2,f3,uZ⟩
   |slice _ _ _ _ _ b base S c Q2 Yi Wo dM=>
   have:=Wo _ rfl
   subst this
   obtain⟨Dw,PL,UR,Iq,PN⟩:=QH hW Q2 hold
   have Dy:=Iq.length
   obtain⟨w',c',rest,ay,Je,Jf,uZ⟩:=room c _ (by omega) rfl UR (fun w' hh=>by
    have:=run_loadCells_list (P:=P) w' ⟨b,base+off,none⟩ UR (fun j v hj=>by rw [←PN j v hj];simp only [World.cell?,hh])
    rw [←Dy,Dw]at this
    simpa [Builtin.firstCells] using this)
   obtain⟨f1,f2,f3⟩:=fresh w' c' j6 UR rest H (wU w' ay) rfl Je Jf Iq PL Dw
   exact⟨_,_,_,_,_,rfl,f1 (.refl V H),f2,f3,uZ⟩
end Go.Px
end
section
namespace Go.Px
open Go Go.RowKit
variable {P:Program} {F:zD} {V:qw} {B:Nat} {w0 w:World} {H:Hp}
theorem c4 (hW:yD B w0 V H w) {ts:Array TypeId} {ty:TypeId} {args:List z0} {us:Array Value} (hl:yw V args us.toList) {r:zN} (h:yc P F .copy ts.toList H args=some r):
 ∃v H' w' v',r= .val v H'∧Ext V V H H'∧yD B w0 V H' w'∧zS V v v'∧(Builtin.copy_ ts ty us).run P w= .ok v' w':=by
 simp only [yc]at h
 split at h
 case h_2=>cases h
 rename_i t PQ i off n cap es x zC0 xv
 obtain⟨su,lV,hs⟩:=hl.at 0 _ rfl
 obtain⟨xu,Wr,hx⟩:=hl.at 1 x rfl
 rw [Array.getElem?_toList]at lV Wr
 have ax:ts[0]? =some t:=by
  have:ts.toList[0]? =some t:=by rw [xv];rfl
  simpa using this
 split at h
 case h_2=>cases h
 rename_i e hu
 split at h
 case h_2=>cases h
 rename_i size m Y2 hm
 split at h
 case h_2=>cases h
 rename_i cs kD
 split at h
 case h_2=>cases h
 rename_i H' FU
 cases h
 obtain⟨vs,hY,NS,PD,hvn⟩:=Ux (P:=P) hW hx kD
 have fu:=Ji (P:=P) hx hm w
 cases hs with
 |vU _ _ _ _ _ b base S c a Q2 hbl Yi Wo ha=>exact absurd (dH hW Q2 FU) (by have:=hW.GX;omega)
 |uA _ _ _ b base S o c _ Q2 Wo FN dM=>
  obtain⟨w',UJ,Az,hE⟩:=j0 (P:=P) hW Q2 FU hY
  have hm0:Nat.min m 0=0:=Nat.min_zero m
  rw [hm0]at hvn PD
  have NR:vs= []:=List.eq_nil_of_length_eq_zero (by have:=hY.length;omega)
  subst NR
  have Hl:w'=w:=by simpa [storeCells] using UJ.symm
  subst Hl
  refine⟨_,_,w',_,rfl,hE,Az,.int .i64 _,?_⟩
  simp only [Builtin.copy_,ax,lV,Wr,Sem.run_bind,zR hu,Result.andThen_ok,fu,qA Y2,Nat.min_zero,PD w' rfl,storeCells,Sem.run_pure]
  rfl
 |slice _ _ _ _ _ b base S c Q2 Yi Wo dM=>
 obtain⟨w',UJ,Az,hE⟩:=j0 (P:=P) hW Q2 FU hY
 refine⟨_,_,w',_,rfl,hE,Az,.int .i64 _,?_⟩
 simp only [Builtin.copy_,ax,lV,Wr,Sem.run_bind,zR hu,Result.andThen_ok,fu,qA Y2,PD w rfl,UJ,Sem.run_pure]
 rfl
theorem fJ (hW:yD B w0 V H w) {ts:Array TypeId} {ty:TypeId} {args:List z0} {us:Array Value} (hl:yw V args us.toList) {r:zN} (h:yc P F .clear ts.toList H args=some r):
 ∃v H' w' v',r= .val v H'∧Ext V V H H'∧yD B w0 V H' w'∧zS V v v'∧(Builtin.clear_ ts ty us).run P w= .ok v' w':=by
 simp only [yc]at h
 split at h
 case h_3=>cases h
 ·rename_i t PQ i off n cap es zC0 xv
  obtain⟨su,lV,hs⟩:=hl.at 0 _ rfl
  rw [Array.getElem?_toList]at lV
  have ax:ts[0]? =some t:=by
   have:ts.toList[0]? =some t:=by rw [xv];rfl
   simpa using this
  split at h
  case h_2=>cases h
  rename_i e hu
  split at h
  case h_2=>cases h
  rename_i z hz
  obtain⟨zv,rz,G4⟩:=jI (P:=P) hz
  split at h
  case h_2=>cases h
  rename_i H' FU
  cases h
  cases hs with
  |vU _ _ _ _ _ b base S c a Q2 hbl Yi Wo ha=>exact absurd (dH hW Q2 FU) (by have:=hW.GX;omega)
  |uA _ _ _ b base S o c _ Q2 Wo FN dM=>
   have Jf:=ZE (G4 V) 0 zv.cells (fun _=>rfl)
   have ez:((Array.range (0*z.cells.length)).map (zv.cells[· %zv.cells.size]!)).toList=(Builtin.zeroCells zv.cells 0).toList:=by simp [Builtin.zeroCells]
   rw [ez]at Jf
   obtain⟨w',UJ,Az,hE⟩:=j0 (P:=P) hW Q2 FU Jf
   have e0:(Builtin.zeroCells zv.cells 0).toList= []:=by simp [Builtin.zeroCells]
   rw [e0]at UJ
   have Hl:w'=w:=by simpa [storeCells] using UJ.symm
   subst Hl
   refine⟨_,_,w',_,rfl,hE,Az,jb V,?_⟩
   simp [Builtin.clear_,ax,lV,zR hu,undef]
  |slice _ _ _ _ _ b base S c Q2 Yi Wo dM=>
  have Jf:=ZE (G4 V) n zv.cells (fun _=>rfl)
  have ez:((Array.range (n*z.cells.length)).map (zv.cells[· %zv.cells.size]!)).toList=(Builtin.zeroCells zv.cells n).toList:=by rw [←(G4 V).gV];rfl
  rw [ez]at Jf
  obtain⟨w',UJ,Az,hE⟩:=j0 (P:=P) hW Q2 FU Jf
  refine⟨_,_,w',_,rfl,hE,Az,jb V,?_⟩
  cases n with
  |zero=>
   have:w'=w:=by
    have e0:(Builtin.zeroCells zv.cells 0).toList= []:=by simp [Builtin.zeroCells]
    rw [e0]at UJ
    simpa [storeCells] using UJ.symm
   subst this
   simp [Builtin.clear_,ax,lV,zR hu,undef]
  |succ n=>
   simp only [Builtin.clear_,ax,lV,Sem.run_bind,zR hu,Result.andThen_ok,rz,UJ,Sem.run_pure]
   rfl
 rename_i t PQ n cap es zC0 xv
 obtain⟨su,lV,hs⟩:=hl.at 0 _ rfl
 rw [Array.getElem?_toList]at lV
 have ax:ts[0]? =some t:=by
  have:ts.toList[0]? =some t:=by rw [xv];rfl
  simpa using this
 split at h
 case h_2=>cases h
 rename_i e hu
 cases h
 cases hs with
 |YD=>
 refine⟨_,_,w,_,rfl,.refl V H,hW,jb V,?_⟩
 simp [Builtin.clear_,ax,lV,zR hu,undef]
theorem Gk (hF:dJ F V.ρ) (hW:yD B w0 V H w) {t:TypeId} {m k:OV} {mu ku:Value} (hm: ∀v,m=some v→zS V v mu) (hk: ∀v,k=some v→zS V v ku)
 {r:zN} (h:QX P F t m k H=some r): ∃v H' w' v',r= .val v H'∧Ext V V H H'∧yD B w0 V H' w'∧zS V v v'∧(Instr.mapEntry t mu ku).run P w= .ok v' w':=by
 unfold QX at h
 split at h
 case h_2=>cases h
 rename_i i k kt et hu
 replace hm:=hm _ rfl
 replace hk:=hk _ rfl
 cases hf:vM P kt k with
 |false=>rw [hf]at h;cases h
 |true=>
 rw [hf]at h
 simp only [cond_true]at h
 split at h
 case h_2=>cases h
 rename_i es clock z HZ hz
 obtain⟨zv,rz,G4⟩:=jI (P:=P) hz
 obtain⟨b,base,S,hb,rfl⟩:=hm.VK
 obtain⟨ho,ms,dt,U3,hB⟩:=Zl hW hb HZ
 have YR: ∀(es:Array MapEntry) c a t f,Obj.map es c≠ .cells a t f:=fun _ _ _ _ _=>nofun
 split at h
 ·rename_i j e cg
  obtain⟨q,h1,h2⟩:=vR hF hW hk hf U3 cg
  rcases h2 with⟨h2,_⟩|⟨j',e',m',h2,rfl,h3,h4⟩
  ·cases h2
  cases h2
  cases HX:Y4 k e.key with
  |false=>rw [HX]at h;cases h
  |true=>
   rw [HX]at h;cases h
   have hE:=U3.2 j e m' h3 h4
   obtain⟨_,Jg⟩:=pY (V:=V) HX
   obtain⟨he,yU⟩:=Jg ku m'.key hk hE.key
   have h4':ms[j]? =some m':=by simpa using h4
   have Cs:(Instr.keyThatStays (((ms[j]?).map (·.key)).getD ku) ku).run P w= .ok ku w:=by
    rw [h4']
    simp only [Option.map_some,Option.getD_some,Instr.keyThatStays,yU,if_true,Sem.run_pure]
   have hJ:=hW.Qp hb ho hB (o':= .map (es.set j ⟨k,e.val,e.born⟩) clock) (x':= .map (ms.modify j fun e=> { e with key:=ku }) clock) (by
    refine .map _ _ _ _ _ _ hB (by simp;simpa using U3.1) fun n e1 m1 Vm Zi=> ?_
    rw [Array.getElem?_modify]at Zi
    by_cases hn:n=j
    ·subst hn
     have uE:n<es.length:=(List.getElem?_eq_some_iff.1 h3).1
     simp [uE]at Vm
     rw [if_pos rfl,h4']at Zi
     simp at Zi
     subst Vm Zi
     exact⟨hk,hE.val,hE.born⟩
    rw [List.getElem?_set_ne (Ne.symm hn)]at Vm
    rw [if_neg (Ne.symm hn)]at Zi
    exact U3.2 n e1 m1 Vm (by simpa using Zi))
   refine⟨_,_,_,.tuple #[m'.val,goInt m'.born],rfl,hJ.2,hJ.1,?_,?_⟩
   ·have:yw V [e.val,WU e.born] [m'.val,goInt m'.born]:= .cons hE.val (.cons (by rw [hE.born];exact .int .i64 _) .nil)
    exact zS.UZ this
   simp only [Instr.mapEntry,Sem.run_bind,zR hu,Result.andThen_ok,vS dt,wm hf hk,h1,Cs,u6 dt (YR _ _),Sem.run_pure]
   rw [h4'];rfl
 ·rename_i cg
  cases h
  obtain⟨q,h1,h2⟩:=vR hF hW hk hf U3 cg
  rcases h2 with⟨_,rfl⟩|⟨j',e',m',h2,_⟩
  ·have hJ:=hW.Qp hb ho hB (o':= .map (es++ [⟨k,z,clock⟩]) (clock+1)) (x':= .map (ms.push { key:=ku,val:=zv,born:=clock }) (clock+1)) (by
    have hlen:es.length=ms.size:=by simpa using U3.1
    refine .map _ _ _ _ _ _ hB (by simp [hlen]) fun n e1 m1 Vm Zi=> ?_
    rw [Array.getElem?_push]at Zi
    by_cases hn:n=ms.size
    ·subst hn
     rw [if_pos rfl]at Zi
     rw [←hlen]at Vm
     simp at Vm Zi
     subst Vm Zi
     exact⟨hk,G4 V,rfl⟩
    rw [if_neg hn]at Zi
    have uE:n<ms.size:=(Array.getElem?_eq_some_iff.1 Zi).1
    rw [List.getElem?_append_left (by omega)]at Vm
    exact U3.2 n e1 m1 Vm (by simpa using Zi))
   refine⟨_,_,_,.tuple #[zv,goInt clock],rfl,hJ.2,hJ.1,?_,?_⟩
   ·have:yw V [z,WU clock] [zv,goInt clock]:= .cons (G4 V) (.cons (.int .i64 _) .nil)
    exact zS.UZ this
   simp only [Instr.mapEntry,Sem.run_bind,zR hu,Result.andThen_ok,vS dt,wm hf hk,h1,rz,u6 dt (YR _ _),Sem.run_pure]
  cases h2
 cases h
theorem fA (b:Nat): ∀(es:List Entry) (ms:List MapEntry) (i j:Nat) (e:Entry),(∀(n:Nat) (x:Entry) (m:MapEntry),es[n]? =some x→ms[n]? =some m→m.born=x.born)→es.length=ms.length→mQ b es i=some (j,e)→
 i≤j∧es[j-i]? =some e∧ms.findIdx? (fun m=>(m.born:Int)==(b:Int))=some (j-i):=by
 intro es
 induction es with
 |nil=>intro ms i j e _ _ h;cases h
 |cons x es ih=>
  intro ms i j e hb hl h
  cases ms with
  |nil=>simp at hl
  |cons m ms=>
   have hbm:=hb 0 x m rfl rfl
   simp only [mQ]at h
   cases hx:Nat.beq x.born b with
   |true=>
    rw [hx]at h;cases h
    have:=Nat.eq_of_beq_eq_true hx
    refine⟨Nat.le_refl _,by simp,?_⟩
    simp [List.findIdx?_cons,hbm,this]
   |false=>
    rw [hx]at h
    have wY:x.born≠b:=fun e=>by subst e;simp at hx
    obtain⟨h1,h2,h3⟩:=ih ms (i+1) j e (fun n y q hy hq=>hb (n+1) y q (by simpa using hy) (by simpa using hq)) (by simpa using hl) h
    refine⟨by omega,?_,?_⟩
    ·rw [show j-i=(j-(i+1))+1 by omega];simpa using h2
    have:((m.born:Int)==(b:Int))=false:=by
     rw [hbm];simp;omega
    rw [List.findIdx?_cons,this]
    simp only [Bool.false_eq_true,if_false,h3,Option.map_some]
    congr 1;omega
theorem UD (hW:yD B w0 V H w) {t:TypeId} {m s x:OV} {mu su xu:Value} (hm: ∀v,m=some v→zS V v mu) (hs: ∀v,s=some v→zS V v su) (hx: ∀v,x=some v→zS V v xu)
 {r:zN} (h:ZZ m s x H=some r): ∃H' w',r= .val unit H'∧Ext V V H H'∧yD B w0 V H' w'∧(Instr.entryStore t mu su xu).run P w= .ok () w':=by
 unfold ZZ at h
 split at h
 case h_2=>cases h
 rename_i i s x
 replace hm:=hm _ rfl
 replace hs:=hs _ rfl
 replace hx:=hx _ rfl
 split at h
 case h_2=>cases h
 rename_i b es clock hn HZ
 split at h
 case h_2=>cases h
 rename_i j e FN
 cases h
 obtain⟨bk,base,S,hb,rfl⟩:=hm.VK
 obtain⟨ho,ms,dt,U3,hB⟩:=Zl hW hb HZ
 obtain⟨k,rfl⟩:=wv hn hs
 have YR: ∀(es:Array MapEntry) c a t f,Obj.map es c≠ .cells a t f:=fun _ _ _ _ _=>nofun
 obtain⟨_,h3,h4⟩:=fA b es ms.toList 0 j e (fun n y q hy hq=>(U3.2 n y q hy hq).born) U3.1 FN
 simp only [Nat.sub_zero]at h3 h4
 have hJ:=hW.Qp hb ho hB (o':= .map (es.set j ⟨e.key,x,e.born⟩) clock) (x':= .map (ms.modify j fun e=> { e with val:=xu }) clock) (by
  refine .map _ _ _ _ _ _ hB (by simp;simpa using U3.1) fun n e1 m1 Vm Zi=> ?_
  rw [Array.getElem?_modify]at Zi
  by_cases hn:n=j
  ·subst hn
   have uE:n<es.length:=(List.getElem?_eq_some_iff.1 h3).1
   simp [uE]at Vm
   rw [if_pos rfl]at Zi
   cases hmj:ms[n]? with
   |none=>rw [hmj]at Zi;cases Zi
   |some mj=>
    rw [hmj]at Zi
    simp at Zi
    subst Vm Zi
    have hE:=U3.2 n e mj h3 (by simpa using hmj)
    exact⟨hE.key,hx,hE.born⟩
  rw [List.getElem?_set_ne (Ne.symm hn)]at Vm
  rw [if_neg (Ne.symm hn)]at Zi
  exact U3.2 n e1 m1 Vm (by simpa using Zi))
 refine⟨_,_,rfl,hJ.2,hJ.1,?_⟩
 have h5:ms.findIdx? (fun m=>(m.born:Int)==(b:Int))=some j:=by
  rw [←h4,←List.findIdx?_toArray,Array.toArray_toList]
 simp only [Instr.entryStore,Sem.run_bind,vS dt,Result.andThen_ok,asInt,asIntOf,Sem.run_pure,h5]
 exact u6 dt (YR _ _)
end Go.Px
end
section
namespace Go.Px
open Go Go.RowKit
variable {P:Program} {F:zD} {V:qw} {B:Nat} {w0 w:World} {H:Hp}
def Zr (P:Program) (f:FuncId):Prop:= ∃fn,P.funcs[f]? =some fn∧(fn.name== "runtime.NumGoroutine")=false∧fn.body.isNone=false
theorem tl {f:FuncId} (h:Zr P f) (args:Array Value) (w:World):(callFunc f args).run P w= .ok (.enter f args) w:=by
 obtain⟨fn,h1,h2,h3⟩:=h
 have my: ¬fn.name= "runtime.NumGoroutine" :=by simpa using h2
 have h3': ¬fn.body=none:=by intro e;rw [e]at h3;cases h3
 simp [callFunc,program,Sem.run,h1,my,h3']
structure Xl (P:Program) (B:Nat) (w0:World) (V:qw) (H:Hp) (w:World) (a:Act) (o:Oper) (v:z0) (H':Hp) (V':qw) (w':World) (v':Value):Prop where
 ext:Ext V V' H H'
 rel:yD B w0 V' H' w'
 val:zS V' v v'
 run:(execOp a.eval o).run P w= .ok (.value v') w'∨((execOp a.eval o).run P w= .ok .skip w'∧v'=undef)
theorem rM (hF:dJ F V.ρ) (hW:yD B w0 V H w) {T:Tm} {a:Act} {o:Oper} (hT:pB V T a o.op.operands) {r:zN} (h:yd P F T H o=some r):
 (∃v H' V' w' v',r= .val v H'∧Xl P B w0 V H w a o v H' V' w' v')∨
  (∃f args uG,r= .call f args∧yw V args uG.toList∧(Zr P f→(execOp a.eval o).run P w= .ok (.enter f uG) w)):=by
 cases hq:Zc o.op with
 |true=>
  obtain⟨v,v',h1,h2,h3⟩:=Wy hF hW hT hq h
  exact .inl ⟨v,H,V,w,v',h1,.refl V H,hW,h2,.inl h3⟩
 |false=>
 cases ha:wA o.op with
 |true=>
  obtain⟨v,ob,x,base,S,v',h1,h2,h3,h4⟩:=JO hW.size hT ha h
  exact .inl ⟨v,_,V.bind H.next (w.heap.size,base,S),_,v',h1,hW.Uw _ _,hW.alloc h3,h4 _ (hW.Ye _) (qw.Uj _ _ _),.inl h2⟩
 |false=>
 obtain⟨dst,op,ty,pos,after,guard⟩:=o
 have ev: ∀ {x:Operand},x ∈ op.operands→ ∀v,zK T x=some v→zS V v (a.eval x):=fun hx v h=>hT _ hx v h
 clear hT
 have nK: ∀ {H':Hp} {w':World} {s:Sem Unit},Ext V V H H'→yD B w0 V H' w'→s.run P w= .ok () w'→(execOp a.eval ⟨dst,op,ty,pos,after,guard⟩)=(do s;pure .skip)→
  Xl P B w0 V H w a ⟨dst,op,ty,pos,after,guard⟩ unit H' V w' undef:=by
  intro H' w' s h1 h2 h3 e
  exact⟨h1,h2,jb V,.inr ⟨by rw [e];simp [h3],rfl⟩⟩
 cases op<;>simp only [Zc,wA]at hq ha<;>try (first|(cases hq;done)|(cases ha;done)|(cases h;done))
 case store t x y=>
  obtain⟨H',w',h1,h2,h3,h4⟩:=dh hW (ev (by simp [Op.operands])) (ev (by simp [Op.operands])) h
  exact .inl ⟨_,_,_,_,_,h1,nK h4 h3 h2 rfl⟩
 case mapUpdate t m k x=>
  obtain⟨H',w',h1,h2,h3,h4⟩:=Wi hF hW (ev (by simp [Op.operands])) (ev (by simp [Op.operands])) (ev (by simp [Op.operands])) h
  exact .inl ⟨_,_,_,_,_,h1,nK h4 h3 h2 rfl⟩
 case insert t m k x=>
  obtain⟨H',w',h1,h2,h3,h4⟩:=Wi hF hW (ev (by simp [Op.operands])) (ev (by simp [Op.operands])) (ev (by simp [Op.operands])) h
  exact .inl ⟨_,_,_,_,_,h1,nK h4 h3 h2 rfl⟩
 case mapEntry t m k=>
  obtain⟨v,H',w',v',h1,h2,h3,h4,h5⟩:=Gk hF hW (ev (by simp [Op.operands])) (ev (by simp [Op.operands])) h
  exact .inl ⟨_,_,_,_,_,h1,h2,h3,h4,.inl (by simp [execOp,h5])⟩
 case entryStore t m s x=>
  obtain⟨H',w',h1,h2,h3,h4⟩:=UD (t:=t) hW (ev (by simp [Op.operands])) (ev (by simp [Op.operands])) (ev (by simp [Op.operands])) h
  exact .inl ⟨_,_,_,_,_,h1,nK h2 h3 h4 rfl⟩
 case call c=>
  obtain⟨callee,args,Oz⟩:=c
  cases callee<;>simp only at hq<;>try (cases hq;done)
  case builtin b=>
   simp only [yd,yq]at h
   split at h
   ·rename_i zC0 has
    have hl:=QD (a:=a) (V:=V) (fun y hy=>ev (by simp [Op.operands,Call.operands];simpa using hy)) has
    have nW:yw V zC0 (args.map a.eval).toList:=by simpa using hl
    have up: ∀ {v H' V' w' v'} {s:Sem Value},Ext V V' H H'→yD B w0 V' H' w'→zS V' v v'→s.run P w= .ok v' w'→
     (∀cs,builtin b Oz ty cs (args.map a.eval)=(do pure (.value (←s))))→
     Xl P B w0 V H w a ⟨dst,.call ⟨.builtin b,args,Oz⟩,ty,pos,after,guard⟩ v H' V' w' v':=by
     intro v H' V' w' v' s h1 h2 h3 h4 e
     refine⟨h1,h2,h3,.inl ?_⟩
     simp only [execOp,resolve,Sem.run_bind,Sem.run_pure,Result.andThen_ok,invoke]
     rw [e];simp [h4]
    cases b<;>simp only [ta]at hq<;>try (first|(cases hq;done)|(cases h;done))
    ·obtain⟨v,H',V',w',v',h1,h2,h3,h4,h5⟩:=dX (ty:=ty) hW nW h
     exact .inl ⟨v,H',V',w',v',h1,up h2 h3 h4 h5 (fun _=>rfl)⟩
    ·obtain⟨v,H',w',v',h1,h2,h3,h4,h5⟩:=fJ (F:=F) (ty:=ty) hW nW h
     exact .inl ⟨v,H',V,w',v',h1,up h2 h3 h4 h5 (fun _=>rfl)⟩
    ·obtain⟨v,H',w',v',h1,h2,h3,h4,h5⟩:=c4 (F:=F) (ty:=ty) hW nW h
     exact .inl ⟨v,H',V,w',v',h1,up h2 h3 h4 h5 (fun _=>rfl)⟩
    simp only [yc]at h
    split at h
    case h_2=>cases h
    rename_i t PQ m k as' xv
    split at h
    case h_2=>cases h
    rename_i H' hd
    cases h
    obtain⟨mu,h1,h2⟩:=nW.at 0 _ rfl
    obtain⟨ku,h3,h4⟩:=nW.at 1 _ rfl
    rw [Array.getElem?_toList]at h1 h3
    have ax:Oz[0]? =some t:=by
     have:Oz.toList[0]? =some t:=by rw [xv];rfl
     simpa using this
    obtain⟨w',h5,h6,h7⟩:=db (ty:=ty) hF hW ax h1 h3 h2 h4 hd
    exact .inl ⟨_,H',V,w',_,rfl,up h7 h6 (jb V) h5 (fun _=>rfl)⟩
   cases h
  case invoke r m=>simp [yd]at h
  case value f=>
   simp only [yd,me]at h
   split at h
   ·rename_i g xs ys zC0 hf has
    cases h
    have hl:=QD (a:=a) (V:=V) (fun y hy=>ev (by simp [Op.operands,Call.operands];right;simpa using hy)) has
    have hv:=ev (x:=f) (by simp [Op.operands,Call.operands]) _ hf
    refine .inr ⟨g,xs++zC0++ys,?_⟩
    generalize he:a.eval f=u at hv
    cases hv with
    |func _ _ _ x y PG hy' hxx hyy=>
    have h1:=yw.ofArray PG hxx
    have h2:=yw.ofArray hy' hyy
    refine⟨x++args.map a.eval++y,rfl,?_,fun hc=> ?_⟩
    ·simpa using (h1.append hl).append h2
    simp only [execOp,resolve,Sem.run_bind,Sem.run_pure,Result.andThen_ok,Deferred.ofValue,he,invoke]
    exact tl hc _ w
   cases h
end Go.Px
end
namespace Go.Px
open Go Go.RowKit
noncomputable section
inductive ym where
 |normal
 |exit (id:Nat)
 |ret
structure Rec where
 code:Code→Tm→Hp→Option (ym×Tm×Hp)
 call:FuncId→List z0→Hp→Option (z0×Hp)
def zp (T:Tm) (d:Option Tmp) (v:z0):Tm:=match d with
 |some d=>Tm.put d v T
 |none=>T
def zP (ops:Array Oper) (T:Tm) (o:Oper):Option Bool:=match o.guard with
 |none=>some true
 |some (j,want)=>match ops[j]? with
  |some g=>match g.dst with
   |some d=>match Tm.get d T with
    |some (.bool b)=>some (b==want)
    |some (.tuple _)=>some false
    |_=>none
   |none=>none
  |none=>none
def ZS (P:Program) (F:zD) (rec:Rec) (ops:Array Oper) (T:Tm) (H:Hp) (o:Oper):Option (Tm×Hp):=match zP ops T o with
 |some true=>match WE P F T H o with
  |some (.val v H)=>some (zp T o.dst v,H)
  |some (.call f args)=>match rec.call f args H with
   |some (v,H)=>some (zp T o.dst v,H)
   |none=>none
  |none=>none
 |some false=>some (zp T o.dst unit,H)
 |none=>none
def Qs (P:Program) (F:zD) (rec:Rec) (ops:Array Oper):List Oper→Tm→Hp→Option (Tm×Hp)
 | [],T,H=>some (T,H)
 |o::os,T,H=>match ZS P F rec ops T H o with
  |some (T,H)=>Qs P F rec ops os T H
  |none=>none
structure It where
 i:Nat
 o:Oper
 m:Nat
structure vZ where
 work:List It
 again:List It
 chain:Option It
def uH (e:Edge):Bool:=match e.ground with
 | .textOnly _=>false
 | .gcOnly _=>false
 |_=>true
def rG (acc:List It):List Edge→Option Nat
 | []=>some 0
 |e::es=>match rG acc es with
  |none=>none
  |some s=>bif uH e then(match acc[e.on]? with
   |some x=>some (s|||(1<<<e.on|||x.m))
   |none=>none)else some s
def xy:List Oper→List It→Option (List It)
 | [],acc=>some acc
 |o::os,acc=>match rG acc o.after.toList with
  |some m=>xy os (acc++ [⟨acc.length,o,m⟩])
  |none=>none
def J6:Op→Bool
 | .move _| .assign _| .pick .. | .build .. | .nilCheck _| .unOp .. | .makeInterface .. | .makeFunc .. | .fieldAddr .. | .field .. | .indexAddr .. | .index .. | .extract .. | .typeAssert .. =>true
 |_=>false
def vX (o:Op):Bool:= !(Zc o||wA o)
def ZR (o:Op):Bool:=Zc o && !J6 o
def Ld (d:Nat):Operand→Bool
 | .tmp t=>Nat.beq t d
 |_=>false
def ZP (ops:Array Oper) (o:Oper) (d:Nat):Bool:=
 o.op.operands.toList.any (Ld d)||(match o.guard with
  |some (g,_)=>match ops[g]? with
   |some q=>match q.dst with
    |some e=>Nat.beq e d
    |none=>false
   |none=>false
  |none=>false)
def xG:List It→Option (Tr Nat)
 | []=>some .nil
 |x::l=>match xG l with
  |none=>none
  |some W=>match x.o.dst with
   |none=>some W
   |some d=>match W.get d with
    |none=>some (W.set d x.i)
    |some _=>none
def tN (W:Tr Nat) (m:Nat) (d:Nat):Bool:=match W.get d with
 |none=>true
 |some i=>Nat.testBit m i
def Dc (W:Tr Nat) (m:Nat):Operand→Bool
 | .tmp t=>tN W m t
 |_=>true
def ah (ops:Array Oper) (W:Tr Nat) (m:Nat) (o:Oper):Bool:=match o.guard with
 |some (g,_)=>match ops[g]? with
  |some q=>match q.dst with
   |some e=>tN W m e
   |none=>true
  |none=>true
 |none=>true
def Ue (ops:Array Oper) (wT:List It):Bool:=match xG wT with
 |none=>false
 |some W=>wT.all fun y=>y.o.op.operands.toList.all (Dc W y.m) && ah ops W y.m y.o
def bK:List It→Nat
 | []=>0
 |x::l=>1<<<x.i|||bK l
def sr (M:Nat):List It→Option Nat
 | []=>some M
 |p::l=>match sr M l with
  |none=>none
  |some N=>bif Nat.beq (Nat.land p.m N) 0 then some (1<<<p.i|||N)else none
def jU:List It→Option It
 | []=>none
 |x::l=>bif vX x.o.op then some x else jU l
def Wz:Nat→List It→List It→Option (List vZ)
 |0,_,_=>none
 |n+1,prev,rest=>match jU rest with
  |none=>bif (sr 0 rest).isSome then some [⟨rest,prev++rest.filter (fun x=>ZR x.o.op),none⟩]else none
  |some c=>
   let W:=rest.filter fun x=> !vX x.o.op && !(Nat.testBit x.m c.i)
   let R:=rest.filter fun x=> !(Nat.beq x.i c.i) && (vX x.o.op||Nat.testBit x.m c.i)
   let A:=prev++W.filter fun x=>ZR x.o.op
   bif ((sr (bK (c::R)) W).isSome && Nat.beq (Nat.land c.m (bK R)) 0) && R.all (fun x=>Nat.testBit x.m c.i)then
    match Wz n (A.filter fun x=> !(Nat.testBit c.m x.i)) R with
    |some l=>some (⟨W,A,some c⟩::l)
    |none=>none
   else none
def UW (ops:Array Oper):Option (List vZ):=match xy ops.toList []with
 |some wT=>bif Ue ops wT then Wz (wT.length+1) [] wT else none
 |none=>none
def YJ (P:Program) (F:zD) (ops:Array Oper) (T:Tm) (H:Hp) (o:Oper):Option (Tm×Hp):=match zP ops T o with
 |some true=>match WE P F T H o with
  |some (.val v H')=>some (zp T o.dst v,bif wA o.op then H' else H)
  |_=>none
 |some false=>some (zp T o.dst unit,H)
 |none=>none
def Yl (P:Program) (F:zD) (ops:Array Oper):List It→Tm→Hp→Option (Tm×Hp)
 | [],T,H=>some (T,H)
 |x::l,T,H=>match YJ P F ops T H x.o with
  |some (T,H)=>Yl P F ops l T H
  |none=>none
def Ql (e:z0→z0→Bool):List z0→List z0→Bool
 | [],[]=>true
 |a::x,b::y=>e a b && Ql e x y
 |_,_=>false
def ju:Nat→z0→z0→Bool
 |0,_,_=>false
 |n+1,u,v=>match u,v with
  | .bool a,.bool b=>a==b
  | .int k (.lit a),.int j (.lit b)=>gN k j && Z9 a b
  | .int k (.G9 a i c),.int j (.G9 b n d)=>gN k j && (Z9 a b && (Nat.beq i n && Z9 c d))
  | .str a,.str b=>wi a b
  | .ptr none,.ptr none=>true
  | .ptr (some (a,i)),.ptr (some (b,j))=>Nat.beq a b && Nat.beq i j
  | .slice none l (some c) s,.slice none m (some d) t=>Nat.beq l m && (Nat.beq c d && Nat.beq s t)
  | .slice (some (a,i)) l (some c) s,.slice (some (b,j)) m (some d) t=>(Nat.beq a b && Nat.beq i j) && (Nat.beq l m && (Nat.beq c d && Nat.beq s t))
  | .slice (some (a,i)) l none s,.slice (some (b,j)) m none t=>(Nat.beq a b && Nat.beq i j) && (Nat.beq l m && Nat.beq s t)
  | .map none,.map none=>true
  | .map (some a),.map (some b)=>Nat.beq a b
  | .chan none,.chan none=>true
  | .chan (some a),.chan (some b)=>Nat.beq a b
  | .func f a c,.func g b d=>Nat.beq f g && (Ql (ju n) a b && Ql (ju n) c d)
  | .nilFunc,.nilFunc=>true
  | .nilIface,.nilIface=>true
  | .iface t a,.iface s b=>Nat.beq t s && ju n a b
  | .agg a,.agg b=>Ql (ju n) a b
  | .tuple a,.tuple b=>Ql (ju n) a b
  |_,_=>false
def Vi (a b:z0):Bool:=ju 4 a b
def vt (P:Program) (F:zD) (ops:Array Oper) (T:Tm) (H:Hp) (o:Oper):Bool:=match zP ops T o with
 |some true=>match WE P F T H o with
  |some (.val v _)=>match o.dst with
   |none=>true
   |some d=>match Tm.get d T with
    |some u=>Vi u v
    |none=>true
  |_=>false
 |some false=>true
 |none=>false
def ve (P:Program) (F:zD) (rec:Rec) (ops:Array Oper):List vZ→Tm→Hp→Option (Tm×Hp)
 | [],_,_=>none
 |s::ss,T,H=>match Yl P F ops s.work T H with
  |none=>none
  |some (T,H)=>bif s.again.all (fun x=>vt P F ops T H x.o)then(match s.chain with
   |none=>some (T,H)
   |some c=>match ZS P F rec ops T H c.o with
    |some (T,H)=>ve P F rec ops ss T H
    |none=>none)else none
def VW (P:Program) (F:zD) (rec:Rec) (ops:Array Oper) (T:Tm) (H:Hp):Option (Tm×Hp):=match UW ops with
 |some ss=>ve P F rec ops ss T H
 |none=>none
def Qq (P:Program) (T:Tm) (H:Hp):ResultVar→Option z0
 | .tmp t=>Tm.get t T
 | .cell a t=>match Tm.get a T with
  |some (.ptr (some (i,off)))=>bH P t H i off
  |_=>none
def wR (P:Program) (T:Tm) (H:Hp):List ResultVar→Option (List z0)
 | []=>some []
 |r::rs=>match Qq P T H r,wR P T H rs with
  |some v,some vs=>some (v::vs)
  |_,_=>none
def WX:List z0→Nat→Tm→Tm
 | [],_,T=>T
 |v::vs,i,T=>WX vs (i+1) (Tm.put i v T)
abbrev yy:=FuncId→Option (List z0→Hp→Option (z0×Hp))
def Vv (P:Program) (rec:Rec) (f:FuncId) (args:List z0) (H:Hp):Option (z0×Hp):=match P.funcs[f]? with
 |none=>none
 |some fn=>match fn.body with
  |none=>none
  |some b=>match rec.code b (WX args 0 (Tm.mk (fn.ntmps/16+1))) H with
   |some (.exit _,_,_)=>none
   |some (_,T,H)=>match wR P T H fn.results.toList with
    |some [v]=>some (v,H)
    |some vs=>some (.tuple vs,H)
    |none=>none
   |none=>none
def gD (P:Program) (F:zD) (rec:Rec) (c:Code) (T:Tm) (H:Hp):Option (ym×Tm×Hp):=match c with
 | .skip=>some (.normal,T,H)
 | .label _=>some (.normal,T,H)
 | .region _ ops draw=>match(bif draw then VW P F rec ops T H else Qs P F rec ops ops.toList T H)with
  |some (T,H)=>some (.normal,T,H)
  |none=>none
 | .seq a b=>match rec.code a T H with
  |some (.normal,T,H)=>rec.code b T H
  |r=>r
 | .cond x a b=>match zK T x with
  |some (.bool t)=>rec.code (bif t then a else b) T H
  |_=>none
 | .block id b=>match rec.code b T H with
  |some (.exit i,T,H)=>some (bif Nat.beq i id then .normal else .exit i,T,H)
  |r=>r
 | .loop b=>match rec.code b T H with
  |some (.normal,T,H)=>rec.code (.loop b) T H
  |r=>r
 | .exit id=>some (.exit id,T,H)
 | .ret=>some (.ret,T,H)
 |_=>none
def step (P:Program) (F:zD) (zB:yy) (rec:Rec):Rec where
 code:=gD P F rec
 call f args H:=match zB f with
  |some h=>h args H
  |none=>Vv P rec f args H
def exec (P:Program) (F:zD) (zB:yy):Nat→Rec
 |0=>⟨fun _ _ _=>none,fun _ _ _=>none⟩
 |n+1=>step P F zB (exec P F zB n)
end
theorem JS (e:Edge):Region.binds .any e=uH e:=by
 obtain⟨on,g⟩:=e
 cases g<;>rfl
theorem kP (n i:Nat):(1<<<n).testBit i=true→i=n:=by
 intro h
 rw [Nat.testBit_shiftLeft]at h
 simp only [Bool.and_eq_true,decide_eq_true_eq]at h
 have:=Nat.testBit_one_eq_true_iff_self_eq_zero.1 h.2
 omega
theorem sH {acc:List It} : ∀ {es:List Edge} {s:Nat},rG acc es=some s→
 (∀e,e ∈ es→uH e=true→ ∃y,acc[e.on]? =some y)∧(∀i,s.testBit i=true→ ∃e,e ∈ es∧uH e=true∧ ∃y,acc[e.on]? =some y∧(i=e.on∨y.m.testBit i=true)):=by
 intro es
 induction es with
 |nil=>intro s h;cases h;exact⟨fun e h=>by simp at h,fun i h=>by simp at h⟩
 |cons e es ih=>
  intro s h
  simp only [rG]at h
  cases h1:rG acc es with
  |none=>rw [h1]at h;cases h
  |some s1=>
   rw [h1]at h
   obtain⟨XZ,Xa⟩:=ih h1
   cases hb:uH e with
   |false=>
    simp only [hb,cond_false,Option.some.injEq]at h
    subst h
    refine⟨fun e' N9 U0=> ?_,fun i hi=> ?_⟩
    ·rcases List.mem_cons.1 N9 with rfl|N9
     ·rw [hb]at U0;cases U0
     exact XZ e' N9 U0
    obtain⟨e',a,b⟩:=Xa i hi
    exact⟨e',List.mem_cons_of_mem _ a,b⟩
   |true=>
    simp only [hb,cond_true]at h
    split at h
    case h_2=>cases h
    rename_i y hy
    cases h
    refine⟨fun e' N9 U0=> ?_,fun i hi=> ?_⟩
    ·rcases List.mem_cons.1 N9 with rfl|N9
     ·exact⟨y,hy⟩
     exact XZ e' N9 U0
    rw [Nat.testBit_or,Nat.testBit_or,Bool.or_eq_true,Bool.or_eq_true]at hi
    rcases hi with hi|hi|hi
    ·obtain⟨e',a,b⟩:=Xa i hi
     exact⟨e',List.mem_cons_of_mem _ a,b⟩
    ·exact⟨e,by simp,hb,y,hy,.inl (kP _ _ hi)⟩
    exact⟨e,by simp,hb,y,hy,.inr hi⟩
structure W4 (ops:Array Oper) (wT:List It):Prop where
 at_: ∀(k:Nat) x,wT[k]? =some x→x.i=k∧ops[k]? =some x.o
 G9: ∀(k:Nat) x,wT[k]? =some x→ ∀e,e ∈ x.o.after.toList→uH e=true→e.on<k
 bit: ∀(k:Nat) x,wT[k]? =some x→ ∀i,x.m.testBit i=true→ ∃e,e ∈ x.o.after.toList∧uH e=true∧ ∃y,wT[e.on]? =some y∧(i=e.on∨y.m.testBit i=true)
theorem r5 {ops:Array Oper} : ∀ {l:List Oper} {acc wT:List It},(∀k,(ops.toList)[acc.length+k]? =l[k]?)→W4 ops acc→xy l acc=some wT→W4 ops wT∧wT.length=acc.length+l.length:=by
 intro l
 induction l with
 |nil=>intro acc wT _ hI h;cases h;exact⟨hI,rfl⟩
 |cons o os ih=>
  intro acc wT hl hI h
  simp only [xy]at h
  split at h
  case h_2=>cases h
  rename_i m hm
  obtain⟨m1,m2⟩:=sH hm
  have j6: ∀(k:Nat) x,(acc++ [(⟨acc.length,o,m⟩:It)])[k]? =some x→acc[k]? =some x∨(k=acc.length∧x=⟨acc.length,o,m⟩):=by
   intro k x hx
   by_cases hk:k<acc.length
   ·rw [List.getElem?_append_left hk]at hx;exact .inl hx
   rw [List.getElem?_append_right (by omega)]at hx
   cases hd:k-acc.length with
   |zero=>rw [hd]at hx;simp at hx;exact .inr ⟨by omega,hx.symm⟩
   |succ n=>rw [hd]at hx;simp at hx
  have wU: ∀(k:Nat) y,acc[k]? =some y→(acc++ [(⟨acc.length,o,m⟩:It)])[k]? =some y:=by
   intro k y hy
   rw [List.getElem?_append_left (List.getElem?_eq_some_iff.1 hy).1];exact hy
  have:=ih (acc:=acc++ [⟨acc.length,o,m⟩]) (wT:=wT) (fun k=>by
   have:=hl (k+1)
   simp only [List.length_append,List.length_singleton]
   rw [show acc.length+1+k=acc.length+(k+1)by omega,this];simp) ⟨?_,?_,?_⟩ h
  ·obtain⟨h1,h2⟩:=this
   exact⟨h1,by simp at h2 ⊢;omega⟩
  ·intro k x hx
   rcases j6 k x hx with hx|⟨rfl,rfl⟩
   ·exact hI.at_ k x hx
   have:=hl 0
   simp at this
   exact⟨rfl,by simpa using this⟩
  ·intro k x hx e he hb
   rcases j6 k x hx with hx|⟨rfl,rfl⟩
   ·exact hI.G9 k x hx e he hb
   obtain⟨y,hy⟩:=m1 e he hb
   exact(List.getElem?_eq_some_iff.1 hy).1
  intro k x hx i hi
  rcases j6 k x hx with hx|⟨rfl,rfl⟩
  ·obtain⟨e,h1,h2,y,h3,h4⟩:=hI.bit k x hx i hi
   exact⟨e,h1,h2,y,wU _ _ h3,h4⟩
  obtain⟨e,h1,h2,y,h3,h4⟩:=m2 i hi
  exact⟨e,h1,h2,y,wU _ _ h3,h4⟩
theorem cw {ops:Array Oper} {wT:List It} (h:xy ops.toList []=some wT):W4 ops wT∧wT.length=ops.size:=by
 have:=r5 (ops:=ops) (acc:= []) (by simp) ⟨by simp,by simp,by simp⟩ h
 simpa using this
theorem W4.done {ops:Array Oper} {wT:List It} (hI:W4 ops wT) {S:Nat→Prop} (hS: ∀(k:Nat) x,wT[k]? =some x→S k→ ∀e,e ∈ x.o.after.toList→uH e=true→S e.on):
 ∀(k:Nat) x,wT[k]? =some x→(∀e,e ∈ x.o.after.toList→uH e=true→S e.on)→ ∀i,x.m.testBit i=true→S i:=by
 intro k
 induction k using Nat.strongRecOn with
 |_ k ih=>
  intro x hx hr i hi
  obtain⟨e,h1,h2,y,h3,h4⟩:=hI.bit k x hx i hi
  have hs:=hr e h1 h2
  rcases h4 with rfl|h4
  ·exact hs
  exact ih e.on (hI.G9 k x hx e h1 h2) y h3 (hS e.on y h3 hs) i h4
theorem k9 {l:List It} {c:It} (h:jU l=some c):c ∈ l∧vX c.o.op=true:=by
 induction l with
 |nil=>cases h
 |cons x l ih=>
  simp only [jU]at h
  cases hx:vX x.o.op with
  |true=>simp only [hx,cond_true,Option.some.injEq]at h;subst h;exact⟨by simp,hx⟩
  |false=>simp only [hx,cond_false]at h;exact⟨by simp [(ih h).1],(ih h).2⟩
theorem k8 {l:List It} (h:jU l=none): ∀x,x ∈ l→vX x.o.op=false:=by
 induction l with
 |nil=>intro x hx;simp at hx
 |cons y l ih=>
  intro x hx
  simp only [jU]at h
  cases hy:vX y.o.op with
  |true=>simp [hy]at h
  |false=>
   simp only [hy,cond_false]at h
   rcases List.mem_cons.1 hx with rfl|hx
   ·exact hy
   exact ih h x hx
theorem Ju (n:Nat):(1<<<n).testBit n=true:=by
 rw [Nat.testBit_shiftLeft]
 simp
theorem pb {l:List It} {x:It} (h:x ∈ l):(bK l).testBit x.i=true:=by
 induction l with
 |nil=>simp at h
 |cons y l ih=>
  simp only [bK,Nat.testBit_or,Bool.or_eq_true]
  rcases List.mem_cons.1 h with rfl|h
  ·exact .inl (Ju _)
  exact .inr (ih h)
theorem Gz {a b i:Nat} (h:Nat.beq (Nat.land a b) 0=true) (hb:b.testBit i=true):a.testBit i=false:=by
 have h0:a &&& b=0:=Nat.eq_of_beq_eq_true h
 have:=congrArg (fun n=>n.testBit i) h0
 simp only [Nat.testBit_and,hb,Bool.and_true,Nat.zero_testBit]at this
 exact this
theorem pw {M:Nat} : ∀ {l:List It} {N:Nat},sr M l=some N→(∀i,M.testBit i=true→N.testBit i=true)∧(∀x,x ∈ l→N.testBit x.i=true)∧l.Pairwise (fun p x=>p.m.testBit x.i=false)∧ ∀p,p ∈ l→ ∀i,M.testBit i=true→p.m.testBit i=false:=by
 intro l
 induction l with
 |nil=>intro N h;cases h;exact⟨fun _ h=>h,fun x h=>by simp at h,.nil,fun p h=>by simp at h⟩
 |cons p l ih=>
  intro N h
  simp only [sr]at h
  split at h
  ·cases h
  rename_i N1 h1
  obtain⟨a1,a2,a3,a4⟩:=ih h1
  cases hb:Nat.beq (Nat.land p.m N1) 0 with
  |false=>rw [hb]at h;cases h
  |true=>
   rw [hb]at h;cases h
   have up: ∀i,N1.testBit i=true→(1<<<p.i|||N1).testBit i=true:=fun i hi=>by rw [Nat.testBit_or,hi,Bool.or_true]
   refine⟨fun i hi=>up i (a1 i hi),fun x hx=> ?_,.cons (fun x hx=>Gz hb (a2 x hx)) a3,fun q hq i hi=> ?_⟩
   ·rcases List.mem_cons.1 hx with rfl|hx
    ·rw [Nat.testBit_or,Ju,Bool.true_or]
    exact up _ (a2 x hx)
   rcases List.mem_cons.1 hq with rfl|hq
   ·exact Gz hb (a1 i hi)
   exact a4 q hq i hi
structure p9 (ops:Array Oper) (wT:List It):Prop where
 look: ∀x,x ∈ wT→ ∀y,y ∈ wT→ ∀d,x.o.dst=some d→ZP ops y.o d=true→y.m.testBit x.i=true
 dst: ∀x,x ∈ wT→ ∀y,y ∈ wT→ ∀d,x.o.dst=some d→y.o.dst=some d→x.i=y.i
theorem nQ: ∀ {l:List It} {W:Tr Nat},xG l=some W→ ∀x,x ∈ l→ ∀d,x.o.dst=some d→W.get d=some x.i:=by
 intro l
 induction l with
 |nil=>intro W _ x hx;simp at hx
 |cons y l ih=>
  intro W h x hx d hd
  simp only [xG]at h
  split at h
  ·cases h
  rename_i W1 h1
  split at h
  ·rename_i hn
   cases h
   rcases List.mem_cons.1 hx with rfl|hx
   ·rw [hn]at hd;cases hd
   exact ih h1 x hx d hd
  rename_i e he
  split at h
  case h_2=>cases h
  rename_i hg
  cases h
  rw [Tr.yh]
  rcases List.mem_cons.1 hx with rfl|hx
  ·rw [he]at hd;cases hd;rw [if_pos rfl]
  have:=ih h1 x hx d hd
  by_cases nV:d=e
  ·subst nV;rw [hg]at this;cases this
  rw [if_neg nV];exact this
theorem dW {ops:Array Oper} {wT:List It} (h:Ue ops wT=true):p9 ops wT:=by
 unfold Ue at h
 split at h
 ·cases h
 rename_i W hW
 have hw:=nQ hW
 simp only [List.all_eq_true,Bool.and_eq_true]at h
 refine⟨fun x hx y hy d hd hl=> ?_,fun x hx y hy d hd he=> ?_⟩
 ·obtain⟨h1,h2⟩:=h y hy
  have hg:=hw x hx d hd
  simp only [ZP,Bool.or_eq_true,List.any_eq_true]at hl
  rcases hl with⟨o,ho,ht⟩|hl
  ·have:=h1 o ho
   cases o with
   |tmp t=>
    have:=Nat.eq_of_beq_eq_true ht
    subst this
    simpa [Dc,tN,hg] using h1 (.tmp t) ho
   |_=>cases ht
  unfold ah at h2
  split at hl
  ·rename_i g want S0
   rw [S0]at h2
   split at hl
   ·rename_i q hq
    simp only [hq]at h2
    split at hl
    ·rename_i e he
     have:=Nat.eq_of_beq_eq_true hl
     subst this
     simpa [he,tN,hg] using h2
    cases hl
   cases hl
  cases hl
 have h1:=hw x hx d hd
 have h2:=hw y hy d he
 rw [h1]at h2
 exact Option.some.inj h2
end Go.Px
section
namespace Go.Px
open Go Go.RowKit
variable {P:Program} {F:zD} {G:(Nat→Int)→Prop} {V:qw} {B:Nat} {w0 w:World} {H:Hp} {ops:Array Oper}
def FG (F:zD) (G:(Nat→Int)→Prop) (ρ:Nat→Int):Prop:=dJ F ρ∧G ρ
def Zq (P:Program) (F:zD) (G:(Nat→Int)→Prop) (B:Nat) (w0:World) (call:FuncId→List z0→Hp→Option (z0×Hp)):Prop:=
 ∀f args H v H',call f args H=some (v,H')→Zr P f∧ ∀V w (uG:Array Value),FG F G V.ρ→yD B w0 V H w→yw V args uG.toList→
  Calls P f uG w fun e w'=> ∃V' v',e= .returned v'∧Ext V V' H H'∧yD B w0 V' H' w'∧zS V' v v'
theorem A5 {T:Tm} {a:Act} {x:Operand} {v:z0} (hT: ∀t,x= .tmp t→ ∀v,Tm.get t T=some v→ ∃u,a.tmps[t]? =some u∧zS V v u) (h:zK T x=some v):zS V v (a.eval x):=by
 cases x with
 |tmp t=>
  obtain⟨u,h1,h2⟩:=hT t rfl v h
  simp only [Act.eval,Array.getD_eq_getD_getElem?,h1]
  exact h2
 |const c=>exact ZY V 4 c v h
 |global g=>cases h
 |func f=>cases h;exact .func f [] [] #[] #[] rfl rfl (fun i u v h=>by simp at h) (fun i u v h=>by simp at h)
theorem Zp {T:Tm} {a:Act} {o:Oper} {b:Bool} (h:zP ops T o=some b)
 (hg: ∀g want q d,o.guard=some (g,want)→ops[g]? =some q→q.dst=some d→ ∀u,Tm.get d T=some u→ ∃v,a.tmps[d]? =some v∧zS V u v):Region.wanted o (yielded ops a.tmps)=b:=by
 unfold zP at h
 unfold Region.wanted
 split at h
 ·rename_i hn;rw [hn];cases h;rfl
 rename_i g want S0
 rw [S0]
 simp only
 split at h
 case h_2=>cases h
 rename_i q hq
 split at h
 case h_2=>cases h
 rename_i d hd
 unfold yielded
 simp only [hq,Option.bind_some,hd]
 split at h
 case h_3=>cases h
 ·rename_i b' hb
  obtain⟨v,h1,h2⟩:=hg g want q d S0 hq hd _ hb
  have:=h2.Wt
  subst this
  cases h
  rw [h1]
  cases b'<;>cases want<;>rfl
 rename_i l hb
 obtain⟨v,h1,h2⟩:=hg g want q d S0 hq hd _ hb
 cases h2
 cases h
 rw [h1]
 rfl
theorem Act.GK (a:Act) (d:Option Tmp) (v:Value):(a.put d v).tmps.size=a.tmps.size:=by cases d<;>simp [Act.put]
theorem Act.UB (a:Act) (d:Option Tmp) (v:Value):(a.put d v).defers=a.defers:=by cases d<;>rfl
theorem m0 {rec:Rec} (hC:Zq P F G B w0 rec.call) (hF:FG F G V.ρ) (hW:yD B w0 V H w) {T:Tm} {a:Act} {o:Oper} {i:Nat} (ho:ops[i]? =some o) (hT:pB V T a o.op.operands)
 (hg: ∀g want q d,o.guard=some (g,want)→ops[g]? =some q→q.dst=some d→ ∀u,Tm.get d T=some u→ ∃v,a.tmps[d]? =some v∧zS V u v)
 {T1:Tm} {H1:Hp} (h:ZS P F rec ops T H o=some (T1,H1)) {Q:Exit→Act→World→Prop} {K:Act→World→Prop}
 (hK: ∀v V' w' v',T1=zp T o.dst v→Ext V V' H H1→yD B w0 V' H1 w'→zS V' v v'→K (a.put o.dst v') w'):wpOp P ops Q i K a w:=by
 unfold ZS at h
 rw [Yc]at h
 unfold wpOp
 simp only [ho]
 split at h
 case h_3=>cases h
 ·rename_i hw
  rw [if_pos (Zp hw hg)]
  refine .inl ?_
  unfold Oper.wp
  split at h
  case h_3=>cases h
  ·rename_i v H' fx
   cases h
   rcases rM hF.1 hW hT fx with⟨v1,H2,V',w',v',h1,hd⟩|⟨f,args,uG,h1,_⟩
   ·cases h1
    have:=hK v V' w' v' rfl hd.ext hd.rel hd.val
    rcases hd.run with hr|⟨hr,rfl⟩
    ·rw [hr];exact this
    rw [hr];exact this
   cases h1
  rename_i f args fx
  split at h
  case h_2=>cases h
  rename_i v H' Rq
  cases h
  rcases rM hF.1 hW hT fx with⟨v1,H2,V',w',v',h1,hd⟩|⟨f',args1,uG,h1,h2,h3⟩
  ·cases h1
  cases h1
  obtain⟨hc,kD⟩:=hC _ _ _ _ _ Rq
  rw [h3 hc]
  show Calls P f uG w _
  refine(kD V w uG hF hW h2).mono fun e w' he=> ?_
  obtain⟨V',v',rfl,h4,h5,h6⟩:=he
  exact hK v V' w' v' rfl h4 h5 h6
 rename_i hw
 cases h
 rw [if_neg (by rw [Zp hw hg];simp)]
 exact hK unit V w undef rfl (.refl V H) hW (jb V)
theorem PV {T:Tm} {V':qw} {a:Act} {d:Option Tmp} {v:z0} {v':Value} (hT:ZX V T a.tmps) (hV:V.le V') (hv:zS V' v v') (hd: ∀t,d=some t→t<a.tmps.size):ZX V' (zp T d v) (a.put d v').tmps:=by
 cases d with
 |none=>exact hT.mono hV
 |some t=>exact(hT.mono hV).put hv (hd t rfl)
theorem AK {rec:Rec} (hC:Zq P F G B w0 rec.call) {Q:Exit→Act→World→Prop} {Tf:Tm} {Hf:Hp} : ∀(l:List Oper) (n:Nat) (T:Tm) (H:Hp) (V:qw) (a:Act) (w:World),(∀k,(ops.toList)[n+k]? =l[k]?)→
 (∀o,o ∈ l→ ∀d,o.dst=some d→d<a.tmps.size)→FG F G V.ρ→yD B w0 V H w→ZX V T a.tmps→Qs P F rec ops l T H=some (Tf,Hf)→
 (∀V' a' w',Ext V V' H Hf→yD B w0 V' Hf w'→ZX V' Tf a'.tmps→a'.tmps.size=a.tmps.size→a'.defers=a.defers→Q .normal a' w')→
 wpOps P ops Q (List.range' n l.length) a w:=by
 intro l
 induction l with
 |nil=>
  intro n T H V a w _ _ hF hW hT h hQ
  cases h
  exact hQ V a w (.refl V _) hW hT rfl rfl
 |cons o os ih=>
  intro n T H V a w hl hs hF hW hT h hQ
  simp only [Qs]at h
  split at h
  case h_2=>cases h
  rename_i T1 H1 UJ
  have ho:ops[n]? =some o:=by have:=hl 0;simpa using this
  have hso:=hs o (by simp)
  rw [List.length_cons,List.range'_succ,wpOps_cons]
  refine m0 hC hF hW ho (hT.looks _) (fun g want q d _ _ _ u hu=>hT d u hu) UJ fun v V' w' v' h1 h2 h3 h4=> ?_
  subst h1
  refine ih (n+1) _ H1 V' _ w' (fun k=> ?_) (fun o' ho'=> ?_) (by rw [h2.le.ρ];exact hF) h3 (PV hT h2.le h4 hso) h fun MN a'' w'' e1 e2 e3 e4 e5=> ?_
  ·have:=hl (k+1)
   rw [show n+1+k=n+(k+1)by omega,this];simp
  ·rw [Act.GK];exact hs o' (by simp [ho'])
  exact hQ MN a'' w'' (h2.trans e1) e2 e3 (by rw [e4,Act.GK]) (by rw [e5,Act.UB])
end Go.Px
end
section
namespace Go.Px
open Go Go.RowKit
variable {P:Program} {F:zD} {V:qw} {B:Nat} {w0 w:World} {H:Hp} {ops:Array Oper}
theorem yD.ghost (hW:yD B w0 V H w) (o:jS):yD B w0 V (H.alloc o) w:=by
 have hn:=(hW.next H.next (Nat.le_refl _)).1
 have UQ: ∀id q,(H.alloc o).t.get id=some q→id=H.next∨H.t.get id=some q:=by
  intro id q h
  simp only [Hp.alloc,Tr.yh]at h
  by_cases e:id=H.next
  ·exact .inl e
  rw [if_neg e]at h;exact .inr h
 refine⟨hW.below,hW.size,fun id ar=> ?_,hW.lt,fun id q b base S h1 h2=> ?_,fun id nZ q q' b b' ba Pj S S' h1 h2 h3 h4=> ?_,hW.fz,hW.GX⟩
 ·have hid':H.next+1≤id:=ar
  have h1:=hW.next id (by omega)
  exact⟨h1.1,by simp only [Hp.alloc,Tr.yh];rw [if_neg (by omega)];exact h1.2⟩
 ·rcases UQ id q h1 with rfl|h1
  ·rw [hn]at h2;cases h2
  exact hW.obj id q b base S h1 h2
 rcases UQ id q h1 with rfl|h1
 ·rw [hn]at h3;cases h3
 rcases UQ nZ q' h2 with rfl|h2
 ·rw [hn]at h4;cases h4
 exact hW.inj id nZ q q' b b' ba Pj S S' h1 h2 h3 h4
theorem Ext.xj (V:qw) (H:Hp) (o:jS):Ext V V H (H.alloc o):=
 ⟨.refl V,fun _ _=>rfl,Nat.le_succ _,fun id hi _=>by simp only [Hp.alloc,Tr.yh];rw [if_neg (by omega)]⟩
theorem yD.oa (hW:yD B w0 V H w) {g:Nat} {o:jS} {x:Obj} {base S:Nat} (hg:V.uD g=none) (hgl:g<H.next) (ho:H.t.get g=some o) (hr:QO V B o w.heap.size base S x):
 yD B w0 (V.bind g (w.heap.size,base,S)) H (w.alloc x):=by
 have hle:=qw.Ye hg (w.heap.size,base,S)
 have j6: ∀id b vW S',(V.bind g (w.heap.size,base,S)).uD id=some (b,vW,S')→(id=g∧b=w.heap.size∧vW=base∧S'=S)∨(id≠g∧V.uD id=some (b,vW,S')∧b<w.heap.size):=by
  intro id b vW S' h
  by_cases e:id=g
  ·subst e;simp [qw.bind]at h;exact .inl ⟨rfl,h.1.symm,h.2.1.symm,h.2.2.symm⟩
  simp [qw.bind,e]at h;exact .inr ⟨e,h,hW.lt _ _ _ _ h⟩
 refine⟨hW.below.alloc hW.size x,by simp;have:=hW.size;omega,fun id ar=> ?_,?_,?_,?_,kc hW.fz (fun k hk=>U2 w x k hk) (jk w x) hr,hW.GX⟩
 ·have h1:=hW.next id ar
  exact⟨by simp [qw.bind,show id≠g by omega,h1.1],h1.2⟩
 ·intro id b vW S' h
  rcases j6 id b vW S' h with⟨_,rfl,_⟩|⟨_,_,h⟩<;>simp<;>omega
 ·intro id q b vW S' h1 h2
  rcases j6 id b vW S' h2 with⟨rfl,rfl,rfl,rfl⟩|⟨wY,my,uE⟩
  ·rw [ho]at h1;cases h1
   exact⟨x,jk w x,hr.mono hle⟩
  obtain⟨y,hy,Sy⟩:=hW.obj id q b vW S' h1 my
  exact⟨y,by rw [U1 w x b uE];exact hy,Sy.mono hle⟩
 intro id nZ o1 o2 b b' BW xQ S1 S2 h1 h2 h3 h4 wY
 rcases j6 _ _ _ _ h3 with⟨rfl,rfl,_⟩|⟨lU,h3',hlt1⟩<;>rcases j6 _ _ _ _ h4 with⟨rfl,rfl,_⟩|⟨Vn,h4',hlt2⟩
 ·exact absurd rfl wY
 ·omega
 ·omega
 exact hW.inj id nZ o1 o2 b b' BW xQ S1 S2 h1 h2 h3' h4' wY
theorem lj {T:Tm} {o:Oper} (ha:wA o.op=true) {r:zN} (h:yd P F T H o=some r): ∃v ob,r= .val v (H.alloc ob):=by
 obtain⟨dst,op,ty,pos,after,guard⟩:=o
 cases op<;>simp only [wA]at ha<;>try (cases ha;done)
 case alloc t=>
  simp only [yd,gS]at h
  split at h
  ·rename_i z _;cases hz:z.isTuple<;>simp only [hz,cond_true,cond_false]at h<;>cases h;exact⟨_,_,rfl⟩
  cases h
 case box t x=>
  simp only [yd,gS]at h
  split at h
  ·rename_i z _;cases hz:z.isTuple<;>simp only [hz,cond_true,cond_false]at h<;>cases h;exact⟨_,_,rfl⟩
  cases h
 case buildSlice t n ps=>
  simp only [yd,vw]at h
  split at h
  ·split at h
   ·rename_i size z _ _
    cases hz:(Nat.beq z.cells.length size && Nat.ble (n*size) 65536 && !z.isTuple)<;>simp only [hz,cond_true,cond_false]at h
    ·cases h
    split at h
    ·cases h;exact⟨_,_,rfl⟩
    cases h
   cases h
  cases h
 case makeMap t x=>
  simp only [yd,gq]at h
  split at h
  ·split at h
   ·cases h;exact⟨_,_,rfl⟩
   ·cases h;exact⟨_,_,rfl⟩
   cases h
  cases h
 case makeChan t x=>
  simp only [yd,jT]at h
  split at h
  ·split at h
   ·rename_i n b _ _
    cases hz:(Nat.ble n 1024 && Nat.ble b yi)<;>simp only [hz,cond_true,cond_false]at h<;>cases h;exact⟨_,_,rfl⟩
   cases h
  cases h
 case makeSlice t x y=>
  simp only [yd,gu]at h
  split at h
  ·split at h
   ·rename_i l c size z bytes _ _ _ _ _
    cases hz:(Nat.beq z.cells.length size && Nat.ble c 65536 && Nat.ble l c && Nat.ble bytes yi && !z.isTuple)<;>simp only [hz,cond_true,cond_false]at h<;>cases h;exact⟨_,_,rfl⟩
   cases h
  cases h
def Flat (f:Hp→Option zN):Prop:= ∃g:Option z0,∀H,f H=zN.qK g H
theorem Flat.all {f:Hp→Option zN} (h:Flat f) {v:z0} {H H1:Hp} (e:f H=some (.val v H1)): ∀H',f H'=some (.val v H'):=by
 obtain⟨g,hg⟩:=h
 intro H'
 rw [hg]at e ⊢
 obtain⟨u,h1,h2⟩:=qP e
 cases h2
 rw [h1];rfl
theorem sf {o:Op} (h:J6 o=true):Zc o=true:=by
 cases o<;>first|rfl|(cases h;done)
theorem AA {T:Tm} {o:Oper} (hp:J6 o.op=true):Flat fun H=>yd P F T H o:=by
 obtain⟨dst,op,ty,pos,after,guard⟩:=o
 have none_:Flat fun _=>none:=⟨none,fun _=>rfl⟩
 have some_: ∀v,Flat fun H=>some (.val v H):=fun v=>⟨some v,fun _=>rfl⟩
 have aN: ∀g,Flat fun H=>zN.qK g H:=fun g=>⟨g,fun _=>rfl⟩
 cases op<;>simp only [J6]at hp<;>try (cases hp;done)
 case move x=>exact aN _
 case assign x=>exact aN _
 case pick c x y=>
  simp only [yd,xc]
  split
  ·exact aN _
  exact none_
 case build t ps=>
  simp only [yd,QW]
  split
  ·split
   ·generalize z0.isTuple _=bb
    cases bb
    ·simp only [cond_false]
     split
     ·split
      ·exact some_ _
      exact none_
     exact none_
    exact none_
   ·generalize z0.isTuple _=bb
    cases bb
    ·simp only [cond_false]
     split
     ·split
      ·exact some_ _
      exact none_
     exact none_
    exact none_
   exact none_
  exact none_
 case nilCheck x=>
  simp only [yd,Zz]
  split
  ·exact some_ _
  ·exact some_ _
  exact none_
 case unOp op t x=>
  simp only [yd,cC]
  split
  ·exact aN _
  exact none_
 case makeInterface t x=>
  simp only [yd,VD]
  split
  ·exact none_
  ·exact some_ _
  exact none_
 case makeFunc f xs ys=>
  simp only [yd,xY]
  split
  ·exact some_ _
  exact none_
 case fieldAddr t x n=>
  simp only [yd,gp]
  split
  ·split
   ·split
    ·exact none_
    ·exact some_ _
    exact none_
   exact none_
  exact none_
 case field t x n=>
  simp only [yd,VC]
  split
  ·split
   ·exact aN _
   exact none_
  exact none_
 case indexAddr t x y=>
  simp only [yd,ud]
  split
  ·split
   ·generalize Nat.blt _ _=bb
    cases bb<;>first|exact none_|exact some_ _
   exact none_
  ·split
   ·generalize Nat.blt _ _=bb
    cases bb<;>first|exact none_|exact some_ _
   exact none_
  exact none_
 case index t x y=>
  simp only [yd,VE]
  split
  ·split
   ·generalize Nat.blt _ _=bb
    cases bb<;>first|exact none_|exact aN _
   exact none_
  ·split
   ·generalize zk _=bb
    cases bb
    ·exact none_
    simp only [cond_true]
    split
    ·exact some_ _
    exact none_
   exact none_
  exact none_
 case extract x n=>
  simp only [yd,Zg]
  split
  ·exact aN _
  exact none_
 case typeAssert x xt t ok=>
  simp only [yd,doAssert]
  split
  ·exact none_
  ·cases ok
   ·exact none_
   simp only [cond_true]
   split
   ·exact some_ _
   exact none_
  ·generalize Nat.beq _ _=bb
   cases bb<;>first|exact none_|exact some_ _
  exact none_
end Go.Px
end
section
namespace Go.Px
open Go Go.RowKit
variable {P:Program} {F:zD} {V:qw} {B:Nat} {w0 w:World} {H:Hp} {ops:Array Oper} {wT:List It}
def JM (T:Tm) (o:Oper) (v:z0):Prop:= ∀d x,o.dst=some d→Tm.get d T=some x→x=v
def Ud (ops:Array Oper) (T' T:Tm) (o:Oper):Prop:= ∀d,ZP ops o d=true→Tm.get d T'=Tm.get d T
theorem pZ {o:Oper} {d:Nat} (h:Operand.tmp d ∈ o.op.operands):ZP ops o d=true:=by
 simp only [ZP,Bool.or_eq_true,List.any_eq_true]
 exact .inl ⟨.tmp d,by simpa using h,by simp [Ld]⟩
theorem GA {o q:Oper} {g d:Nat} {want:Bool} (h1:o.guard=some (g,want)) (h2:ops[g]? =some q) (h3:q.dst=some d):ZP ops o d=true:=by
 simp [ZP,h1,h2,h3]
theorem Ud.zK {T' T:Tm} {o:Oper} (h:Ud ops T' T o) {x:Operand} (hx:x ∈ o.op.operands):zK T' x=zK T x:=by
 cases x with
 |tmp t=>exact h t (pZ hx)
 |_=>rfl
theorem Ud.wanted {T' T:Tm} {o:Oper} (h:Ud ops T' T o):zP ops T' o=zP ops T o:=by
 unfold zP
 cases hg:o.guard with
 |none=>rfl
 |some gw=>
  obtain⟨g,want⟩:=gw
  cases hq:ops[g]? with
  |none=>simp only [hq]
  |some q=>
   cases hd:q.dst with
   |none=>simp only [hq,hd]
   |some d=>simp only [hq,hd,h d (GA hg hq hd)]
inductive PW (P:Program) (F:zD) (ops:Array Oper) (gh:Nat→Nat) (N:Nat) (str:Prop) (T:Tm) (H:Hp) (V:qw) (p:It):Prop
 |off (hw:zP ops T p.o=some false) (hd:JM T p.o unit)
 |made (hw:zP ops T p.o=some true) (ha:wA p.o.op=true) (T':Tm) (H0:Hp) (v:z0) (ob:jS) (hs:Ud ops T' T p.o) (hd:JM T p.o v)
  (he:yd P F T' H0 p.o=some (.val v (H0.alloc ob))) (hn:H0.next=gh p.i) (hN:N≤gh p.i) (hl:gh p.i<H.next) (ho:H.t.get (gh p.i)=some ob) (hv:V.uD (gh p.i)=none)
 |flat (hw:zP ops T p.o=some true) (hp:J6 p.o.op=true) (T':Tm) (v:z0) (hs:Ud ops T' T p.o) (hd:JM T p.o v) (he: ∀H,yd P F T' H p.o=some (.val v H))
 |read (hw:zP ops T p.o=some true) (hr:ZR p.o.op=true) (he:str→ ∃T' v H1,Ud ops T' T p.o∧JM T p.o v∧yd P F T' H p.o=some (.val v H1))
theorem PW.move {gh iO:Nat→Nat} {N:Nat} {str TX:Prop} {T T2:Tm} {H2:Hp} {V2:qw} {p:It} (h:PW P F ops gh N str T H V p)
 (hT: ∀d,ZP ops p.o d=true∨p.o.dst=some d→Tm.get d T2=Tm.get d T) (hg:iO p.i=gh p.i)
 (hH: ∀id,id<H.next→V.uD id=none→H2.t.get id=H.t.get id) (hn:H.next≤H2.next)
 (hV:zP ops T p.o=some true→wA p.o.op=true→gh p.i<H.next→V.uD (gh p.i)=none→V2.uD (gh p.i)=none) (hR:TX→str∧H2=H):PW P F ops iO N TX T2 H2 V2 p:=by
 have Jg:Ud ops T2 T p.o:=fun d hd=>hT d (.inl hd)
 have Cd: ∀T',Ud ops T' T p.o→Ud ops T' T2 p.o:=fun T' h d hd=>by rw [h d hd,hT d (.inl hd)]
 have G0: ∀v,JM T p.o v→JM T2 p.o v:=fun v h d x hd hx=>h d x hd (by rw [←hT d (.inr hd)];exact hx)
 cases h with
 |off hw hd=>exact .off (by rw [Jg.wanted];exact hw) (G0 _ hd)
 |made hw ha T' H0 v ob hs hd he hn' hN hl ho hv=>
  exact .made (by rw [Jg.wanted];exact hw) ha T' H0 v ob (Cd _ hs) (G0 _ hd) he (by rw [hg];exact hn') (by rw [hg];exact hN) (by rw [hg];omega) (by rw [hg,hH _ hl hv];exact ho) (by rw [hg];exact hV hw ha hl hv)
 |flat hw hp T' v hs hd he=>exact .flat (by rw [Jg.wanted];exact hw) hp T' v (Cd _ hs) (G0 _ hd) he
 |read hw hr he=>
  refine .read (by rw [Jg.wanted];exact hw) hr fun s=> ?_
  obtain⟨s1,rfl⟩:=hR s
  obtain⟨T',v,H1,h1,h2,h3⟩:=he s1
  exact⟨T',v,H1,Cd _ h1,G0 _ h2,h3⟩
structure oS (P:Program) (F:zD) (ops:Array Oper) (wT:List It) (B:Nat) (w0:World) (gh:Nat→Nat) (N:Nat) (str:Prop) (qD rest:List It) (T:Tm) (H:Hp) (V:qw) (a:Act) (w:World):Prop where
 Vr:yD B w0 V H w
 inits: ∀x,x ∈ qD∨x ∈ rest→wT[x.i]? =some x
 apart: ∀p x,p ∈ qD→x ∈ rest→p.i≠x.i
 sep: ∀p x,p ∈ qD→x ∈ rest→p.m.testBit x.i=false
 PK: ∀p,p ∈ qD→PW P F ops gh N str T H V p
 gd: ∀p q,p ∈ qD→q ∈ qD→wA p.o.op=true→wA q.o.op=true→zP ops T p.o=some true→zP ops T q.o=some true→p.i≠q.i→gh p.i≠gh q.i
 gl: ∀p,p ∈ qD→wA p.o.op=true→zP ops T p.o=some true→gh p.i<H.next
 pt: ∀t x,Tm.get t T=some x→(∃p,p ∈ qD∧p.o.dst=some t)∨ ∃v,a.tmps[t]? =some v∧zS V x v
theorem JZ {T:Tm} {o:Option Tmp} {v:z0} {d:Nat} (h:o≠some d):Tm.get d (zp T o v)=Tm.get d T:=by
 cases o with
 |none=>rfl
 |some e=>exact Tm.cP e d v T (fun he=>h (by rw [he]))
theorem xi {T:Tm} {o:Option Tmp} {v x:z0} {d:Nat} (h:Tm.get d (zp T o v)=some x):(o=some d∧x=v)∨(o≠some d∧Tm.get d T=some x):=by
 cases o with
 |none=>exact .inr ⟨nofun,h⟩
 |some e=>
  rcases Tm.get_put e d v T x h with⟨rfl,rfl⟩|⟨h1,h2⟩
  ·exact .inl ⟨rfl,rfl⟩
  exact .inr ⟨fun he=>h1 (by cases he;rfl),h2⟩
theorem rV (hA:p9 ops wT) {x p:It} (hx:wT[x.i]? =some x) (hp:wT[p.i]? =some p) (hs:p.m.testBit x.i=false) (wY:p.i≠x.i) (T:Tm) (v:z0):
 ∀d,ZP ops p.o d=true∨p.o.dst=some d→Tm.get d (zp T x.o.dst v)=Tm.get d T:=by
 intro d hd
 refine JZ fun PH=> ?_
 rcases hd with hd|hd
 ·have:=hA.look x (List.mem_of_getElem? hx) p (List.mem_of_getElem? hp) d PH hd
  rw [hs]at this;cases this
 exact wY (hA.dst x (List.mem_of_getElem? hx) p (List.mem_of_getElem? hp) d PH hd).symm
theorem W4.MY (hI:W4 ops wT): ∀(k:Nat) x,wT[k]? =some x→ ∀i,x.m.testBit i=true→i<k:=by
 intro k
 induction k using Nat.strongRecOn with
 |_ k ih=>
  intro x hx i hi
  obtain⟨e,h1,h2,y,h3,h4⟩:=hI.bit k x hx i hi
  have uE:=hI.G9 k x hx e h1 h2
  rcases h4 with rfl|h4
  ·exact uE
  have:=ih e.on uE y h3 i h4;omega
theorem Vb (hI:W4 ops wT) (hA:p9 ops wT) {x:It} (hx:wT[x.i]? =some x) (T:Tm) (v:z0):Ud ops T (zp T x.o.dst v) x.o:=by
 intro d hd
 refine(JZ fun PH=> ?_).symm
 have:=hA.look x (List.mem_of_getElem? hx) x (List.mem_of_getElem? hx) d PH hd
 have:=hI.MY x.i x hx x.i this
 omega
theorem Gl (T:Tm) (o:Oper) (v:z0):JM (zp T o.dst v) o v:=by
 intro d x hd hx
 rcases xi hx with⟨_,h⟩|⟨h,_⟩
 ·exact h
 exact absurd hd h
theorem lF (hI:W4 ops wT) (hA:p9 ops wT) {N:Nat} {a:Act} {T1:Tm} {H1:Hp} : ∀(l qD rest:List It) (gh:Nat→Nat) (T:Tm) (H:Hp),
 oS P F ops wT B w0 gh N False qD (l++rest) T H V a w→l.Pairwise (fun p x=>p.m.testBit x.i=false)→(∀x,x ∈ l→vX x.o.op=false)→(l++rest).Pairwise (fun x y=>x.i≠y.i)→
 (∀p x,p ∈ l→x ∈ rest→p.m.testBit x.i=false)→N≤H.next→Yl P F ops l T H=some (T1,H1)→
 ∃cR,oS P F ops wT B w0 cR N False (qD++l) rest T1 H1 V a w∧Ext V V H H1:=by
 intro l
 induction l with
 |nil=>
  intro qD rest gh T H hM _ _ _ _ _ h
  cases h
  exact⟨gh,by simpa using hM,.refl V _⟩
 |cons x l ih=>
  intro qD rest gh T H hM lW FO wY hsr hN h
  simp only [Yl]at h
  split at h
  case h_2=>cases h
  rename_i T2 H2 ia
  have hx:wT[x.i]? =some x:=hM.inits x (.inr (by simp))
  rw [List.pairwise_cons]at lW
  rw [List.cons_append,List.pairwise_cons]at wY
  have hps: ∀p,p ∈ qD→wT[p.i]? =some p:=fun p hp=>hM.inits p (.inl hp)
  have BV: ∀v p,p ∈ qD→ ∀d,ZP ops p.o d=true∨p.o.dst=some d→Tm.get d (zp T x.o.dst v)=Tm.get d T:=fun v p hp=>
   rV hA hx (hps p hp) (hM.sep p x hp (by simp)) (hM.apart p x hp (by simp)) T v
  have JR: ∀v p,p ∈ qD→Ud ops (zp T x.o.dst v) T p.o:=fun v p hp d hd=>BV v p hp d (.inl hd)
  have go: ∀v iO,T2=zp T x.o.dst v→(∀p,p ∈ qD→iO p.i=gh p.i)→yD B w0 V H2 w→Ext V V H H2→PW P F ops iO N False T2 H2 V x→
   (wA x.o.op=true→zP ops T2 x.o=some true→iO x.i=H.next∧H.next<H2.next)→
   oS P F ops wT B w0 iO N False (qD++ [x]) (l++rest) T2 H2 V a w:=by
   intro v iO Rm hg hW hE hp S6
   subst Rm
   refine⟨hW,fun y hy=> ?_,fun p y hp hy=> ?_,fun p y hp hy=> ?_,fun p xq=> ?_,fun p q hp hq ha hb NT Sw YN=> ?_,fun p hp ha hw=> ?_,fun t u hu=> ?_⟩
   ·rcases hy with hy|hy
    ·rcases List.mem_append.1 hy with hy|hy
     ·exact hps y hy
     simp at hy;subst hy;exact hx
    exact hM.inits y (.inr (by rw [List.cons_append];exact List.mem_cons_of_mem _ hy))
   ·rcases List.mem_append.1 hp with hp|hp
    ·exact hM.apart p y hp (by rw [List.cons_append];exact List.mem_cons_of_mem _ hy)
    simp at hp;subst hp;exact wY.1 y hy
   ·rcases List.mem_append.1 hp with hp|hp
    ·exact hM.sep p y hp (by rw [List.cons_append];exact List.mem_cons_of_mem _ hy)
    simp at hp;subst hp
    rcases List.mem_append.1 hy with hy|hy
    ·exact lW.1 y hy
    exact hsr p y (by simp) hy
   ·rcases List.mem_append.1 xq with xq|xq
    ·exact(hM.PK p xq).move (BV v p xq) (hg p xq) hE.ghost hE.next (fun _ _ _ h=>h) nofun
    simp at xq;subst xq;exact hp
   ·have lt: ∀p,p ∈ qD→wA p.o.op=true→zP ops (zp T x.o.dst v) p.o=some true→iO p.i<H.next:=fun p hp ha hw=>by
     rw [hg p hp];exact hM.gl p hp ha (by rw [←(JR v p hp).wanted];exact hw)
    rcases List.mem_append.1 hp with Cq|Cq<;>rcases List.mem_append.1 hq with hq1|hq1
    ·rw [hg p Cq,hg q hq1]
     exact hM.gd p q Cq hq1 ha hb (by rw [←(JR v p Cq).wanted];exact NT) (by rw [←(JR v q hq1).wanted];exact Sw) YN
    ·have SZ:q=x:=by simpa using hq1
     have h1:=lt p Cq ha NT
     have h2:=(S6 (SZ▸hb) (SZ▸Sw)).1
     rw [SZ];omega
    ·have LU:p=x:=by simpa using Cq
     have h1:=lt q hq1 hb Sw
     have h2:=(S6 (LU▸ha) (LU▸NT)).1
     rw [LU];omega
    have LU:p=x:=by simpa using Cq
    have SZ:q=x:=by simpa using hq1
    exact absurd (by rw [LU,SZ]) YN
   ·rcases List.mem_append.1 hp with hp|hp
    ·have h1:=hM.gl p hp ha (by rw [←(JR v p hp).wanted];exact hw)
     have h2:=hE.next
     rw [hg p hp];omega
    simp at hp;subst hp
    have:=S6 ha hw
    omega
   rcases xi hu with⟨h1,_⟩|⟨_,h2⟩
   ·exact .inl ⟨x,by simp,h1⟩
   rcases hM.pt t u h2 with⟨p,hp,hpd⟩|h3
   ·exact .inl ⟨p,by simp [hp],hpd⟩
   exact .inr h3
  have tail: ∀iO,oS P F ops wT B w0 iO N False (qD++ [x]) (l++rest) T2 H2 V a w→Ext V V H H2→ ∃cR,oS P F ops wT B w0 cR N False (qD++x::l) rest T1 H1 V a w∧Ext V V H H1:=by
   intro iO Vk hE
   obtain⟨cR,h1,h2⟩:=ih (qD++ [x]) rest iO T2 H2 Vk lW.2 (fun y hy=>FO y (by simp [hy])) wY.2 (fun p y hp hy=>hsr p y (by simp [hp]) hy) (Nat.le_trans hN hE.next) h
   exact⟨cR,by simpa using h1,hE.trans h2⟩
  have xp:=FO x (by simp)
  unfold YJ at ia
  rw [Yc]at ia
  split at ia
  case h_3=>cases ia
  ·rename_i hw
   split at ia
   case h_2=>cases ia
   rename_i v H' fx
   have PF:zP ops (zp T x.o.dst v) x.o=some true:=by rw [←(Vb hI hA hx T v).wanted];exact hw
   cases ha:wA x.o.op with
   |true=>
    rw [ha]at ia
    simp only [cond_true,Option.some.injEq,Prod.mk.injEq]at ia
    obtain⟨rfl,rfl⟩:=ia
    obtain⟨v1,ob,h1⟩:=lj ha fx
    cases h1
    have hn:=hM.Vr.next H.next (Nat.le_refl _)
    have z16:(H.alloc ob).t.get H.next=some ob:=by simp [Hp.alloc,Tr.yh]
    refine tail (fun i=>if i=x.i then H.next else gh i) (go v _ rfl (fun p hp=>by simp [hM.apart p x hp (by simp)]) (hM.Vr.ghost ob) (.xj V H ob) ?_ (fun _ _=>⟨by simp,Nat.lt_succ_self _⟩)) (.xj V H ob)
    exact .made PF ha T H v ob (Vb hI hA hx T v) (Gl T x.o v) fx (by simp) (by simpa using hN) (by simp [Hp.alloc]) (by simpa using z16) (by simpa using hn.1)
   |false=>
    rw [ha]at ia
    simp only [cond_false,Option.some.injEq,Prod.mk.injEq]at ia
    obtain⟨rfl,rfl⟩:=ia
    refine tail gh (go v gh rfl (fun _ _=>rfl) hM.Vr (.refl V H) ?_ (fun h=>by rw [ha]at h;cases h)) (.refl V H)
    cases hp:J6 x.o.op with
    |true=>exact .flat PF hp T v (Vb hI hA hx T v) (Gl T x.o v) ((AA hp).all fx)
    |false=>
     have hq:Zc x.o.op=true:=by simpa [vX,ha] using xp
     exact .read PF (by simp [ZR,hq,hp]) nofun
  rename_i hw
  cases ia
  have PF:zP ops (zp T x.o.dst unit) x.o=some false:=by rw [←(Vb hI hA hx T unit).wanted];exact hw
  exact tail gh (go unit gh rfl (fun _ _=>rfl) hM.Vr (.refl V H) (.off PF (Gl T x.o unit)) (fun _ h=>by rw [PF]at h;cases h)) (.refl V H)
theorem J2 {e:z0→z0→Bool} (he: ∀a b,e a b=true→a=b): ∀ {x y:List z0},Ql e x y=true→x=y:=by
 intro x
 induction x with
 |nil=>intro y h;cases y with
  |nil=>rfl
  |cons=>cases h
 |cons a x ih=>intro y h;cases y with
  |nil=>cases h
  |cons b y=>
   simp only [Ql,Bool.and_eq_true]at h
   rw [he a b h.1,ih h.2]
theorem BU: ∀(n:Nat) (a b:z0),ju n a b=true→a=b:=by
 intro n
 induction n with
 |zero=>intro a b h;cases h
 |succ n ih=>
  intro a b h
  unfold ju at h
  split at h<;>first
   |(cases h;done)
   |(rfl;done)
   |(simp only [beq_iff_eq]at h;subst h;rfl)
   |(have:=(Yj _ _).1 h;subst this;rfl)
   |(have:=J2 ih h;subst this;rfl)
   |(simp only [Bool.and_eq_true,Nat.beq_eq]at h;obtain⟨h1,h2,h3⟩:=h;rw [h1,J2 ih h2,J2 ih h3])
   |(simp only [Bool.and_eq_true,Wv,ZA,Nat.beq_eq]at h;simp only [h];done)
   |(simp only [Bool.and_eq_true,Nat.beq_eq]at h;obtain⟨h1,h2⟩:=h;rw [h1,ih _ _ h2])
   |(simp only [Nat.beq_eq]at h;subst h;rfl)
theorem Fi {a b:z0} (h:Vi a b=true):a=b:=BU 4 a b h
theorem pE {gh:Nat→Nat} {N:Nat} {qD rest:List It} {T:Tm} {a:Act} (hM:oS P F ops wT B w0 gh N False qD rest T H V a w) (h: ∀p,p ∈ qD→ZR p.o.op=true→vt P F ops T H p.o=true):
 oS P F ops wT B w0 gh N True qD rest T H V a w:=by
 refine⟨hM.Vr,hM.inits,hM.apart,hM.sep,fun p hp=> ?_,hM.gd,hM.gl,hM.pt⟩
 cases hM.PK p hp with
 |off hw hd=>exact .off hw hd
 |made hw ha T' H0 v ob hs hd he hn hN hl ho hv=>exact .made hw ha T' H0 v ob hs hd he hn hN hl ho hv
 |flat hw xq T' v hs hd he=>exact .flat hw xq T' v hs hd he
 |read hw hr _=>
  refine .read hw hr fun _=> ?_
  have ha:=h p hp hr
  unfold vt at ha
  rw [hw,Yc]at ha
  simp only at ha
  split at ha
  ·rename_i v H1 fx
   refine⟨T,v,H1,fun _ _=>rfl,fun d x hd hx=> ?_,fx⟩
   rw [hd]at ha
   simp only [hx]at ha
   exact Fi ha
  cases ha
end Go.Px
end
section
namespace Go.Px
open Go Go.RowKit
variable {P:Program} {F:zD} {V:qw} {B:Nat} {w0 w:World} {H:Hp} {ops:Array Oper} {wT:List It}
theorem Kf (f g:It→Bool): ∀l:List It,(∀x,x ∈ l→f x=true→g x=false)→(l.filter f).length+(l.filter g).length≤l.length:=by
 intro l
 induction l with
 |nil=>intro _;simp
 |cons x l ih=>
  intro h
  have:=ih fun y hy=>h y (by simp [hy])
  have hx:=h x (by simp)
  simp only [List.filter_cons]
  cases hf:f x with
  |true=>simp only [hx hf,if_true,List.length_cons,Bool.false_eq_true,if_false];omega
  |false=>cases hg:g x<;>simp only [if_true,List.length_cons,Bool.false_eq_true,if_false]<;>omega
theorem Ad (f g:It→Bool) (c:It): ∀l:List It,c ∈ l→f c=false→g c=false→(∀x,x ∈ l→f x=true→g x=false)→(l.filter f).length+(l.filter g).length+1≤l.length:=by
 intro l
 induction l with
 |nil=>intro h;simp at h
 |cons x l ih=>
  intro hc Cj hgc h
  rcases List.mem_cons.1 hc with rfl|hc
  ·have:=Kf f g l fun y hy=>h y (by simp [hy])
   simp only [List.filter_cons,Cj,hgc,Bool.false_eq_true,if_false,List.length_cons];omega
  have:=ih hc Cj hgc fun y hy=>h y (by simp [hy])
  have hx:=h x (by simp)
  simp only [List.filter_cons]
  cases hf:f x with
  |true=>simp only [hx hf,if_true,List.length_cons,Bool.false_eq_true,if_false];omega
  |false=>cases hg:g x<;>simp only [if_true,List.length_cons,Bool.false_eq_true,if_false]<;>omega
inductive MD (P:Program) (F:zD) (rec:Rec) (ops:Array Oper) (qD rest:List It) (T:Tm) (H:Hp) (Tf:Tm) (Hf:Hp):Prop
 |last (hr:rest= []) (hT:T=Tf) (hH:H=Hf)
 |next (c:It) (R:List It) (n:Nat) (prev:List It) (ss:List vZ) (T1:Tm) (H1:Hp) (hr:rest=c::R) (hc:ZS P F rec ops T H c.o=some (T1,H1)) (hs:Wz n prev R=some ss)
  (dP:ve P F rec ops ss T1 H1=some (Tf,Hf)) (Ch: ∀x,x ∈ R→x.m.testBit c.i=true∧c.m.testBit x.i=false∧x.i≠c.i) (xr: ∀p,p ∈ qD→ZR p.o.op=true→c.m.testBit p.i=false→p ∈ prev)
  (B0:R.Pairwise (fun x y=>x.i≠y.i))
theorem enter (hI:W4 ops wT) (hA:p9 ops wT) {rec:Rec} {N:Nat} {a:Act} {Tf:Tm} {Hf:Hp} {n:Nat} {prev rest qD:List It} {ss:List vZ} {gh:Nat→Nat} {T:Tm}
 (hs:Wz n prev rest=some ss) (dP:ve P F rec ops ss T H=some (Tf,Hf)) (hM:oS P F ops wT B w0 gh N False qD rest T H V a w) (B0:rest.Pairwise (fun x y=>x.i≠y.i))
 (xr: ∀p,p ∈ qD→ZR p.o.op=true→p ∈ prev) (hN:N≤H.next):
 ∃cR Jo Jq T1 H1,oS P F ops wT B w0 cR N True Jo Jq T1 H1 V a w∧Ext V V H H1∧MD P F rec ops Jo Jq T1 H1 Tf Hf∧(∀x,(x ∈ Jo∨x ∈ Jq)↔(x ∈ qD∨x ∈ rest))∧Jo.length+Jq.length≤qD.length+rest.length:=by
 cases n with
 |zero=>cases hs
 |succ n=>
 simp only [Wz]at hs
 have ND: ∀x,x ∈ rest→wT[x.i]? =some x:=fun x hx=>hM.inits x (.inr hx)
 have same: ∀x y,x ∈ rest→y ∈ rest→x.i=y.i→x=y:=fun x y hx hy e=>by
  have h1:=ND x hx
  have h2:=ND y hy
  rw [e,h2]at h1;cases h1;rfl
 split at hs
 ·rename_i Cj
  cases hsep:sr 0 rest with
  |none=>rw [hsep]at hs;cases hs
  |some M0=>
  rw [hsep]at hs;cases hs
  simp only [ve]at dP
  split at dP
  ·cases dP
  rename_i T1 H1 Qc
  cases hag:(prev++rest.filter fun x=>ZR x.o.op).all fun x=>vt P F ops T1 H1 x.o with
  |false=>rw [hag]at dP;cases dP
  |true=>
  rw [hag]at dP;cases dP
  obtain⟨cR,VJ,hE⟩:=lF hI hA rest qD [] gh T H (by simpa using hM) (pw hsep).2.2.1 (k8 Cj) (by simpa using B0) (fun p x _ hx=>by simp at hx) hN Qc
  rw [List.all_eq_true]at hag
  refine⟨cR,qD++rest,[],_,_,pE VJ (fun p hp hr=>hag p ?_),hE,.last rfl rfl rfl,fun x=>by simp,by simp⟩
  rcases List.mem_append.1 hp with hp|hp
  ·exact List.mem_append_left _ (xr p hp hr)
  exact List.mem_append_right _ (List.mem_filter.2 ⟨hp,hr⟩)
 rename_i c Cj
 obtain⟨XN,Wo⟩:=k9 Cj
 generalize hW:rest.filter (fun x=> !vX x.o.op && !(Nat.testBit x.m c.i))=W at hs
 generalize hR:rest.filter (fun x=> !(Nat.beq x.i c.i) && (vX x.o.op||Nat.testBit x.m c.i))=R at hs
 cases hchk:(((sr (bK (c::R)) W).isSome && Nat.beq (Nat.land c.m (bK R)) 0) && R.all (fun x=>Nat.testBit x.m c.i))with
 |false=>rw [hchk]at hs;cases hs
 |true=>
 rw [hchk]at hs
 simp only [cond_true]at hs
 split at hs
 case h_2=>cases hs
 rename_i ss' hss
 cases hs
 simp only [Bool.and_eq_true,List.all_eq_true]at hchk
 obtain⟨⟨Se,hcR⟩,hRc⟩:=hchk
 obtain⟨M0,hM0⟩:=Option.isSome_iff_exists.1 Se
 obtain⟨_,_,Sd,Sc⟩:=pw hM0
 have A0: ∀x,x ∈ W↔x ∈ rest∧vX x.o.op=false∧x.m.testBit c.i=false:=by
  intro x;rw [←hW,List.mem_filter];simp
 have iz: ∀x,x ∈ R↔x ∈ rest∧x.i≠c.i∧(vX x.o.op=true∨x.m.testBit c.i=true):=by
  intro x;rw [←hR,List.mem_filter]
  simp only [Bool.and_eq_true,Bool.not_eq_true',Bool.or_eq_true]
  refine⟨fun⟨h1,h2,h3⟩=>⟨h1,fun e=> ?_,h3⟩,fun⟨h1,h2,h3⟩=>⟨h1,?_,h3⟩⟩
  ·rw [e]at h2;simp at h2
  cases hb:Nat.beq x.i c.i with
  |false=>rfl
  |true=>exact absurd (Nat.eq_of_beq_eq_true hb) h2
 have parts: ∀x,x ∈ rest→x ∈ W∨x=c∨x ∈ R:=by
  intro x hx
  by_cases hi:x.i=c.i
  ·exact .inr (.inl (same x c hx XN hi))
  cases xp:vX x.o.op with
  |true=>exact .inr (.inr ((iz x).2 ⟨hx,hi,.inl xp⟩))
  |false=>
   cases hb:x.m.testBit c.i with
   |true=>exact .inr (.inr ((iz x).2 ⟨hx,hi,.inr hb⟩))
   |false=>exact .inl ((A0 x).2 ⟨hx,xp,hb⟩)
 have back: ∀x,x ∈ W++(c::R)→x ∈ rest:=by
  intro x hx
  rcases List.mem_append.1 hx with hx|hx
  ·exact((A0 x).1 hx).1
  rcases List.mem_cons.1 hx with rfl|hx
  ·exact XN
  exact((iz x).1 hx).1
 have Pr: ∀p x,p ∈ W→x ∈ c::R→p.i≠x.i:=by
  intro p x hp hx e
  have LU:=same p x ((A0 p).1 hp).1 (back x (List.mem_append_right _ hx)) e
  obtain⟨_,h1,h2⟩:=(A0 p).1 hp
  rcases List.mem_cons.1 hx with hx|hx
  ·rw [LU,hx,Wo]at h1;cases h1
  obtain⟨_,_,h3⟩:=(iz x).1 hx
  rw [←LU,h1,h2]at h3
  simp at h3
 have z1I:W.Pairwise (fun x y=>x.i≠y.i):=hW▸B0.filter _
 have SH:R.Pairwise (fun x y=>x.i≠y.i):=hR▸B0.filter _
 have z1H:(c::R).Pairwise (fun x y=>x.i≠y.i):=List.pairwise_cons.2 ⟨fun x hx=>((iz x).1 hx).2.1.symm,SH⟩
 have hM':oS P F ops wT B w0 gh N False qD (W++(c::R)) T H V a w:=
  ⟨hM.Vr,fun x hx=>hM.inits x (hx.imp id (back x)),fun p x hp hx=>hM.apart p x hp (back x hx),fun p x hp hx=>hM.sep p x hp (back x hx),hM.PK,hM.gd,hM.gl,hM.pt⟩
 simp only [ve]at dP
 split at dP
 ·cases dP
 rename_i T1 H1 Qc
 cases hag:(prev++W.filter fun x=>ZR x.o.op).all fun x=>vt P F ops T1 H1 x.o with
 |false=>rw [hag]at dP;cases dP
 |true=>
 rw [hag]at dP
 simp only [cond_true]at dP
 split at dP
 case h_2=>cases dP
 rename_i T2 H2 UJ
 obtain⟨cR,VJ,hE⟩:=lF hI hA W qD (c::R) gh T H hM' Sd (fun x hx=>((A0 x).1 hx).2.1)
  (List.pairwise_append.2 ⟨z1I,z1H,fun p hp x hx=>Pr p x hp hx⟩) (fun p x hp hx=>Sc p hp _ (pb hx)) hN Qc
 rw [List.all_eq_true]at hag
 have inA: ∀p,p ∈ qD++W→ZR p.o.op=true→p ∈ prev++W.filter fun x=>ZR x.o.op:=by
  intro p hp hr
  rcases List.mem_append.1 hp with hp|hp
  ·exact List.mem_append_left _ (xr p hp hr)
  exact List.mem_append_right _ (List.mem_filter.2 ⟨hp,hr⟩)
 refine⟨cR,qD++W,c::R,T1,H1,pE VJ (fun p hp hr=>hag p (inA p hp hr)),hE,
  .next c R n _ ss' T2 H2 rfl UJ hss dP (fun x hx=> ?_) (fun p hp hr hb=>List.mem_filter.2 ⟨inA p hp hr,by simp [hb]⟩) SH,fun x=> ?_,?_⟩
 ·have:=hRc x hx
  exact⟨this,Gz hcR (pb hx),((iz x).1 hx).2.1⟩
 ·constructor
  ·rintro (hx|hx)
   ·rcases List.mem_append.1 hx with hx|hx
    ·exact .inl hx
    exact .inr ((A0 x).1 hx).1
   exact .inr (back x (List.mem_append_right _ hx))
  rintro (hx|hx)
  ·exact .inl (List.mem_append_left _ hx)
  rcases parts x hx with h|rfl|h
  ·exact .inl (List.mem_append_right _ h)
  ·exact .inr (by simp)
  exact .inr (by simp [h])
 have h3:=Ad (fun x=> !vX x.o.op && !(Nat.testBit x.m c.i)) (fun x=> !(Nat.beq x.i c.i) && (vX x.o.op||Nat.testBit x.m c.i)) c rest XN (by simp [Wo]) (by simp) (fun x _ hx=>by
  simp only [Bool.and_eq_true,Bool.not_eq_true']at hx
  simp [hx.1,hx.2])
 rw [hW,hR]at h3
 simp only [List.length_append,List.length_cons]
 omega
structure PU (wT:List It) (qD rest:List It) (listed:Array Bool):Prop where
 size:listed.size=wT.length
 ct: ∀x,wT[x.i]? =some x→(listed.getD x.i false=true↔ ¬(x ∈ qD∨x ∈ rest))
 closed: ∀(k:Nat) x,wT[k]? =some x→listed.getD k false=true→ ∀e,e ∈ x.o.after.toList→uH e=true→listed.getD e.on false=true
theorem PU.add {qD rest rQ Ls:List It} {listed:Array Bool} (h:PU wT qD rest listed) {x:It} (hx:wT[x.i]? =some x) (hr: ∀e,e ∈ x.o.after.toList→uH e=true→listed.getD e.on false=true)
 (hm: ∀y,wT[y.i]? =some y→((y ∈ rQ∨y ∈ Ls)↔((y ∈ qD∨y ∈ rest)∧y.i≠x.i))):PU wT rQ Ls (listed.setIfInBounds x.i true):=by
 have uE:x.i<listed.size:=by rw [h.size];exact(List.getElem?_eq_some_iff.1 hx).1
 have Sb:(listed.setIfInBounds x.i true).getD x.i false=true:=by simp [uE]
 refine⟨by simpa using h.size,fun y hy=> ?_,fun k y hy hl e he hb=> ?_⟩
 ·by_cases hyx:y.i=x.i
  ·rw [hyx,Sb,hm y hy]
   simp [hyx]
  rw [getD_set_ne false (fun e=>hyx e.symm),h.ct y hy,hm y hy]
  simp [hyx]
 by_cases hyx:k=x.i
 ·subst hyx
  rw [hx]at hy;cases hy
  exact getD_set_true (hr e he hb)
 rw [getD_set_ne false (fun e=>hyx e.symm)]at hl
 exact getD_set_true (h.closed k y hy hl e he hb)
theorem J9 (hI:W4 ops wT) (hlen:wT.length=ops.size) {listed:Array Bool} (Y2:listed.size=wT.length) {i:Nat} :i ∈ Region.ready .any ops listed↔
 ∃x,wT[i]? =some x∧x.i=i∧ops[i]? =some x.o∧listed.getD i false=false∧ ∀e,e ∈ x.o.after.toList→uH e=true→listed.getD e.on false=true:=by
 rw [mem_ready]
 constructor
 ·rintro ⟨h1,o,h2,h3⟩
  have uE:i<wT.length:=by rw [hlen];exact(Array.getElem?_eq_some_iff.1 h2).1
  have hx:wT[i]? =some (wT[i]'uE):=by simp [uE]
  obtain⟨h4,h5⟩:=hI.at_ i _ hx
  rw [h2]at h5
  cases h5
  refine⟨_,hx,h4,h2,?_,fun e he hb=>h3 e (by simpa using he) (by rw [JS];exact hb)⟩
  have:i<listed.size:=by omega
  simpa [this] using h1
 rintro ⟨x,h1,h2,h3,h4,h5⟩
 have:i<listed.size:=by rw [Y2];exact(List.getElem?_eq_some_iff.1 h1).1
 exact⟨by simpa [this] using h4,x.o,h3,fun e he hb=>h5 e (by simpa using he) (by rw [←JS];exact hb)⟩
end Go.Px
end
