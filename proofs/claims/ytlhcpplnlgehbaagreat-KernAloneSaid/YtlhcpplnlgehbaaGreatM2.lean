/- Part of the proof: PQuiet6, PQuiet7, PAlloc, PWrite, PAppend, PCopy, POp, PRun, PPlan, PStep, PGhost, PDraw, PDraw2. Names and blanks are cut short to keep within the size of a claim. -/
import Derived.Laws.Build
import Derived.Lib.AppendZeros
import Derived.Orders
import Derived.Test.YtlhcpplnlgehbaaGreatM1
set_option linter.unusedVariables false
set_option linter.unusedSimpArgs false
section
namespace Go.Px
open Go Go.RowKit
variable {P:Program} {F:z9} {V:qS} {B:Nat} {w0 w:World} {H:Hp}
theorem V9: ∀(l:List AVal) (o:Nat) (vs:List AVal),(wr l o vs).length=l.length:=by
 intro l
 induction l with
 |nil=>intro o vs;simp [wr]
 |cons c l ih=>
  intro o vs
  cases o with
  |succ o=>simp [wr,ih]
  |zero=>cases vs<;>simp [wr,ih]
theorem Ue: ∀(l:List AVal) (o:Nat) (vs:List AVal) (i:Nat),(wr l o vs)[i]? =if o≤i∧i<o+vs.length∧i<l.length then vs[i-o]? else l[i]? :=by
 intro l
 induction l with
 |nil=>intro o vs i;simp [wr]
 |cons c l ih=>
  intro o vs i
  cases o with
  |succ o=>
   cases i with
   |zero=>simp [wr]
   |succ i=>
    simp only [wr,List.getElem?_cons_succ,ih,List.length_cons]
    by_cases h:o≤i∧i<o+vs.length∧i<l.length
    ·rw [if_pos h,if_pos (by omega)];congr 1;omega
    rw [if_neg h,if_neg (by omega)]
  |zero=>
   cases vs with
   |nil=>simp [wr]
   |cons v vs=>
    cases i with
    |zero=>simp [wr]
    |succ i=>
     simp only [wr,List.getElem?_cons_succ,ih,List.length_cons,Nat.sub_zero]
     by_cases h:0≤i∧i<0+vs.length∧i<l.length
     ·rw [if_pos h,if_pos (by omega)]
     rw [if_neg h,if_neg (by omega)]
theorem nC (off:Nat): ∀(vs:List (Value×Nat)) (cs:Array Value),(vs.foldl (fun cs (x:Value×Nat)=>cs.setIfInBounds (off+x.2) x.1) cs).size=cs.size:=by
 intro vs
 induction vs with
 |nil=>intro cs;rfl
 |cons x vs ih=>intro cs;simp [ih]
theorem sZ (off:Nat): ∀(vs:List Value) (k:Nat) (cs:Array Value) (i:Nat),((vs.zipIdx k).foldl (fun cs (x:Value×Nat)=>cs.setIfInBounds (off+x.2) x.1) cs)[i]? =if off+k≤i∧i<off+k+vs.length∧i<cs.size then vs[i-(off+k)]? else cs[i]? :=by
 intro vs
 induction vs with
 |nil=>intro k cs i;simp only [List.zipIdx_nil,List.foldl_nil,List.length_nil,Nat.add_zero];rw [if_neg (by omega)]
 |cons v vs ih=>
  intro k cs i
  simp only [List.zipIdx_cons,List.foldl_cons,ih,Array.size_setIfInBounds,List.length_cons]
  by_cases h1:off+(k+1)≤i∧i<off+(k+1)+vs.length∧i<cs.size
  ·rw [if_pos h1,if_pos (by omega)]
   rw [show i-(off+k)=(i-(off+(k+1)))+1 by omega]
   simp
  rw [if_neg h1]
  by_cases h2:i=off+k
  ·subst h2
   by_cases h3:off+k<cs.size
   ·rw [if_pos (by omega)];simp [h3]
   rw [if_neg (by omega),Array.getElem?_eq_none (by simp;omega),Array.getElem?_eq_none (by omega)]
  rw [if_neg (by omega),Array.getElem?_setIfInBounds_ne (Ne.symm h2)]
theorem gm {v:AVal} {u:Value} (h:zL V v u) (ht:v.isTuple=false): ∀x,x ∈ v.cells→x.isCell=true:=by
 cases h<;>first
  |(cases ht;done)
  |(intro x hx;simp only [AVal.cells,List.mem_singleton]at hx;subst hx;rfl)
  |(rename_i hc;exact hc)
def YG (V:qS) (l:List (Nat×AVal)) (m:List (Nat×Value)):Prop:=l.map (·.1)=m.map (·.1)∧yX V (l.map (·.2)) (m.map (·.2))
theorem V3 {T:Tm} {a:Act} : ∀ {l:List (Nat×Operand)} {vs:List (Nat×AVal)},(∀x,x ∈ l.map (·.2)→ ∀v,opnd T x=some v→zL V v (a.eval x))→wT T l=some vs→YG V vs (l.map fun(i,x)=>(i,a.eval x))∧ ∀p,p ∈ vs→ ∀u,u ∈ p.2.cells→u.isCell=true:=by
 intro l
 induction l with
 |nil=>intro vs _ h;cases h;exact⟨⟨rfl,.nil⟩,fun p hp=>by simp at hp⟩
 |cons x xs ih=>
  intro vs hl h
  obtain⟨i,x⟩:=x
  simp only [wT]at h
  cases h1:opnd T x with
  |none=>rw [h1]at h;cases h
  |some v=>
   rw [h1]at h
   cases ht:v.isTuple with
   |true=>simp only [ht,cond_true]at h;cases h
   |false=>
    simp only [ht,cond_false]at h
    cases h2:wT T xs with
    |none=>rw [h2]at h;cases h
    |some us=>
     rw [h2]at h;cases h
     obtain⟨h3,h4⟩:=ih (fun y hy=>hl y (by rw [List.map_cons];exact List.mem_cons_of_mem _ hy)) h2
     have hv:=hl x (by simp) v h1
     refine⟨⟨by simp [h3.1],.cons hv h3.2⟩,fun p hp=> ?_⟩
     rcases List.mem_cons.1 hp with rfl|hp
     ·exact gm hv ht
     exact h4 p hp
theorem QL {place:Nat→Option (Nat×Nat)} : ∀(l:List (Nat×AVal)) (m:List (Nat×Value)) (cs:List AVal) (x:Array Value) (out:List AVal),YG V l m→yX V cs x.toList→(∀u,u ∈ cs→u.isCell=true)→
 (∀p,p ∈ l→ ∀u,u ∈ p.2.cells→u.isCell=true)→ZB place cs l=some out→ ∃y,Instr.fill place x m=some y∧yX V out y.toList∧(∀u,u ∈ out→u.isCell=true)∧out.length=cs.length:=by
 intro l
 induction l with
 |nil=>
  intro m cs x out hp hl hc _ h
  cases h
  have:m= []:=by have:=hp.1;cases m<;>simp_all
  subst this
  exact⟨x,rfl,hl,hc,rfl⟩
 |cons p l ih=>
  intro m cs x out hp hl hc hpc h
  obtain⟨i,v⟩:=p
  cases m with
  |nil=>have:=hp.1;simp at this
  |cons q m=>
   obtain⟨j,u⟩:=q
   have hij:i=j:=by have:=hp.1;simp at this;exact this.1
   subst hij
   have hvu:zL V v u:=by have:=hp.2;simp only [List.map_cons]at this;cases this;assumption
   have hp':YG V l m:=⟨by have:=hp.1;simp at this;exact this,by have:=hp.2;simp only [List.map_cons]at this;cases this;assumption⟩
   simp only [ZB]at h
   split at h
   ·cases h
   rename_i off size hpl
   cases hb:Nat.beq v.cells.length size && Nat.ble (off+size) cs.length with
   |false=>rw [hb]at h;cases h
   |true=>
    rw [hb]at h
    simp only [cond_true]at h
    rw [Bool.and_eq_true]at hb
    have h1:=Nat.eq_of_beq_eq_true hb.1
    have h2:=Nat.le_of_ble_eq_true hb.2
    have hcl:=hvu.cells
    have hsz:u.cells.size=size:=by rw [hvu.cells_size,h1]
    have hlen:=hl.length
    have hlen':cs.length=x.size:=by simpa using hlen
    have hstep:Instr.fill place x ((i,u)::m)=Instr.fill place (u.cells.zipIdx.foldl (fun cs (c,j)=>cs.setIfInBounds (off+j) c) x) m:=by
     simp only [Instr.fill,hpl]
     rw [if_neg]
     simp [hsz]
     omega
    rw [hstep]
    refine ih m (wr cs off v.cells) _ out hp' ?_ ?_ (fun p hp=>hpc p (by simp [hp])) h|>.imp fun y hy=>⟨hy.1,hy.2.1,hy.2.2.1,by rw [hy.2.2.2,V9]⟩
    ·have hfold:(u.cells.zipIdx.foldl (fun cs (c,j)=>cs.setIfInBounds (off+j) c) x)=((u.cells.toList.zipIdx 0).foldl (fun cs (x:Value×Nat)=>cs.setIfInBounds (off+x.2) x.1) x):=by
      rw [←Array.foldl_toList,Array.toList_zipIdx]
     rw [hfold]
     refine yX.of ?_ fun n a b ha hb=> ?_
     ·rw [V9,Array.length_toList];exact hlen'.trans (nC off _ x).symm
     rw [Ue]at ha
     rw [Array.getElem?_toList,sZ]at hb
     have e3:u.cells.toList.length=v.cells.length:=hcl.length.symm
     by_cases hc1:off≤n∧n<off+v.cells.length∧n<cs.length
     ·rw [if_pos hc1]at ha
      rw [if_pos (by omega)]at hb
      exact hcl.pt _ a b ha hb
     rw [if_neg hc1]at ha
     rw [if_neg (by omega)]at hb
     exact hl.pt n a b ha (by simpa using hb)
    intro a ha
    obtain⟨n,hn⟩:=List.mem_iff_getElem?.1 ha
    rw [Ue]at hn
    split at hn
    ·exact hpc (i,v) (by simp) a (List.mem_of_getElem? hn)
    exact hc a (List.mem_of_getElem? hn)
end Go.Px
end
section
namespace Go.Px
open Go Go.RowKit
variable {P:Program} {F:z9} {V:qS} {B:Nat} {w0 w:World} {H:Hp}
theorem kS: ∀(l:List Field) (pl:List (Nat×Nat)),YB P l=some pl→ ∀w,(l.mapM fun f=>(do pure (f.offset,←sizeOf f.type):Sem (Nat×Nat))).run P w= .ok pl w:=by
 intro l
 induction l with
 |nil=>intro pl h w;cases h;simp
 |cons f l ih=>
  intro pl h w
  simp only [YB]at h
  split at h
  ·cases h
  rename_i n hn
  split at h
  ·cases h
  rename_i pl' hp
  cases h
  rw [List.mapM_cons]
  simp only [Sem.run_bind,yf hn,Result.andThen_ok,Sem.run_pure,ih pl' hp w]
theorem GN {t:TypeId} {l:Option (List (Nat×AVal))} {m:Array (Nat×Value)} {r:zH} (hl: ∀x,l=some x→YG V x m.toList∧ ∀p,p ∈ x→ ∀u,u ∈ p.2.cells→u.isCell=true)
 (h:Zb P t (qk P t) l H=some r) (w:World): ∃v v',r= .val v H∧zL V v v'∧(Instr.build t m).run P w= .ok v' w:=by
 unfold Zb at h
 split at h
 ·rename_i z l hz
  obtain⟨zv,rz,hzr⟩:=uQ (P:=P) hz
  obtain⟨hp,hpc⟩:=hl l rfl
  have hzc:=(hzr V).cells
  split at h
  ·rename_i fs hu
   cases ht:z.isTuple with
   |true=>simp only [ht,cond_true]at h;cases h
   |false=>
   simp only [ht,cond_false]at h
   split at h
   ·rename_i pl hpl
    split at h
    ·rename_i cs hf
     cases h
     have harr:(fun(i:Nat)=>pl[i]?)=(fun(i:Nat)=>pl.toArray[i]?):=by funext i;simp
     rw [harr]at hf
     obtain⟨y,h1,h2,h3,_⟩:=QL l m.toList z.cells zv.cells cs hp hzc (gm (hzr V) ht) hpc hf
     refine⟨.agg cs,.agg y,rfl,zL.aggA h2 h3,?_⟩
     simp only [Instr.build,Sem.run_bind,rz,Result.andThen_ok,zK hu]
     rw [Array.mapM_eq_mapM_toList]
     simp only [Sem.run_map,kS fs.toList pl hpl w,Result.andThen_ok,h1,Sem.run_pure]
    cases h
   cases h
  ·rename_i n e hu
   cases ht:z.isTuple with
   |true=>simp only [ht,cond_true]at h;cases h
   |false=>
   simp only [ht,cond_false]at h
   split at h
   ·rename_i size hs
    split at h
    ·rename_i cs hf
     cases h
     obtain⟨y,h1,h2,h3,_⟩:=QL l m.toList z.cells zv.cells cs hp hzc (gm (hzr V) ht) hpc hf
     refine⟨.agg cs,.agg y,rfl,zL.aggA h2 h3,?_⟩
     simp only [Instr.build,Sem.run_bind,rz,Result.andThen_ok,zK hu,yf hs,h1,Sem.run_pure]
    cases h
   cases h
  cases h
 cases h
theorem GS {t:TypeId} {x:OV} {r:zH} {u:Value} (hx: ∀v,x=some v→zL V v u) (h:Yu P t x H=some r) (w:World):
 ∃v v',r= .val v H∧zL V v v'∧(Instr.makeInterface t u).run P w= .ok v' w:=by
 unfold Yu at h
 split at h
 ·cases h
 ·rename_i v d hne hu
  cases h
  refine⟨_,_,rfl,.iface t v u (hx v rfl),?_⟩
  simp only [Instr.makeInterface,Sem.run_bind,zK hu,Result.andThen_ok,Sem.run_pure]
 cases h
theorem VY {x:OV} {n:Nat} {r:zH} {u:Value} (hx: ∀v,x=some v→zL V v u) (h:gj x n H=some r) (w:World):
 ∃v v',r= .val v H∧zL V v v'∧(Instr.extract u n).run P w= .ok v' w:=by
 unfold gj at h
 split at h
 ·rename_i vs
  obtain⟨y,rfl,hl⟩:=(hx _ rfl).inv_tuple
  obtain⟨v,hv,rfl⟩:=yq h
  obtain⟨v',h1,h2⟩:=hl.at n v hv
  have h1':y[n]? =some v':=by simpa using h1
  exact⟨v,v',rfl,h2,by simp [Instr.extract,h1']⟩
 cases h
theorem Ui {x:OV} {xt t:TypeId} {ok:Bool} {r:zH} {u:Value} (hx: ∀v,x=some v→zL V v u) (h:YA P x t ok H=some r) (w:World):
 ∃v v',r= .val v H∧zL V v v'∧(Instr.typeAssert u xt t ok).run P w= .ok v' w:=by
 unfold YA at h
 split at h
 ·cases h
 ·rename_i d hne hu
  cases hx _ rfl
  cases ok with
  |false=>cases h
  |true=>
   simp only [cond_true]at h
   split at h
   ·rename_i z hz
    cases h
    obtain⟨zv,rz,hzr⟩:=uQ (P:=P) hz
    refine⟨_,.tuple #[zv,.bool false],rfl,zL.tupleA (.cons (hzr V) (.cons (.bool false) .nil)),?_⟩
    cases d<;>first
     |exact absurd rfl (hne _)
     |simp [Instr.typeAssert,zK hu,rz]
   cases h
 ·rename_i t' v d hne hu
  have hv:=hx _ rfl
  cases hv with
  |iface _ _ u' hv=>
  cases he:Nat.beq t' t with
  |false=>rw [he]at h;cases h
  |true=>
   rw [he]at h
   have he:=Nat.eq_of_beq_eq_true he
   subst he
   cases h
   cases ok with
   |true=>
    refine⟨_,.tuple #[u',.bool true],rfl,zL.tupleA (.cons hv (.cons (.bool true) .nil)),?_⟩
    cases d<;>first
     |exact absurd rfl (hne _)
     |simp [Instr.typeAssert,zK hu]
   |false=>
    refine⟨_,u',rfl,hv,?_⟩
    cases d<;>first
     |exact absurd rfl (hne _)
     |simp [Instr.typeAssert,zK hu]
 cases h
theorem wX (V:qS) (n:Nat):zL V (YM n) (goInt n):= .int .i64 (.lit (.ofNat n))
theorem pq (hW:zt B w0 V H w) {t ty:TypeId} {ts:Array TypeId} {x:AVal} {u:Value} {us:Array Value} (hts:ts[0]? =some t) (hus:us[0]? =some u) (hx:zL V x u) {v:AVal} (h:tO P H t x=some v):
 ∃v',zL V v v'∧(Builtin.len_ ts ty us).run P w= .ok v' w:=by
 unfold tO at h
 split at h
 ·rename_i s hu
  obtain⟨q,rfl,hq⟩:=hx.inv_str
  cases hb:zZ s with
  |false=>rw [hb]at h;cases h
  |true=>
   rw [hb]at h;cases h
   exact⟨_,wX V _,by simp [Builtin.len_,hts,hus,zK hu,Y0 hb hq]⟩
 ·rename_i n e hu
  cases h
  exact⟨_,wX V _,by simp [Builtin.len_,hts,hus,zK hu]⟩
 ·rename_i e a n c es hu
  cases h
  cases hx with
  |sliceN es=>exact⟨_,wX V _,by simp [Builtin.len_,hts,hus,zK hu]⟩
  |slice=>exact⟨_,wX V _,by simp [Builtin.len_,hts,hus,zK hu]⟩
  |sliceE=>exact⟨_,wX V _,by simp [Builtin.len_,hts,hus,zK hu]⟩
  |sliceR=>exact⟨_,wX V _,by simp [Builtin.len_,hts,hus,zK hu]⟩
 ·rename_i k e hu
  cases h
  cases hx
  exact⟨_,wX V _,by simp [Builtin.len_,hts,hus,zK hu]⟩
 ·rename_i k e i hu
  split at h
  ·rename_i es clock hm
   cases h
   obtain⟨b,base,S,hb,rfl⟩:=hx.inv_map
   obtain⟨_,ms,hms,hmr,_⟩:=gu hW hb hm
   have:es.length=ms.size:=by simpa using hmr.1
   exact⟨_,wX V _,by simp [Builtin.len_,hts,hus,zK hu,wS hms,this]⟩
  cases h
 ·rename_i d e i hu
  split at h
  ·rename_i cap buf s r ho
   cases h
   cases hx with
   |chan _ b base S hb=>
    obtain⟨x,hxx,hr⟩:=hW.obj i _ b base S ho hb
    cases hr with
    |chan _ _ _ _ _ _ _ x hB hl=>
     have:buf.length=x.size:=by simpa using hl.length
     refine⟨_,wX V _,?_⟩
     have hg:(getObj b).run P w= .ok (.chan cap x false s r false) w:=by simp [getObj,Sem.run,hxx]
     simp [Builtin.len_,hts,hus,zK hu,hg,this]
  cases h
 cases h
theorem zL.inv_func {f:FuncId} {x y:List AVal} {v:Value} (h:zL V (.func f x y) v): ∃p q,v= .func (.func f) p q:=by
 cases h with
 |func _ _ _ p q=>exact⟨p,q,rfl⟩
theorem Uh {f:AVal→AVal→Option AVal} {g:Value→Value→Sem Value} (hfg: ∀a b c u v,f a b=some c→zL V a u→zL V b v→ ∃c',zL V c c'∧(g u v).run P w= .ok c' w):
 ∀(xs:List AVal) (us:List Value) (x c:AVal) (u:Value),yX V xs us→zL V x u→GF f x xs=some c→ ∃c',zL V c c'∧(us.foldlM g u).run P w= .ok c' w:=by
 intro xs
 induction xs with
 |nil=>intro us x c u hl hx h;cases hl;cases h;exact⟨u,hx,by simp⟩
 |cons y xs ih=>
  intro us x c u hl hx h
  cases hl with
  |cons hy hl=>
   simp only [GF]at h
   split at h
   ·rename_i z hz
    obtain⟨z',h1,h2⟩:=hfg _ _ _ _ _ hz hx hy
    obtain⟨c',h3,h4⟩:=ih _ _ _ _ hl h1 h
    exact⟨c',h3,by simp [List.foldlM_cons,h2,h4]⟩
   cases h
theorem dh (hF:GG F V.ρ) (a b c:AVal) (u v:Value) (h:oD F a b=some c) (ha:zL V a u) (hb:zL V b v): ∃c',zL V c c'∧(Builtin.min2 u v).run P w= .ok c' w:=by
 unfold oD at h
 split at h
 ·rename_i k s j q
  obtain rfl:=ha.inv_int
  obtain rfl:=hb.inv_int
  split at h
  ·rename_i e
   cases h
   have:=zU.lt_ev hF e
   refine⟨_,.int k q,?_⟩
   have:q.ev V.ρ<s.ev V.ρ:=of_decide_eq_true this.symm
   simp [Builtin.min2,this]
  ·rename_i e
   cases h
   have:=zU.lt_ev hF e
   refine⟨_,.int k s,?_⟩
   have: ¬q.ev V.ρ<s.ev V.ρ:=of_decide_eq_false this.symm
   simp [Builtin.min2,this]
  cases h
 cases h
theorem pE (hF:GG F V.ρ) (a b c:AVal) (u v:Value) (h:eo F a b=some c) (ha:zL V a u) (hb:zL V b v): ∃c',zL V c c'∧(Builtin.max2 u v).run P w= .ok c' w:=by
 unfold eo at h
 split at h
 ·rename_i k s j q
  obtain rfl:=ha.inv_int
  obtain rfl:=hb.inv_int
  split at h
  ·rename_i e
   cases h
   have:=zU.lt_ev hF e
   refine⟨_,.int k q,?_⟩
   have:q.ev V.ρ>s.ev V.ρ:=of_decide_eq_true this.symm
   simp [Builtin.max2,this]
  ·rename_i e
   cases h
   have:=zU.lt_ev hF e
   refine⟨_,.int k s,?_⟩
   have: ¬q.ev V.ρ>s.ev V.ρ:=of_decide_eq_false this.symm
   simp [Builtin.max2,this]
  cases h
 cases h
def k8:Builtin→Bool
 | .len=>true
 | .cap=>true
 | .min=>true
 | .max=>true
 |_=>false
theorem GU (hF:GG F V.ρ) (hW:zt B w0 V H w) {b:Builtin} (hb:k8 b=true) {ts:Array TypeId} {ty:TypeId} {cs:Array Bool} {args:List AVal} {us:Array Value} (hl:yX V args us.toList) {r:zH}
 (h:yI P F b ts.toList H args=some r): ∃v v',r= .val v H∧zL V v v'∧(builtin b ts ty cs us).run P w= .ok (.value v') w:=by
 cases b<;>simp only [k8]at hb<;>try (cases hb;done)
 ·
  simp only [yI]at h
  split at h
  ·rename_i t ts' a n c es as ht
   obtain⟨q,e1,e2⟩:=hl.at 0 _ rfl
   have ht':ts[0]? =some t:=by
    have:ts.toList[0]? =some t:=by rw [ht];rfl
    simpa using this
   have hu':us[0]? =some q:=by simpa using e1
   split at h
   ·rename_i e hu
    cases h
    cases e2 with
    |sliceN es=>exact⟨_,goInt 0,rfl,wX V 0,by simp [builtin,Builtin.cap_,ht',hu',zK hu]⟩
    |slice i off len _ _ b base S c' hb' hl' hc' hS=>
     have:=hc' c rfl
     subst this
     exact⟨_,goInt c',rfl,wX V c',by simp [builtin,Builtin.cap_,ht',hu',zK hu]⟩
    |sliceR i off len _ _ b base S c' _ hb' _ hl' hc' _=>
     have:=hc' c rfl
     subst this
     exact⟨_,goInt c',rfl,wX V c',by simp [builtin,Builtin.cap_,ht',hu',zK hu]⟩
    |sliceE i off _ b base S o c' _ hb' hc' ho' hS=>
     obtain⟨rfl,rfl⟩:=hc' c rfl
     exact⟨_,goInt 0,rfl,wX V 0,by simp [builtin,Builtin.cap_,ht',hu',zK hu]⟩
   cases h
  cases h
 ·
  simp only [yI]at h
  split at h
  ·rename_i t ts' x as ht
   obtain⟨v,hv,rfl⟩:=yq h
   obtain⟨q,e1,e2⟩:=hl.at 0 _ rfl
   have ht':ts[0]? =some t:=by
    have:ts.toList[0]? =some t:=by rw [ht];rfl
    simpa using this
   have hu':us[0]? =some q:=by simpa using e1
   obtain⟨v',h1,h2⟩:=pq hW (ty:=ty) ht' hu' e2 hv
   exact⟨v,v',rfl,h1,by simp [builtin,h2]⟩
  cases h
 ·
  simp only [yI]at h
  split at h
  ·rename_i x xs
   obtain⟨v,hv,rfl⟩:=yq h
   cases hu:us.toList with
   |nil=>rw [hu]at hl;cases hl
   |cons u us'=>
    rw [hu]at hl
    cases hl with
    |cons hx hl=>
     obtain⟨v',h1,h2⟩:=Uh (P:=P) (w:=w) (pE hF) xs us' x v u hl hx hv
     exact⟨v,v',rfl,h1,by simp [builtin,Builtin.max_,hu,h2]⟩
  cases h
 ·
  simp only [yI]at h
  split at h
  ·rename_i x xs
   obtain⟨v,hv,rfl⟩:=yq h
   cases hu:us.toList with
   |nil=>rw [hu]at hl;cases hl
   |cons u us'=>
    rw [hu]at hl
    cases hl with
    |cons hx hl=>
     obtain⟨v',h1,h2⟩:=Uh (P:=P) (w:=w) (dh hF) xs us' x v u hl hx hv
     exact⟨v,v',rfl,h1,by simp [builtin,Builtin.min_,hu,h2]⟩
  cases h
def gb:Op→Bool
 | .move _| .assign _| .pick .. | .build .. | .load .. | .nilCheck _| .binOp .. | .unOp .. | .convert .. | .makeInterface .. | .makeFunc .. | .slice .. | .fieldAddr .. | .field .. | .indexAddr ..
 | .index .. | .lookup .. | .extract .. | .typeAssert .. =>true
 | .call c=>match c.callee with
  | .builtin b=>k8 b
  |_=>false
 |_=>false
theorem WD {T:Tm} {a:Act} {x:Option Operand} (hT: ∀y,x=some y→ ∀v,opnd T y=some v→zL V v (a.eval y)) (hn:x.map (opnd T)≠some none):ZT V ((x.map (opnd T)).getD none) (x.map a.eval):=by
 cases x with
 |none=>exact .none
 |some x=>
  simp only [Option.map_some]at hn ⊢
  cases hx:opnd T x with
  |none=>rw [hx]at hn;exact absurd rfl hn
  |some v=>exact .some (hT x rfl v hx)
theorem YN (hF:GG F V.ρ) (hW:zt B w0 V H w) {T:Tm} {a:Act} {o:Oper} (hT:J5 V T a o.op.operands) (hq:gb o.op=true) {r:zH} (h:yJ P F T H o=some r):
 ∃v v',r= .val v H∧zL V v v'∧(execOp a.eval o).run P w= .ok (.value v') w:=by
 obtain⟨dst,op,ty,pos,after,guard⟩:=o
 have ev: ∀ {x:Operand},x ∈ op.operands→ ∀v,opnd T x=some v→zL V v (a.eval x):=fun hx v h=>hT _ hx v h
 clear hT
 have lift: ∀ {s:Sem Value} {r:zH},(∃v v',r= .val v H∧zL V v v'∧s.run P w= .ok v' w)→(execOp a.eval ⟨dst,op,ty,pos,after,guard⟩)=(do pure (.value (←s)))→
  ∃v v',r= .val v H∧zL V v v'∧(execOp a.eval ⟨dst,op,ty,pos,after,guard⟩).run P w= .ok (.value v') w:=by
  intro s r ⟨v,v',h1,h2,h3⟩ e
  exact⟨v,v',h1,h2,by rw [e];simp [h3]⟩
 cases op<;>simp only [gb]at hq<;>try (cases hq;done)
 case move x=>
  obtain⟨v,hv,rfl⟩:=yq h
  exact⟨v,_,rfl,ev (by simp [Op.operands]) _ hv,rfl⟩
 case assign x=>
  obtain⟨v,hv,rfl⟩:=yq h
  exact⟨v,_,rfl,ev (by simp [Op.operands]) _ hv,rfl⟩
 case pick c x y=>
  simp only [yJ,Un]at h
  split at h
  ·rename_i b hc
   obtain⟨v,hv,rfl⟩:=yq h
   have hc':=(ev (x:=c) (by simp [Op.operands]) _ hc).inv_bool
   cases b with
   |true=>exact⟨v,_,rfl,ev (by simp [Op.operands]) _ hv,by simp [execOp,hc',asBool]⟩
   |false=>exact⟨v,_,rfl,ev (by simp [Op.operands]) _ hv,by simp [execOp,hc',asBool]⟩
  cases h
 case build t parts=>
  refine lift (GN (m:=parts.map fun(i,x)=>(i,a.eval x)) (fun x hx=> ?_) h w) rfl
  have:=V3 (a:=a) (V:=V) (fun y hy=>ev (by simpa [Op.operands] using hy)) hx
  simpa using this
 case load t x=>exact lift (Jc hW (ev (by simp [Op.operands])) h) rfl
 case nilCheck x=>
  simp only [yJ,j5]at h
  split at h
  ·rename_i p hx
   cases h
   obtain⟨i,off⟩:=p
   have hv:=ev (by simp [Op.operands]) _ hx
   obtain⟨b,base,S,hb,he⟩:=hv.inv_ptr
   exact⟨_,_,rfl,hv,by simp [execOp,he]⟩
  ·rename_i f x' y' hx
   cases h
   have hv:=ev (by simp [Op.operands]) _ hx
   obtain⟨p,q,he⟩:=hv.inv_func
   exact⟨_,_,rfl,hv,by simp [execOp,he]⟩
  cases h
 case binOp op t x y yt=>
  obtain⟨z,z',h1,h2,h3,h4⟩:=dB (x:=x) (y:=y) hF hW (ev (by simp [Op.operands])) (ev (by simp [Op.operands])) h
  exact⟨z,z',h1,h2,by simp [execOp,h3,h4]⟩
 case unOp op t x=>exact lift (p9 hF (ev (by simp [Op.operands])) h w) rfl
 case convert s d x=>exact lift (kD hF (ev (by simp [Op.operands])) h w) rfl
 case makeInterface t x=>exact lift (GS (ev (by simp [Op.operands])) h w) rfl
 case makeFunc f xs ys=>
  simp only [yJ,UY]at h
  split at h
  ·rename_i f u v hu hv
   cases h
   have h1:=jv (a:=a) (V:=V) (fun y hy=>ev (by simp [Op.operands];left;simpa using hy)) hu
   have h2:=jv (a:=a) (V:=V) (fun y hy=>ev (by simp [Op.operands];right;simpa using hy)) hv
   refine⟨_,_,rfl,?_,rfl⟩
   exact .func f u v _ _ (by simpa using h1.length) (by simpa using h2.length) (fun i p q hp hq=>h1.pt i p q hp (by simpa using hq)) (fun i p q hp hq=>h2.pt i p q hp (by simpa using hq))
  cases h
 case slice t x lo hi mx=>
  simp only [yJ,qr]at h
  split at h
  ·cases h
  ·cases h
  ·cases h
  ·rename_i l1 l2 l3 v hx h1 h2 h3
   obtain⟨z,hz,rfl⟩:=yq h
   obtain⟨z',h4,h5⟩:=kh hW (ev (by simp [Op.operands]) _ hx) (WD (fun y hy=>ev (by simp [Op.operands,hy])) h1) (WD (fun y hy=>ev (by simp [Op.operands,hy])) h2) (WD (fun y hy=>ev (by simp [Op.operands,hy])) h3) hz
   exact⟨z,z',rfl,h4,by simp [execOp,h5]⟩
  cases h
 case fieldAddr t x n=>exact lift (Qc (ev (by simp [Op.operands])) h w) rfl
 case field t x n=>exact lift (GT (ev (by simp [Op.operands])) h w) rfl
 case indexAddr t x y=>exact lift (Qf (ev (by simp [Op.operands])) (ev (by simp [Op.operands])) h w) rfl
 case index t x y=>exact lift (GY (ev (by simp [Op.operands])) (ev (by simp [Op.operands])) h w) rfl
 case lookup t x k ok=>exact lift (G0 hF hW (ev (by simp [Op.operands])) (ev (by simp [Op.operands])) h) rfl
 case extract x n=>exact lift (VY (ev (by simp [Op.operands])) h w) rfl
 case typeAssert x xt t ok=>exact lift (Ui (ev (by simp [Op.operands])) h w) rfl
 case call c=>
  obtain⟨callee,args,ats⟩:=c
  cases callee<;>simp only at hq<;>try (cases hq;done)
  case builtin b=>
   simp only [yJ,yU]at h
   split at h
   ·rename_i as has
    have hl:=jv (a:=a) (V:=V) (fun y hy=>ev (by simp [Op.operands,Call.operands];simpa using hy)) has
    have:=GU (ty:=ty) (cs:=args.map fun| .const _=>true|_=>false) (us:=args.map a.eval) hF hW hq (by simpa using hl) h
    obtain⟨v,v',h1,h2,h3⟩:=this
    refine⟨v,v',h1,h2,?_⟩
    simp only [execOp,resolve,Sem.run_bind,Sem.run_pure,Result.andThen_ok,invoke]
    exact h3
   cases h
end Go.Px
end
section
namespace Go.Px
open Go Go.RowKit
variable {P:Program} {F:z9} {V:qS} {B:Nat} {w0 w:World} {H:Hp}
def Q4 (P:Program) (V:qS) (B:Nat) (H:Hp) (w:World) (r:zH) (s:Sem Value):Prop:=
 ∃v ob x base S v',r= .val v (H.alloc ob)∧s.run P w= .ok v' (w.alloc x)∧Zd V B ob w.heap.size base S x∧
  ∀V',V.le V'→V'.blk H.next=some (w.heap.size,base,S)→zL V' v v'
theorem uc (o:Obj) (w:World):(newObj o).run P w= .ok w.heap.size (w.alloc o):=by
 simp [newObj,Sem.run]
theorem W3 {v:AVal} {u:Value} (hv:zL V v u) (ht:v.isTuple=false) (hB:B≤w.heap.size) (t:TypeId):
 Q4 P V B H w (.val (.ptr (some (H.next,0))) (wC H v.cells)) (do pure (.pointer (some (←newVar t u)))):=by
 refine⟨_,newRow v.cells,.cells u.cells t,0,v.cells.length,.pointer (some ⟨w.heap.size,0,none⟩),rfl,?_,?_,?_⟩
 ·simp [newVar,Go.newRow]
 ·have:=jL (B:=B) hv.cells (gm hv ht) w.heap.size v.cells.length t [] hB (by simp)
  simpa using this
 intro V' _ h
 have:=zL.ptr (V:=V') H.next 0 _ _ _ h
 simpa using this
theorem JP {z:AVal} {t:TypeId} (hz:qk P t=some z) (hB:B≤w.heap.size) {r:zH} (h:vt (some z) H=some r):Q4 P V B H w r (Instr.alloc t true (.tuple #[])):=by
 obtain⟨zv,rz,hzr⟩:=uQ (P:=P) hz
 simp only [vt]at h
 cases ht:z.isTuple with
 |true=>rw [ht]at h;cases h
 |false=>
  rw [ht]at h;cases h
  obtain⟨v,ob,x,base,S,v',h1,h2,h3,h4⟩:=W3 (P:=P) (H:=H) (hzr V) ht hB t
  exact⟨v,ob,x,base,S,v',h1,by simpa [Instr.alloc,rz] using h2,h3,h4⟩
theorem bX {x:OV} {u:Value} (hx: ∀v,x=some v→zL V v u) (hB:B≤w.heap.size) (t:TypeId) {r:zH} (h:vt x H=some r):Q4 P V B H w r (Instr.box t u):=by
 unfold vt at h
 split at h
 ·rename_i v
  cases ht:v.isTuple with
  |true=>rw [ht]at h;cases h
  |false=>
   rw [ht]at h;cases h
   exact W3 (hx v rfl) ht hB t
 cases h
theorem uF (cs:List AVal): ∀n,(yA cs n).length=n*cs.length:=by
 intro n
 induction n with
 |zero=>simp [yA]
 |succ n ih=>simp [yA,ih,Nat.add_mul,Nat.add_comm]
theorem de (cs:List AVal): ∀n i,i<n*cs.length→(yA cs n)[i]? =cs[i%cs.length]? :=by
 intro n
 induction n with
 |zero=>intro i h;omega
 |succ n ih=>
  intro i h
  simp only [yA]
  by_cases hi:i<cs.length
  ·rw [List.getElem?_append_left hi,Nat.mod_eq_of_lt hi]
  rw [List.getElem?_append_right (by omega),ih _ (by rw [Nat.add_mul]at h;omega),←Nat.mod_eq_sub_mod (by omega)]
theorem gG {z:AVal} {zv:Value} (hz:zL V z zv) (n:Nat) (q:Array Value) (hq:n*z.cells.length≠0→q=zv.cells):
 yX V (yA z.cells n) ((Array.range (n*z.cells.length)).map (q[· %q.size]!)).toList:=by
 have hc:=hz.cells
 refine yX.of (by rw [uF];simp) fun i a b ha hb=> ?_
 have hi:i<n*z.cells.length:=by have:=(List.getElem?_eq_some_iff.1 ha).1;rw [uF]at this;exact this
 rw [de _ _ _ hi]at ha
 obtain rfl:=hq (by omega)
 have hsz:zv.cells.size=z.cells.length:=hz.cells_size
 obtain⟨b',h1,h2⟩:=hc.at _ a ha
 have hlt:i%z.cells.length<zv.cells.size:=by
  have:=(List.getElem?_eq_some_iff.1 ha).1
  omega
 have hb':zv.cells[i%zv.cells.size]! =b':=by
  rw [hsz]
  rw [getElem!_pos zv.cells _ hlt]
  rw [Array.getElem?_toList]at h1
  exact(Array.getElem?_eq_some_iff.1 h1).2
 simp [hi]at hb
 rw [hb']at hb
 subst hb
 exact h2
theorem VB {cs:List AVal} (hc: ∀u,u ∈ cs→u.isCell=true): ∀n u,u ∈ yA cs n→u.isCell=true:=by
 intro n
 induction n with
 |zero=>intro u h;simp [yA]at h
 |succ n ih=>intro u h;simp only [yA,List.mem_append]at h;exact h.elim (hc u) (ih u)
theorem QP {t:TypeId} {len:Nat} {l:Option (List (Nat×AVal))} {m:Array (Nat×Value)} {r:zH} (hB:B≤w.heap.size) (hl: ∀x,l=some x→YG V x m.toList∧ ∀p,p ∈ x→ ∀u,u ∈ p.2.cells→u.isCell=true)
 (h:wg P t len l H=some r):Q4 P V B H w r (Instr.buildSlice t len m):=by
 unfold wg at h
 split at h
 ·rename_i e l hu
  obtain⟨hp,hpc⟩:=hl l rfl
  split at h
  ·rename_i size z hs hz
   obtain⟨zv,rz,hzr⟩:=uQ (P:=P) hz
   cases hb:Nat.beq z.cells.length size && Nat.ble (len*size) 65536 && !z.isTuple with
   |false=>rw [hb]at h;cases h
   |true=>
    rw [hb]at h
    simp only [cond_true]at h
    simp only [Bool.and_eq_true,Bool.not_eq_true']at hb
    obtain⟨⟨hb1,hb2⟩,ht⟩:=hb
    have hb1:=Nat.eq_of_beq_eq_true hb1
    have hb2:=Nat.le_of_ble_eq_true hb2
    split at h
    ·rename_i cs hf
     cases h
     have zc:=gm (hzr V) ht
     let q:Array Value:=if len*size=0 then #[]else zv.cells
     have hq:len*z.cells.length≠0→q=zv.cells:=fun hne=>by show(if len*size=0 then #[]else zv.cells)=_;rw [if_neg (by rw [←hb1];exact hne)]
     have hrl:=gG (hzr V) len q hq
     rw [hb1]at hrl
     obtain⟨y,h1,h2,h3,h4⟩:=QL l m.toList _ _ cs hp hrl (VB zc len) hpc hf
     have hlen:cs.length=len*size:=by rw [h4,uF,hb1]
     refine⟨_,newRow cs,.cells y e,0,cs.length,.slice (some ⟨w.heap.size,0,none⟩) len len,rfl,?_,?_,?_⟩
     ·simp only [Instr.buildSlice,Sem.run_bind,zK hu,Result.andThen_ok,yf hs]
      rw [if_neg (by simp only [Nat.reducePow];omega)]
      by_cases h0:len*size=0
      ·have hq0:q= #[]:=if_pos h0
       rw [hq0]at h1
       rw [if_pos h0]
       simp only [Sem.run_bind,Sem.run_pure,Result.andThen_ok,h1,Go.newRow,uc]
      have hq0:q=zv.cells:=if_neg h0
      rw [hq0]at h1
      rw [if_neg h0]
      simp only [Sem.run_bind,Sem.run_pure,Result.andThen_ok,rz,h1,Go.newRow,uc]
     ·have:=jL (B:=B) h2 h3 w.heap.size cs.length e [] hB (by simp)
      simpa using this
     intro V' _ hV
     have:=zL.slice (V:=V') H.next 0 len (some len) size _ _ _ len hV (Nat.le_refl _) (fun k hk=>by cases hk;rfl) (by omega)
     simpa using this
    cases h
  cases h
 cases h
theorem VU {t:TypeId} {x:Option OV} {u:Option Value} (hB:B≤w.heap.size) (hx: ∀y,x=some (some y)→ ∃v,u=some v∧zL V y v) (hn:x=none→u=none) {r:zH} (h:uI P t x H=some r):
 Q4 P V B H w r (Instr.makeMap t u):=by
 have fin: ∀(hr:(Instr.makeMap t u).run P w= .ok (.map (some w.heap.size)) (w.alloc (.map #[] 0))),Q4 P V B H w (.val (.map (some H.next)) (H.alloc (.map [] 0))) (Instr.makeMap t u):=fun hr=>
  ⟨_,.map [] 0,.map #[] 0,0,0,_,rfl,hr,.map [] 0 _ 0 0 #[] hB rfl (fun i e m h=>by simp at h),fun V' _ hV=> .map H.next _ _ _ hV⟩
 unfold uI at h
 split at h
 ·rename_i k e hu
  split at h
  ·cases h
   rw [hn rfl]
   rw [hn rfl]at fin
   exact fin (by simp [Instr.makeMap])
  ·rename_i k' s
   cases h
   obtain⟨v,rfl,hv⟩:=hx _ rfl
   obtain rfl:=hv.inv_int
   exact fin (by simp [Instr.makeMap,zK hu,asInt,asIntOf])
  cases h
 cases h
theorem WG {t:TypeId} {x:OV} {u:Value} (hB:B≤w.heap.size) (hx: ∀v,x=some v→zL V v u) {r:zH} (h:um P t x H=some r):
 Q4 P V B H w r (Instr.makeChan t u):=by
 unfold um at h
 split at h
 ·rename_i d e v hu
  split at h
  ·rename_i n bytes hn hby
   obtain⟨k,rfl⟩:=wA hn (hx _ rfl)
   cases hb:Nat.ble n 1024 && Nat.ble bytes yN with
   |false=>rw [hb]at h;cases h
   |true=>
    rw [hb]at h
    cases h
    rw [Bool.and_eq_true]at hb
    have h1:=Nat.le_of_ble_eq_true hb.1
    have h2:=Nat.le_of_ble_eq_true hb.2
    obtain⟨i,hi,hib⟩:=ZG hby
    have hmul:((bytes:Int)*(n:Int))≤1048576*1024:=by
     have:=Nat.mul_le_mul h2 h1
     have h2:((bytes*n:Nat):Int)≤((yN*1024:Nat):Int):=Int.ofNat_le.2 this
     rw [Int.natCast_mul]at h2
     simpa [yN] using h2
    refine⟨_,.chan n [] 0 0,.chan n #[] false 0 0 false,0,0,.chan (some w.heap.size),rfl,?_,.chan n [] 0 0 _ 0 0 #[] hB .nil,fun V' _ hV=> .chan H.next _ _ _ hV⟩
    have hm:(IntKind.i64.max:Int)=9223372036854775807:=by decide
    have c2: ¬((n:Int)<0∨(n:Int)>IntKind.i64.max∨(bytes:Int)*(n:Int)>2^48-112):=by
     rw [hm]
     simp only [Int.reducePow,Int.reduceSub]
     omega
    simp only [Instr.makeChan,Sem.run_bind,asInt,asIntOf,Sem.run_pure,Result.andThen_ok,zK hu,wj hi,hib]
    rw [if_neg c2]
    simp only [Sem.run_bind,uc,Result.andThen_ok,Sem.run_pure,Int.toNat_natCast]
  cases h
 cases h
theorem VM (n:Nat) (w:World):(askRoom n).run P w= .ok () w:=by
 unfold askRoom
 split
 ·rfl
 rfl
theorem QZ {t:TypeId} {x y:OV} {u z:Value} (hB:B≤w.heap.size) (hx: ∀v,x=some v→zL V v u) (hy: ∀v,y=some v→zL V v z) {r:zH} (h:uA P t x y H=some r):
 Q4 P V B H w r (Instr.makeSlice t u z):=by
 unfold uA at h
 split at h
 ·rename_i e a b hu
  split at h
  ·rename_i l c size zz bytes hl hc hs hz hby
   obtain⟨zv,rz,hzr⟩:=uQ (P:=P) hz
   obtain⟨k1,rfl⟩:=wA hl (hx _ rfl)
   obtain⟨k2,rfl⟩:=wA hc (hy _ rfl)
   cases hb:Nat.beq zz.cells.length size && Nat.ble c 65536 && Nat.ble l c && Nat.ble bytes yN && !zz.isTuple with
   |false=>rw [hb]at h;cases h
   |true=>
    rw [hb]at h
    cases h
    simp only [Bool.and_eq_true,Bool.not_eq_true']at hb
    obtain⟨⟨⟨⟨hb1,hb2⟩,hb3⟩,hb4⟩,ht⟩:=hb
    have hb1:=Nat.eq_of_beq_eq_true hb1
    have hb2:=Nat.le_of_ble_eq_true hb2
    have hb3:=Nat.le_of_ble_eq_true hb3
    have hb4:=Nat.le_of_ble_eq_true hb4
    obtain⟨i,hi,hib⟩:=ZG hby
    have zc:=gm (hzr V) ht
    let q:Array Value:=if c*size=0 then #[]else zv.cells
    have hq:c*zz.cells.length≠0→q=zv.cells:=fun hne=>by show(if c*size=0 then #[]else zv.cells)=_;rw [if_neg (by rw [←hb1];exact hne)]
    have hrl:=gG (hzr V) c q hq
    rw [hb1]at hrl
    have hw1:IntKind.i64.wrap (l:Int)=(l:Int):=uy ((wq _ _).2 ⟨by simp only [Qs];omega,by simp only [gR];omega⟩)
    have hw2:IntKind.i64.wrap (c:Int)=(c:Int):=uy ((wq _ _).2 ⟨by simp only [Qs];omega,by simp only [gR];omega⟩)
    have hmul:((bytes:Int)*(c:Int))≤1048576*65536:=by
     have:=Nat.mul_le_mul hb4 hb2
     have h2:((bytes*c:Nat):Int)≤((yN*65536:Nat):Int):=Int.ofNat_le.2 this
     rw [Int.natCast_mul]at h2
     simpa [yN] using h2
    have hlen:(yA zz.cells c).length=c*size:=by rw [uF,hb1]
    refine⟨_,newRow (yA zz.cells c),.cells ((Array.range (c*size)).map (q[· %q.size]!)) e,0,(yA zz.cells c).length,.slice (some ⟨w.heap.size,0,none⟩) l c,rfl,?_,?_,?_⟩
    ·simp only [Instr.makeSlice,Sem.run_bind,zK hu,Result.andThen_ok,asInt,asIntOf,Sem.run_pure,wj hi,hib,hw1,hw2]
     have c1:(decide ((c:Int)<0)||decide ((bytes:Int)*(c:Int)>2^48))=false:=by
      rw [Bool.or_eq_false_iff]
      exact⟨decide_eq_false (by omega),decide_eq_false (by simp only [Int.reducePow];omega)⟩
     have c2: ¬(((decide ((c:Int)<0)||decide ((bytes:Int)*(c:Int)>2^48))||decide ((l:Int)<0)||decide ((l:Int)>(c:Int)))=true):=by
      rw [c1]
      simp
      omega
     rw [if_neg c2]
     simp only [Sem.run_bind,VM,Result.andThen_ok,yf hs,Int.toNat_natCast]
     by_cases h0:c*size=0
     ·have hq0:q= #[]:=if_pos h0
      rw [hq0]
      rw [if_pos h0]
      simp only [Sem.run_bind,Sem.run_pure,Result.andThen_ok,Go.newRow,uc]
     have hq0:q=zv.cells:=if_neg h0
     rw [hq0]
     rw [if_neg h0]
     simp only [Sem.run_bind,Sem.run_pure,Result.andThen_ok,rz,Go.newRow,uc]
    ·have:=jL (B:=B) hrl (VB zc c) w.heap.size (yA zz.cells c).length e [] hB (by simp)
     simpa only [List.append_nil,Array.toArray_toList] using this
    intro V' _ hV
    have:=zL.slice (V:=V') H.next 0 l (some c) size _ _ _ c hV hb3 (fun k hk=>by cases hk;rfl) (by omega)
    simpa using this
  cases h
 cases h
def qU:Op→Bool
 | .alloc _| .box .. | .buildSlice .. | .makeMap .. | .makeChan .. | .makeSlice .. =>true
 |_=>false
theorem VI (hB:B≤w.heap.size) {T:Tm} {a:Act} {o:Oper} (hT:J5 V T a o.op.operands) (hq:qU o.op=true) {r:zH} (h:yJ P F T H o=some r):
 ∃v ob x base S v',r= .val v (H.alloc ob)∧(execOp a.eval o).run P w= .ok (.value v') (w.alloc x)∧Zd V B ob w.heap.size base S x∧
  ∀V',V.le V'→V'.blk H.next=some (w.heap.size,base,S)→zL V' v v':=by
 obtain⟨dst,op,ty,pos,after,guard⟩:=o
 have ev: ∀ {x:Operand},x ∈ op.operands→ ∀v,opnd T x=some v→zL V v (a.eval x):=fun hx v h=>hT _ hx v h
 clear hT
 have lift: ∀ {s:Sem Value} {r:zH},Q4 P V B H w r s→(execOp a.eval ⟨dst,op,ty,pos,after,guard⟩)=(do pure (.value (←s)))→
  ∃v ob x base S v',r= .val v (H.alloc ob)∧(execOp a.eval ⟨dst,op,ty,pos,after,guard⟩).run P w= .ok (.value v') (w.alloc x)∧Zd V B ob w.heap.size base S x∧
   ∀V',V.le V'→V'.blk H.next=some (w.heap.size,base,S)→zL V' v v':=by
  intro s r ⟨v,ob,x,base,S,v',h1,h2,h3,h4⟩ e
  exact⟨v,ob,x,base,S,v',h1,by rw [e];simp [h2],h3,h4⟩
 cases op<;>simp only [qU]at hq<;>try (cases hq;done)
 case alloc t=>
  simp only [yJ]at h
  cases hz:qk P t with
  |none=>rw [hz]at h;cases h
  |some z=>rw [hz]at h;exact lift (JP hz hB h) rfl
 case box t x=>exact lift (bX (ev (by simp [Op.operands])) hB t h) rfl
 case buildSlice t len parts=>
  have h':wg P t len (wT T parts.toList) H=some r:=h
  have hm:Q4 P V B H w r (Instr.buildSlice t len (parts.map fun(i,x)=>(i,a.eval x))):=QP hB (fun x hx=>by
   have:=V3 (a:=a) (V:=V) (fun y hy=>ev (by simpa [Op.operands] using hy)) hx
   simpa using this) h'
  have e:(execOp a.eval ⟨dst,.buildSlice t len parts,ty,pos,after,guard⟩)=(do pure (.value (←Instr.buildSlice t len (parts.map fun(i,x)=>(i,a.eval x))))):=by simp only [execOp]
  exact lift hm e
 case makeMap t x=>
  refine lift (VU (u:=x.map a.eval) hB (fun y hy=> ?_) (fun hx=> ?_) h) rfl
  ·cases x with
   |none=>cases hy
   |some x=>simp only [Option.map_some,Option.some.injEq]at hy;exact⟨a.eval x,rfl,ev (by simp [Op.operands]) _ hy⟩
  cases x with
  |none=>rfl
  |some x=>cases hx
 case makeChan t x=>exact lift (WG hB (ev (by simp [Op.operands])) h) rfl
 case makeSlice t x y=>exact lift (QZ hB (ev (by simp [Op.operands])) (ev (by simp [Op.operands])) h) rfl
end Go.Px
end
section
namespace Go.Px
open Go Go.RowKit
variable {P:Program} {F:z9} {V:qS} {B:Nat} {w0 w:World} {H:Hp}
theorem jk: ∀(vs:List AVal) (c:Tr AVal) (o i:Nat),(ud c o vs).get i=if o≤i∧i<o+vs.length then vs[i-o]? else c.get i:=by
 intro vs
 induction vs with
 |nil=>intro c o i;show c.get i=_;rw [if_neg (by simp)]
 |cons v vs ih=>
  intro c o i
  show(ud (c.set o v) (o+1) vs).get i=_
  rw [ih,Tr.get_set]
  simp only [List.length_cons]
  by_cases h1:o+1≤i∧i<o+1+vs.length
  ·rw [if_pos h1,if_pos (by omega)]
   have:i-o=(i-(o+1))+1:=by omega
   rw [this];simp
  rw [if_neg h1]
  by_cases h2:i=o
  ·subst h2;simp
  rw [if_neg h2,if_neg (by omega)]
theorem UM {a:AVal} {v:Value} (h:zL V a v) (hc:a.isCell=true):v.oneCell'=true:=by cases h<;>first|rfl|cases hc
theorem Gk (hW:zt B w0 V H w) {i b base S off m:Nat} {c:Tr AVal} {as:List AVal} {vs:List Value} (hb:V.blk i=some (b,base,S)) (ho:H.t.get i=some (.cells true c m))
 (hlen:off+as.length≤m) (hc: ∀u,u ∈ as→u.isCell=true) (hl:yX V as vs):
 ∃w',(storeCells ⟨b,base+off,none⟩ vs).run P w= .ok () w'∧zt B w0 V (H.put i (.cells true (ud c off as) m)) w'∧gX V V H (H.put i (.cells true (ud c off as) m)):=by
 obtain⟨x,hx,hr⟩:=hW.obj i _ b base S ho hb
 cases hr with
 |cells _ _ _ _ _ _ arr el fz hrw hfz hS hn hall hcc=>
  obtain⟨rfl,hB⟩:=hrw rfl
  replace hS:=hS rfl
  replace hall:=hall rfl
  have hll:=hl.length
  have hone: ∀v,v ∈ vs→v.oneCell'=true:=by
   intro v hv
   obtain⟨j,hj⟩:=List.mem_iff_getElem?.1 hv
   have hjl:j<as.length:=by have:=(List.getElem?_eq_some_iff.1 hj).1;omega
   exact UM (hl.pt j (as[j]'hjl) v (by simp [hjl]) hj) (hc _ (List.getElem_mem hjl))
  have hrun:=run_storeCells_at (P:=P) b (base+off) el vs 0 arr w hx (by omega) hone
  simp only [Nat.add_zero]at hrun
  refine⟨_,hrun,?_⟩
  have hbs:b<w.heap.size:=hW.lt i b base S hb
  have harr: ∀k,((arr.toList.take (base+off)++vs++arr.toList.drop (base+off+vs.length)).toArray)[k]? =if base+off≤k∧k<base+off+vs.length then vs[k-(base+off)]? else arr[k]? :=by
   intro k
   have ht:(arr.toList.take (base+off)).length=base+off:=by simp;omega
   rw [List.getElem?_toArray]
   by_cases h1:k<base+off
   ·rw [if_neg (by omega),List.append_assoc,List.getElem?_append_left (by omega),List.getElem?_take_of_lt h1,Array.getElem?_toList]
   by_cases h2:k<base+off+vs.length
   ·rw [if_pos (by omega),List.append_assoc,List.getElem?_append_right (by omega),ht,List.getElem?_append_left (by omega)]
   rw [if_neg (by omega),List.getElem?_append_right (by simp only [List.length_append,ht];omega),List.getElem?_drop]
   simp only [List.length_append,ht]
   rw [show base+off+vs.length+(k-(base+off+vs.length))=k by omega,Array.getElem?_toList]
  have hsz:((arr.toList.take (base+off)++vs++arr.toList.drop (base+off+vs.length)).toArray).size=arr.size:=by simp;omega
  refine hW.putE hb ho ⟨rfl,rfl,rfl,?_,fun k hk=>gf w b k _ (by omega)⟩ ?_ (fun k hk=>gf w b k _ hk) (setRow_heap w b arr _ el (0,0) hx) ?_
  ·simp [World.setRow]
  ·simp [World.setRow]
  refine .cells true _ m b base S _ el (0,0) (fun _=>⟨rfl,hB⟩) (fun _=>rfl) (fun _=>by rw [hsz];exact hS) hn (fun _ j hj=> ?_) (fun j a ha=> ?_)
  ·rw [jk]
   split
   ·rename_i h;exact⟨as[j-off]'(by omega),by simp [show j-off<as.length by omega]⟩
   exact hall j hj
  rw [jk]at ha
  split at ha
  ·rename_i h
   obtain⟨v,h1,h2⟩:=hl.at _ a ha
   refine⟨by omega,hc a (List.mem_of_getElem? ha),v,?_,h2⟩
   rw [harr,if_pos (by omega),show base+j-(base+off)=j-off by omega]
   exact h1
  rename_i h
  obtain⟨h0,h1,v,h2,h3⟩:=hcc j a ha
  refine⟨h0,h1,v,?_,h3⟩
  rw [harr,if_neg (by omega)]
  exact h2
theorem G1 (hW:zt B w0 V H w) {i b base S off:Nat} {as:List AVal} {H':Hp} (hb:V.blk i=some (b,base,S)) (h:H.write i off as=some H'):B≤b:=by
 unfold Hp.write at h
 split at h
 ·rename_i c m ho
  obtain⟨x,hx,hr⟩:=hW.obj i _ b base S ho hb
  cases hr with
  |cells _ _ _ _ _ _ arr el fz hrw=>exact(hrw rfl).2
 cases h
theorem uH (hW:zt B w0 V H w) {i b base S off:Nat} {as:List AVal} {vs:List Value} {H':Hp} (hb:V.blk i=some (b,base,S)) (h:H.write i off as=some H') (hl:yX V as vs):
 ∃w',(storeCells ⟨b,base+off,none⟩ vs).run P w= .ok () w'∧zt B w0 V H' w'∧gX V V H H':=by
 unfold Hp.write at h
 split at h
 ·rename_i c m ho
  cases hc:Nat.ble (off+as.length) m && yL as with
  |false=>rw [hc]at h;cases h
  |true=>
   rw [hc]at h;cases h
   rw [Bool.and_eq_true]at hc
   exact Gk hW hb ho (Nat.le_of_ble_eq_true hc.1) ((wL as).1 hc.2) hl
 cases h
theorem kX (hW:zt B w0 V H w) {i b base S off:Nat} {a:AVal} {v:Value} {H':Hp} (hb:V.blk i=some (b,base,S)) (h:H.write1 i off a=some H') (hl:zL V a v):
 ∃w',(storeCells ⟨b,base+off,none⟩ [v]).run P w= .ok () w'∧zt B w0 V H' w'∧gX V V H H':=by
 unfold Hp.write1 at h
 split at h
 ·rename_i c m ho
  cases hc:Nat.blt off m && a.isCell with
  |false=>rw [hc]at h;cases h
  |true=>
   rw [hc]at h;cases h
   rw [Bool.and_eq_true]at hc
   have h1:off<m:=by simpa using hc.1
   exact Gk hW hb ho (as:= [a]) (by simp;omega) (fun u hu=>by simp at hu;subst hu;exact hc.2) (.cons hl .nil)
 cases h
theorem Jh (hW:zt B w0 V H w) {t:TypeId} {i b base S off:Nat} {a:AVal} {v:Value} {H':Hp} (hb:V.blk i=some (b,base,S)) (h:Ub P t H i off a=some H') (hv:zL V a v):
 ∃w',(storeVar t ⟨b,base+off,none⟩ v).run P w= .ok () w'∧zt B w0 V H' w'∧gX V V H H':=by
 unfold Ub at h
 have hsz:=hv.cells_size
 split at h
 ·rename_i hs
  split at h
  ·rename_i x hx
   have hcl:=hv.cells
   rw [hx]at hcl hsz
   cases hu:v.cells.toList with
   |nil=>rw [hu]at hcl;cases hcl
   |cons y ys=>
    rw [hu]at hcl
    cases hcl with
    |cons hy hys=>
     cases hys
     obtain⟨w',h1,h2⟩:=kX (P:=P) hW hb h hy
     refine⟨w',?_,h2⟩
     simp only [storeVar,Sem.run_bind,yf hs,Result.andThen_ok]
     rw [if_neg (by simp [hsz])]
     rw [hu]
     exact h1
  cases h
 ·rename_i n _ hs
  cases hn:Nat.beq a.cells.length n with
  |false=>rw [hn]at h;cases h
  |true=>
   rw [hn]at h
   have hn:=Nat.eq_of_beq_eq_true hn
   obtain⟨w',h1,h2⟩:=uH (P:=P) hW hb h hv.cells
   refine⟨w',?_,h2⟩
   simp only [storeVar,Sem.run_bind,yf hs,Result.andThen_ok]
   rw [if_neg (by simp [hsz,hn])]
   exact h1
 cases h
theorem GX (hW:zt B w0 V H w) {t:TypeId} {x y:OV} {u z:Value} (hx: ∀v,x=some v→zL V v u) (hy: ∀v,y=some v→zL V v z) {r:zH} (h:YP P t x y H=some r):
 ∃H' w',r= .val unit H'∧(Instr.storeAt t u z).run P w= .ok () w'∧zt B w0 V H' w'∧gX V V H H':=by
 unfold YP at h
 split at h
 ·rename_i i off v
  obtain⟨b,base,S,hb,rfl⟩:=(hx _ rfl).inv_ptr
  split at h
  ·rename_i H' hs
   cases h
   obtain⟨w',h1,h2⟩:=Jh (P:=P) hW hb hs (hy _ rfl)
   exact⟨H',w',rfl,by simpa [Instr.storeAt,Instr.sureAddr] using h1,h2⟩
  cases h
 cases h
theorem J3 {a b:AVal} (h:j9 a b=true):a=b∧(∀u v,zL V a u→zL V b v→u=v∧Instr.sameBits 10000 v u=true):=by
 have flat: ∀x y,Vd x y=true→x=y∧ ∀u v,zL V x u→zL V y v→u=v∧ ∀n,Instr.sameBits n v u=true:=by
  intro x y hxy
  unfold Vd at hxy
  split at hxy
  ·have:=eq_of_beq hxy
   subst this
   exact⟨rfl,fun u v hu hv=>by cases hu;cases hv;exact⟨rfl,fun n=>by cases n<;>simp [Instr.sameBits]⟩⟩
  ·rw [Bool.and_eq_true]at hxy
   have h1:=(Y6 _ _).1 hxy.1
   have h2:=(gL _ _).1 hxy.2
   subst h1 h2
   exact⟨rfl,fun u v hu hv=>by cases hu;cases hv;exact⟨rfl,fun n=>by cases n<;>simp [Instr.sameBits]⟩⟩
  cases hxy
 unfold j9 at h
 split at h
 ·rw [Bool.and_eq_true]at h
  have h1:=(Y6 _ _).1 h.1
  have h2:=(gL _ _).1 h.2
  subst h1 h2
  exact⟨rfl,fun u v hu hv=>by cases hu;cases hv;exact⟨rfl,by simp [Instr.sameBits]⟩⟩
 ·have:=eq_of_beq h
  subst this
  exact⟨rfl,fun u v hu hv=>by cases hu;cases hv;exact⟨rfl,by simp [Instr.sameBits]⟩⟩
 ·rw [Bool.and_eq_true]at h
  have h1:=(ja _ _).1 h.1
  subst h1
  refine⟨rfl,fun u v hu hv=> ?_⟩
  obtain⟨s,rfl,hs⟩:=hu.inv_str
  obtain⟨q,rfl,hq⟩:=hv.inv_str
  have:s=q:=by
   cases s with
   |mk sd=>cases q with
    |mk qd=>
     congr 1
     exact Array.toList_inj.1 (hs.trans hq.symm)
  subst this
  refine⟨rfl,?_⟩
  show(s==s)=true
  rw [beq_toListBytes]
  simp
 ·rename_i a b
  have key: ∀(a b:List AVal),Y2 a b=true→a=b∧ ∀xs ys,yX V a xs→yX V b ys→xs=ys∧ ∀n,((ys.zip xs).all fun(x,y)=>Instr.sameBits n x y)=true:=by
   intro a
   induction a with
   |nil=>intro b h;cases b with
    |nil=>exact⟨rfl,fun xs ys h1 h2=>by cases h1;cases h2;exact⟨rfl,fun n=>rfl⟩⟩
    |cons=>cases h
   |cons x a ih=>intro b h;cases b with
    |nil=>cases h
    |cons y b=>
     simp only [Y2,Bool.and_eq_true]at h
     obtain⟨rfl,f1⟩:=flat x y h.1
     obtain⟨rfl,f2⟩:=ih b h.2
     refine⟨rfl,fun xs ys h1 h2=> ?_⟩
     cases h1 with
     |cons p1 q1=>cases h2 with
      |cons p2 q2=>
       obtain⟨rfl,g1⟩:=f1 _ _ p1 p2
       obtain⟨rfl,g2⟩:=f2 _ _ q1 q2
       exact⟨rfl,fun n=>by simp only [List.zip_cons_cons,List.all_cons,g1 n,Bool.true_and];exact g2 n⟩
  obtain⟨rfl,hk⟩:=key a b h
  refine⟨rfl,fun u v hu hv=> ?_⟩
  obtain⟨xs,rfl,hl,_⟩:=hu.inv_agg
  obtain⟨ys,rfl,hl',_⟩:=hv.inv_agg
  obtain⟨e1,e2⟩:=hk _ _ hl hl'
  have:xs=ys:=Array.toList_inj.1 e1
  subst this
  refine⟨rfl,?_⟩
  have e2:=e2 9999
  show(xs.size==xs.size && (xs.toList.zip xs.toList).all fun(x,y)=>Instr.sameBits 9999 x y)=true
  simpa using e2
 cases h
theorem wk {b:Nat} {o o':Obj} (h:w.heap[b]? =some o) (hn: ∀a t f,o≠ .cells a t f):(setObj b o').run P w= .ok () { w with heap:=w.heap.setIfInBounds b o' } :=by
 cases o with
 |cells a t f=>exact absurd rfl (hn a t f)
 |_=>simp [setObj,Sem.run,h]
theorem zt.putObj (hW:zt B w0 V H w) {id b base S:Nat} {o o':uj} {x':Obj} (hb:V.blk id=some (b,base,S)) (ho:H.t.get id=some o) (hB:B≤b) (hr:Zd V B o' b base S x'):
 zt B w0 V (H.put id o') { w with heap:=w.heap.setIfInBounds b x' } ∧gX V V H (H.put id o'):=by
 have hlt:=hW.lt id b base S hb
 refine hW.putE hb ho ⟨rfl,rfl,rfl,by simp,fun k hk=> ?_⟩ (by simp) (fun k hk=> ?_) (by simp [hlt]) hr
 ·simp [Array.getElem?_setIfInBounds_ne (show b≠k by omega)]
 simp [Array.getElem?_setIfInBounds_ne (Ne.symm hk)]
theorem Zw (hF:GG F V.ρ) (hW:zt B w0 V H w) {t:TypeId} {m k x:OV} {mu ku xu:Value} (hm: ∀v,m=some v→zL V v mu) (hk: ∀v,k=some v→zL V v ku) (hx: ∀v,x=some v→zL V v xu)
 {r:zH} (h:vg P F t m k x H=some r): ∃H' w',r= .val unit H'∧(Instr.mapUpdate t mu ku xu).run P w= .ok () w'∧zt B w0 V H' w'∧gX V V H H':=by
 unfold vg at h
 split at h
 ·rename_i m k v
  replace hm:=hm _ rfl
  replace hk:=hk _ rfl
  replace hx:=hx _ rfl
  split at h
  ·rename_i H' hu'
   cases h
   unfold Ys at hu'
   split at hu'
   ·rename_i kt et hu
    cases hf:wM P kt k with
    |false=>rw [hf]at hu';cases hu'
    |true=>
     rw [hf]at hu'
     simp only [cond_true]at hu'
     split at hu'
     ·rename_i i
      obtain⟨b,base,S,hb,rfl⟩:=hm.inv_map
      split at hu'
      ·rename_i es clock hma
       obtain⟨ho,ms,hms,hmr,hB⟩:=gu hW hb hma
       have hno: ∀(es:Array MapEntry) c a t f,Obj.map es c≠ .cells a t f:=fun _ _ _ _ _=>nofun
       split at hu'
       ·rename_i j e hfe
        obtain⟨q,h1,h2⟩:=wQ hF hW hk hf hmr hfe
        rcases h2 with⟨h2,_⟩|⟨j',e',m',h2,rfl,h3,h4⟩
        ·cases h2
        cases h2
        cases hkb:j9 k e.key with
        |false=>rw [hkb]at hu';cases hu'
        |true=>
         rw [hkb]at hu';cases hu'
         have hE:=hmr.2 j e m' h3 h4
         obtain⟨_,hsame⟩:=J3 (V:=V) hkb
         obtain⟨he,hsb⟩:=hsame ku m'.key hk hE.key
         have h4':ms[j]? =some m':=by simpa using h4
         have hstay:(Instr.keyThatStays (((ms[j]?).map (·.key)).getD ku) ku).run P w= .ok ku w:=by
          rw [h4']
          simp only [Option.map_some,Option.getD_some,Instr.keyThatStays,hsb,if_true,Sem.run_pure]
         refine⟨_,_,rfl,?_,hW.putObj hb ho hB (x':= .map (ms.modify j fun e=> { e with key:=ku,val:=xu }) clock) ?_⟩
         ·simp only [Instr.mapUpdate,Sem.run_bind,zK hu,Result.andThen_ok,wS hms,qx hf hk,h1,hstay]
          exact wk hms (hno _ _)
         refine .map _ _ _ _ _ _ hB (by simp;simpa using hmr.1) fun n e1 m1 he1 hm1=> ?_
         rw [Array.getElem?_modify]at hm1
         by_cases hn:n=j
         ·subst hn
          have hlt:n<es.length:=(List.getElem?_eq_some_iff.1 h3).1
          simp [hlt]at he1
          rw [if_pos rfl,h4']at hm1
          simp at hm1
          subst he1 hm1
          exact⟨hk,hx,hE.born⟩
         rw [List.getElem?_set_ne (Ne.symm hn)]at he1
         rw [if_neg (Ne.symm hn)]at hm1
         exact hmr.2 n e1 m1 he1 (by simpa using hm1)
       ·rename_i hfe
        cases hu'
        obtain⟨q,h1,h2⟩:=wQ hF hW hk hf hmr hfe
        rcases h2 with⟨_,rfl⟩|⟨j',e',m',h2,_⟩
        ·refine⟨_,_,rfl,?_,hW.putObj hb ho hB (x':= .map (ms.push { key:=ku,val:=xu,born:=clock }) (clock+1)) ?_⟩
         ·simp only [Instr.mapUpdate,Sem.run_bind,zK hu,Result.andThen_ok,wS hms,qx hf hk,h1]
          exact wk hms (hno _ _)
         have hlen:es.length=ms.size:=by simpa using hmr.1
         refine .map _ _ _ _ _ _ hB (by simp [hlen]) fun n e1 m1 he1 hm1=> ?_
         rw [Array.getElem?_push]at hm1
         by_cases hn:n=ms.size
         ·subst hn
          rw [if_pos rfl]at hm1
          rw [←hlen]at he1
          simp at he1 hm1
          subst he1 hm1
          exact⟨hk,hx,rfl⟩
         rw [if_neg hn]at hm1
         have hlt:n<ms.size:=(Array.getElem?_eq_some_iff.1 hm1).1
         rw [List.getElem?_append_left (by omega)]at he1
         exact hmr.2 n e1 m1 he1 (by simpa using hm1)
        cases h2
       cases hu'
      cases hu'
     cases hu'
   cases hu'
  cases h
 cases h
theorem GV (hF:GG F V.ρ) (hW:zt B w0 V H w) {t ty:TypeId} {ts:Array TypeId} {us:Array Value} {m k:AVal} {mu ku:Value} (ht:ts[0]? =some t) (hu0:us[0]? =some mu) (hu1:us[1]? =some ku)
 (hm:zL V m mu) (hk:zL V k ku) {H':Hp} (h:QW P F t H m k=some H'): ∃w',(Builtin.delete_ ts ty us).run P w= .ok (.tuple #[]) w'∧zt B w0 V H' w'∧gX V V H H':=by
 unfold QW at h
 split at h
 ·rename_i kt et hu
  cases hf:wM P kt k with
  |false=>rw [hf]at h;cases h
  |true=>
   rw [hf]at h
   simp only [cond_true]at h
   split at h
   ·rename_i i
    obtain⟨b,base,S,hb,rfl⟩:=hm.inv_map
    split at h
    ·rename_i es clock hma
     obtain⟨ho,ms,hms,hmr,hB⟩:=gu hW hb hma
     have hno: ∀(es:Array MapEntry) c a t f,Obj.map es c≠ .cells a t f:=fun _ _ _ _ _=>nofun
     have hlen:es.length=ms.size:=by simpa using hmr.1
     split at h
     ·rename_i j e hfe
      cases h
      obtain⟨q,h1,h2⟩:=wQ hF hW hk hf hmr hfe
      rcases h2 with⟨h2,_⟩|⟨j',e',m',h2,rfl,h3,h4⟩
      ·cases h2
      cases h2
      have hjl:j<ms.size:=by have:=(List.getElem?_eq_some_iff.1 h3).1;omega
      refine⟨_,?_,hW.putObj hb ho hB (x':= .map (ms.eraseIdxIfInBounds j) clock) ?_⟩
      ·simp only [Builtin.delete_,ht,hu0,hu1,Sem.run_bind,zK hu,Result.andThen_ok,wS hms,qx hf hk,h1,wk hms (hno _ _),Sem.run_pure]
      refine .map _ _ _ _ _ _ hB ?_ fun n e1 m1 he1 hm1=> ?_
      ·rw [List.length_eraseIdx,Array.eraseIdxIfInBounds_eq]
       simp [hjl,hlen]
      rw [Array.eraseIdxIfInBounds_eq]at hm1
      simp only [hjl,dif_pos]at hm1
      have hm2:((ms.toList.eraseIdx j))[n]? =some m1:=by
       have e3:(ms.eraseIdx j hjl).toList=ms.toList.eraseIdx j:=Array.toList_eraseIdx
       rw [←e3,Array.getElem?_toList];exact hm1
      rw [List.getElem?_eraseIdx]at he1 hm2
      split at he1
      ·rename_i hlt;rw [if_pos hlt]at hm2;exact hmr.2 n e1 m1 he1 hm2
      rename_i hlt;rw [if_neg hlt]at hm2;exact hmr.2 (n+1) e1 m1 he1 hm2
     ·rename_i hfe
      cases h
      obtain⟨q,h1,h2⟩:=wQ hF hW hk hf hmr hfe
      rcases h2 with⟨_,rfl⟩|⟨j',e',m',h2,_⟩
      ·refine⟨_,?_,hW.putObj hb ho hB (x':= .map ms clock) ?_⟩
       ·simp only [Builtin.delete_,ht,hu0,hu1,Sem.run_bind,zK hu,Result.andThen_ok,wS hms,qx hf hk,h1,wk hms (hno _ _),Sem.run_pure]
       exact .map _ _ _ _ _ _ hB hlen fun n e1 m1 he1 hm1=>hmr.2 n e1 m1 he1 (by simpa using hm1)
      cases h2
     cases h
    cases h
   ·cases hm;cases h
    exact⟨w,by simp [Builtin.delete_,ht,hu0,hu1,zK hu,qx hf hk],hW,.refl V H⟩
   cases h
 cases h
end Go.Px
end
section
namespace Go.Px
open Go Go.RowKit
variable {P:Program} {F:z9} {V:qS} {B:Nat} {w0 w:World} {H:Hp}
theorem tx (n:Nat): ∀r c,Builtin.growBy n r c≤max c (n+(n+768)/4):=by
 intro r
 induction r with
 |zero=>intro c;simp only [Builtin.growBy];omega
 |succ r ih=>
  intro c
  simp only [Builtin.growBy]
  split
  ·omega
  have:=ih (c+(c+768)/4)
  omega
theorem pf {n c:Nat} (h:c<n):Builtin.nextslicecap n c≤2*n+768:=by
 unfold Builtin.nextslicecap
 split
 ·omega
 split
 ·omega
 have:=tx n 4 c
 omega
theorem zt.del (hW:zt B w0 V H w) (i:Nat):zt B w0 V ⟨H.t.del i,H.next⟩ w:=by
 have sub: ∀id o,(H.t.del i).get id=some o→id≠i∧H.t.get id=some o:=by
  intro id o h
  rw [Tr.get_del]at h
  split at h
  ·cases h
  rename_i hne;exact⟨hne,h⟩
 refine⟨hW.below,hW.size,fun id hid=>⟨(hW.next id hid).1,?_⟩,hW.lt,fun id o b base S h1 h2=>hW.obj id o b base S (sub id o h1).2 h2,fun id id' o o' b b' ba ba' S S' h1 h2=>hW.inj id id' o o' b b' ba ba' S S' (sub id o h1).2 (sub id' o' h2).2,hW.fz,hW.lim⟩
 show(H.t.del i).get id=none
 rw [Tr.get_del,(hW.next id hid).2]
 simp
theorem zt.alias (hW:zt B w0 V H w) {w':World} {i b base S base' S':Nat} {o o':uj} {x':Obj} (hb:V.blk i=some (b,base,S)) (ho:H.t.get i=some o)
 (hbel:Below B w w') (hsz:w'.heap.size=w.heap.size) (hother: ∀k,k≠b→w'.heap[k]? =w.heap[k]?) (hx:w'.heap[b]? =some x') (hr:Zd V B o' b base' S' x'):
 zt B w0 (V.bind H.next (b,base',S')) (Hp.alloc ⟨H.t.del i,H.next⟩ o') w':=by
 have hle:=hW.bind_le (b,base',S')
 have old: ∀id b1 a1 S1,(V.bind H.next (b,base',S')).blk id=some (b1,a1,S1)→(id=H.next∧b1=b∧a1=base'∧S1=S')∨(id≠H.next∧V.blk id=some (b1,a1,S1)):=by
  intro id b1 a1 S1 h
  by_cases e:id=H.next
  ·subst e;simp [qS.bind]at h;exact .inl ⟨rfl,h.1.symm,h.2.1.symm,h.2.2.symm⟩
  simp [qS.bind,e]at h;exact .inr ⟨e,h⟩
 have oldo: ∀id q,((Hp.alloc ⟨H.t.del i,H.next⟩ o').t.get id=some q)→(id=H.next∧q=o')∨(id≠H.next∧id≠i∧H.t.get id=some q):=by
  intro id q h
  simp only [Hp.alloc,Tr.get_set,Tr.get_del]at h
  by_cases e:id=H.next
  ·subst e;simp at h;exact .inl ⟨rfl,h.symm⟩
  rw [if_neg e]at h
  split at h
  ·cases h
  rename_i hne;exact .inr ⟨e,hne,h⟩
 refine⟨hW.below.trans hbel,by rw [hsz];exact hW.size,?_,?_,?_,?_,Vu hW.fz hother hx hr,hW.lim⟩
 ·intro id hid
  have hid':H.next+1≤id:=hid
  have h1:=hW.next id (by omega)
  refine⟨by simp [qS.bind,show id≠H.next by omega,h1.1],?_⟩
  simp only [Hp.alloc,Tr.get_set,Tr.get_del]
  rw [if_neg (by omega),h1.2]
  simp
 ·intro id b1 a1 S1 h
  rw [hsz]
  rcases old id b1 a1 S1 h with⟨_,rfl,_⟩|⟨_,h⟩
  ·exact hW.lt i _ _ _ hb
  exact hW.lt id _ _ _ h
 ·intro id q b1 a1 S1 h1 h2
  rcases oldo id q h1 with⟨rfl,rfl⟩|⟨hne,hni,h1'⟩
  ·rcases old _ _ _ _ h2 with⟨_,rfl,rfl,rfl⟩|⟨hne,_⟩
   ·exact⟨x',hx,hr.mono hle⟩
   exact absurd rfl hne
  rcases old _ _ _ _ h2 with⟨e,_⟩|⟨_,h2'⟩
  ·exact absurd e hne
  obtain⟨y,hy,hyr⟩:=hW.obj id q b1 a1 S1 h1' h2'
  exact⟨y,by
   rcases hW.inj id i q o b1 b a1 base S1 S h1' ho h2' hb hni with hn|hn
   ·rw [hother b1 hn];exact hy
   rw [hbel.block b1 hn];exact hy,hyr.mono hle⟩
 intro id id' q q' b1 b2 a1 a2 S1 S2 h1 h2 h3 h4 hne
 rcases oldo _ _ h1 with⟨e1,_⟩|⟨n1,m1,h1'⟩<;>rcases oldo _ _ h2 with⟨e2,_⟩|⟨n2,m2,h2'⟩
 ·omega
 ·rcases old _ _ _ _ h3 with⟨_,rfl,_⟩|⟨n3,_⟩
  ·rcases old _ _ _ _ h4 with⟨e4,_⟩|⟨_,h4'⟩
   ·exact absurd e4 n2
   have:=hW.inj id' i q' o b2 b1 a2 base S2 S h2' ho h4' hb m2
   omega
  exact absurd e1 n3
 ·rcases old _ _ _ _ h4 with⟨_,rfl,_⟩|⟨n3,_⟩
  ·rcases old _ _ _ _ h3 with⟨e4,_⟩|⟨_,h3'⟩
   ·exact absurd e4 n1
   exact hW.inj id i q o b1 b2 a1 base S1 S h1' ho h3' hb m1
  exact absurd e2 n3
 rcases old _ _ _ _ h3 with⟨e,_⟩|⟨_,h3'⟩
 ·exact absurd e n1
 rcases old _ _ _ _ h4 with⟨e,_⟩|⟨_,h4'⟩
 ·exact absurd e n2
 exact hW.inj id id' q q' b1 b2 a1 a2 S1 S2 h1' h2' h3' h4' hne
theorem VN {x:AVal} {u:Value} {n:Nat} (hx:zL V x u) (h:dW x=some n) (w:World):(Builtin.lenOf u).run P w= .ok n w:=by
 unfold dW at h
 split at h
 ·cases h;cases hx<;>rfl
 ·rename_i s
  obtain⟨q,rfl,hq⟩:=hx.inv_str
  cases hb:zZ s with
  |false=>rw [hb]at h;cases h
  |true=>
   rw [hb]at h;cases h
   simp [Builtin.lenOf,Y0 hb hq]
 cases h
theorem Qo (hW:zt B w0 V H w) {x:AVal} {u:Value} {size n:Nat} {as:List AVal} (hx:zL V x u) (h:ji H size n x=some as):
 ∃vs,yX V as vs∧(∀u,u ∈ as→u.isCell=true)∧(∀w':World,w'.heap=w.heap→(Builtin.firstCells size n u).run P w'= .ok vs.toArray w')∧as.length=n*size:=by
 unfold ji at h
 split at h
 ·rename_i i off len cap es
  cases hn:Nat.beq n 0 with
  |true=>
   rw [hn]at h;cases h
   have:=Nat.eq_of_beq_eq_true hn
   subst this
   refine⟨[],.nil,fun u h=>by simp at h,fun _ _=> ?_,by simp⟩
   cases hx<;>simp [Builtin.firstCells,loadCells,loadCellsFrom]
  |false=>
  rw [hn]at h
  simp only [cond_false]at h
  have hn0:n≠0:=fun e=>by subst e;cases hn
  cases hx with
  |slice _ _ _ _ _ b base S c hb hl hc hS=>
   cases hle:Nat.ble n len with
   |false=>rw [hle]at h;cases h
   |true=>
    rw [hle]at h
    simp only [cond_true]at h
    obtain⟨h1,h2,vs,h3,h4⟩:=Z9 hW hb h
    refine⟨vs,h3,h2,fun w' hh=> ?_,h1⟩
    have:=run_loadCells_list (P:=P) w' ⟨b,base+off,none⟩ vs (fun j v hj=>by rw [←h4 j v hj];simp only [World.cell?,hh])
    rw [←h3.length,h1]at this
    simpa [Builtin.firstCells] using this
  |sliceR _ _ _ _ _ b base S c a hb hbl hl hc ha=>
   cases hle:Nat.ble n len with
   |false=>rw [hle]at h;cases h
   |true=>
    rw [hle]at h
    simp only [cond_true]at h
    have hle:=Nat.le_of_ble_eq_true hle
    obtain rfl:=ha (.inl (by omega))
    obtain⟨h1,h2,vs,h3,h4⟩:=Z9 hW hb h
    refine⟨vs,h3,h2,fun w' hh=> ?_,h1⟩
    have:=run_loadCells_list (P:=P) w' ⟨b,base+off,none⟩ vs (fun j v hj=>by rw [←h4 j v hj];simp only [World.cell?,hh])
    rw [←h3.length,h1]at this
    simpa [Builtin.firstCells] using this
  |sliceE _ _ _ b base S o c _ hb hc ho hS=>
   cases hle:Nat.ble n 0 with
   |false=>rw [hle]at h;cases h
   |true=>have:=Nat.le_of_ble_eq_true hle;omega
 ·cases hx
  cases hn:Nat.beq n 0 with
  |false=>rw [hn]at h;cases h
  |true=>
   rw [hn]at h;cases h
   have:=Nat.eq_of_beq_eq_true hn
   subst this
   exact⟨[],.nil,fun u h=>by simp at h,fun _ _=>rfl,by simp⟩
 ·rename_i s
  obtain⟨q,rfl,hq⟩:=hx.inv_str
  cases hb0:zZ s && (Nat.beq size 1 && Nat.ble n s.length)with
  |false=>rw [hb0]at h;cases h
  |true=>
   rw [hb0]at h;cases h
   simp only [Bool.and_eq_true]at hb0
   obtain⟨hb,hsz1,hnl⟩:=hb0
   have hsz1:=Nat.eq_of_beq_eq_true hsz1
   have hnl:=Nat.le_of_ble_eq_true hnl
   subst hsz1
   have hq':=Gm hb hx
   rw [JA]
   have key: ∀(l:List Nat),(∀k,k ∈ l→k<256)→yX V (l.map fun b=>AVal.int .u8 (.lit (.ofNat b))) ((l.map UInt8.ofNat).map fun b=>Value.int .u8 (b.toNat:Int)):=by
    intro l
    induction l with
    |nil=>intro _;exact .nil
    |cons x l ih=>
     intro hl
     refine .cons ?_ (ih fun k hk=>hl k (by simp [hk]))
     have e:(UInt8.ofNat x).toNat=x:=UInt8.toNat_ofNat_of_lt' (hl x (by simp))
     show zL V (AVal.int .u8 (.lit (.ofNat x))) (.int .u8 ((UInt8.ofNat x).toNat:Int))
     have:=zL.int (V:=V) .u8 (.lit (.ofNat x))
     rw [e];exact this
   have hk:=(key s ((yz s).1 hb)).take n
   refine⟨_,hk,fun u hu=> ?_,fun _ _=> ?_,by simp;omega⟩
   ·obtain⟨b,_,rfl⟩:=List.mem_map.1 (List.mem_of_mem_take hu);rfl
   simp only [Builtin.firstCells,Sem.run_pure]
   congr 1
   apply Array.toList_inj.1
   simp only [Array.toList_map,ByteArray.data_extract,Array.toList_extract,List.extract_eq_take_drop,List.drop_zero,Nat.sub_zero,hq',List.map_take]
 cases h
theorem p8 (q:Question) (w:World): ∃n w',(choose q).run P w= .ok n w'∧(w'=w∨w'=w.drew)∧(q.forced=false→n=q.cut (w.tape w.drawn q)):=by
 cases hf:q.forced with
 |true=>exact⟨0,w,by simp [choose,Sem.run,hf],.inl rfl,fun h=>by cases h⟩
 |false=>exact⟨_,w.drew,by simp [choose,Sem.run,hf],.inr rfl,fun _=>rfl⟩
theorem zt.drew (hW:zt B w0 V H w):zt B w0 V H w.drew:=
 ⟨hW.below.drew,hW.size,hW.next,hW.lt,hW.obj,hW.inj,hW.fz,hW.lim⟩
theorem r6 {b k0:Nat} {el:TypeId} {arr:Array Value} {vs:List Value} (hx:w.heap[b]? =some (.cells arr el)) (hS:k0+vs.length≤arr.size) (hone: ∀v,v ∈ vs→v.oneCell'=true):
 ∃arr':Array Value,(storeCells ⟨b,k0,none⟩ vs).run P w= .ok () (w.setRow b arr')∧arr'.size=arr.size∧ ∀k,arr'[k]? =if k0≤k∧k<k0+vs.length then vs[k-k0]? else arr[k]? :=by
 have hrun:=run_storeCells_at (P:=P) b k0 el vs 0 arr w hx (by omega) hone
 simp only [Nat.add_zero]at hrun
 refine⟨_,hrun,by simp;omega,fun k=> ?_⟩
 have ht:(arr.toList.take k0).length=k0:=by simp;omega
 rw [List.getElem?_toArray]
 by_cases h1:k<k0
 ·rw [if_neg (by omega),List.append_assoc,List.getElem?_append_left (by omega),List.getElem?_take_of_lt h1,Array.getElem?_toList]
 by_cases h2:k<k0+vs.length
 ·rw [if_pos (by omega),List.append_assoc,List.getElem?_append_right (by omega),ht,List.getElem?_append_left (by omega)]
 rw [if_neg (by omega),List.getElem?_append_right (by simp only [List.length_append,ht];omega),List.getElem?_drop]
 simp only [List.length_append,ht]
 rw [show k0+vs.length+(k-(k0+vs.length))=k by omega,Array.getElem?_toList]
theorem fI {as:List AVal} {vs:List Value} (hl:yX V as vs) (hc: ∀u,u ∈ as→u.isCell=true): ∀v,v ∈ vs→v.oneCell'=true:=by
 intro v hv
 obtain⟨j,hj⟩:=List.mem_iff_getElem?.1 hv
 have hll:=hl.length
 have hjl:j<as.length:=by have:=(List.getElem?_eq_some_iff.1 hj).1;omega
 exact UM (hl.pt j (as[j]'hjl) v (by simp [hjl]) hj) (hc _ (List.getElem_mem hjl))
theorem Ga (hW:zt B w0 V H w) {t xt e:TypeId} {kn:IntKind} {ty:TypeId} {s x:AVal} {su xu:Value} (hs:zL V s su) (hx:zL V x xu) (hu:yO P t=some (.slice e)) (hxu:yO P xt=some (.int kn)) {r:zH} (h:Vi P e H s x=some r):
 ∃v H' V' w' v',r= .val v H'∧gX V V' H H'∧zt B w0 V' H' w'∧zL V' v v'∧(Builtin.append_ #[t,xt] ty #[su,xu]).run P w= .ok v' w':=by
 unfold Vi at h
 split at h
 case h_2=>cases h
 rename_i es k m
 split at h
 case h_2=>cases h
 rename_i size bytes z hsz hby hz
 cases hb:(Nat.beq z.cells.length size && Nat.blt 0 size && Nat.blt 0 m.toNat && Nat.ble m.toNat 1024 && Nat.ble bytes yN && yL z.cells)with
 |false=>rw [hb]at h;cases h
 |true=>
  rw [hb]at h
  cases h
  simp only [Bool.and_eq_true]at hb
  obtain⟨⟨⟨⟨⟨b1,b2⟩,b3⟩,b4⟩,b5⟩,b6⟩:=hb
  have b1:=Nat.eq_of_beq_eq_true b1
  have b2:0<size:=by rw [Nat.blt_eq]at b2;exact b2
  have b3:0<m.toNat:=by rw [Nat.blt_eq]at b3;exact b3
  have b4:=Nat.le_of_ble_eq_true b4
  have b5:=Nat.le_of_ble_eq_true b5
  cases hs
  cases hx
  have hm:((m.toNat:Nat):Int)=m:=by omega
  unfold qk at hz
  split at hz
  case h_2=>cases hz
  rename_i i hi
  split at hz
  case h_2=>cases hz
  rename_i zv hzv
  have hzr: ∀V,zL V z zv:=fun V=>gg V 4 zv z hz
  have hsz':i.size=size:=by unfold yH at hsz;rw [hi]at hsz;cases hsz;rfl
  have hby':i.bytes=bytes:=by unfold qC at hby;rw [hi]at hby;cases hby;rfl
  have hmb:m.toNat*i.bytes≤281474976710656:=by
   rw [hby']
   have:=Nat.mul_le_mul b4 b5
   unfold yN at this
   omega
  have hrun:=Go.Lib.run_append_nil_zeros (P:=P) w t xt ty e i zv k kn hu hxu hi hzv m.toNat b3 (by omega) (by omega) hmb
  rw [hm]at hrun
  have hge:=grownCap_ge w m.toNat 0 e
  have hzs:zv.cells.size=size:=by rw [(hzr V).cells_size,b1]
  have hrl:yX V (yA z.cells m.toNat) (Builtin.zeroCells zv.cells m.toNat).toList:=by
   have:=gG (hzr V) m.toNat zv.cells (fun _=>rfl)
   have ez:((Array.range (m.toNat*z.cells.length)).map (zv.cells[· %zv.cells.size]!)).toList=(Builtin.zeroCells zv.cells m.toNat).toList:=by rw [←(hzr V).cells_size];rfl
   rw [ez]at this;exact this
  have hcs: ∀u,u ∈ yA z.cells m.toNat→u.isCell=true:=by
   have hz1: ∀u,u ∈ z.cells→u.isCell=true:=by
    have hall: ∀ {l:List AVal},yL l=true→ ∀u,u ∈ l→u.isCell=true:=by
     intro l
     induction l with
     |nil=>intro _ u hu;cases hu
     |cons a l ih=>
      intro h u hu
      have h:(a.isCell && yL l)=true:=h
      rw [Bool.and_eq_true]at h
      rcases List.mem_cons.1 hu with rfl|hu
      ·exact h.1
      exact ih h.2 u hu
    exact hall b6
   generalize m.toNat=q
   induction q with
   |zero=>intro u hu;cases hu
   |succ q ih=>
    intro u hu
    rcases List.mem_append.1 hu with hu|hu
    ·exact hz1 u hu
    exact ih u hu
  have hlen:(yA z.cells m.toNat).length=m.toNat*size:=by rw [uF,b1]
  have hrest:(Builtin.zeroCells zv.cells (grownCap w m.toNat 0 e-m.toNat)).toList.length=(grownCap w m.toNat 0 e-m.toNat)*size:=by simp [Builtin.zeroCells,hzs]
  have hS:grownCap w m.toNat 0 e*size=(yA z.cells m.toNat).length+(Builtin.zeroCells zv.cells (grownCap w m.toNat 0 e-m.toNat)).toList.length:=by
   rw [hlen,hrest,←Nat.add_mul];congr 1;omega
  have hW1:=hW.drew
  have hrow:=jL (B:=B) hrl hcs w.drew.heap.size (grownCap w m.toNat 0 e*size) e _ hW1.size hS
  have hal:=hW1.alloc hrow
  refine⟨_,_,V.bind H.next (w.drew.heap.size,0,grownCap w m.toNat 0 e*size),_,.slice (some ⟨w.heap.size,0,none⟩) m.toNat (grownCap w m.toNat 0 e),rfl,hW1.extAlloc (newRow (yA z.cells m.toNat)) (w.drew.heap.size,0,grownCap w m.toNat 0 e*size),hal,?_,?_⟩
  ·have:=zL.slice (V:=V.bind H.next (w.drew.heap.size,0,grownCap w m.toNat 0 e*size)) H.next 0 m.toNat none size w.drew.heap.size 0 (grownCap w m.toNat 0 e*size) (grownCap w m.toNat 0 e) (qS.bind_at _ _ _) hge (fun k h=>by cases h) (by omega)
   simpa using this
  have e1: ∀A C:Array Value,(A.toList++C.toList).toArray=A++C:=fun A C=>by apply Array.toList_inj.1;simp
  rw [e1]
  exact hrun
theorem GQ (hW:zt B w0 V H w) {ts:Array TypeId} {ty:TypeId} {args:List AVal} {us:Array Value} (hl:yX V args us.toList) {r:zH} (h:vG P ts.toList H args=some r):
 ∃v H' V' w' v',r= .val v H'∧gX V V' H H'∧zt B w0 V' H' w'∧zL V' v v'∧(Builtin.append_ ts ty us).run P w= .ok v' w':=by
 unfold vG at h
 split at h
 case h_2=>cases h
 rename_i t xt ts' s x as hts
 obtain⟨su,hs0,hs⟩:=hl.at 0 s rfl
 obtain⟨xu,hx0,hx⟩:=hl.at 1 x rfl
 rw [Array.getElem?_toList]at hs0 hx0
 have ht0:ts[0]? =some t:=by
  have:ts.toList[0]? =some t:=by rw [hts];rfl
  simpa using this
 have ht1:ts[1]? =some xt:=by
  have:ts.toList[1]? =some xt:=by rw [hts];rfl
  simpa using this
 split at h
 case h_3=>cases h
 case h_2=>
  rename_i e kn hu hxu
  obtain⟨v,H',V',w',v',h1,h2,h3,h4,h5⟩:=Ga (ty:=ty) hW hs hx hu hxu h
  refine⟨v,H',V',w',v',h1,h2,h3,h4,?_⟩
  rw [←h5]
  simp only [Builtin.append_,ht0,ht1,hs0,hx0]
  rfl
 rename_i e xe hu hxu
 split at h
 case h_2=>cases h
 rename_i size bytes z a len cap es n hsz hby hz hn
 obtain⟨zv,rz,hzr⟩:=uQ (P:=P) hz
 obtain⟨ti,hti,htb⟩:=ZG hby
 cases hb:Nat.beq z.cells.length size && Nat.ble (len+n) yN && Nat.ble bytes yN with
 |false=>rw [hb]at h;cases h
 |true=>
 rw [hb]at h
 simp only [cond_true]at h
 simp only [Bool.and_eq_true]at hb
 have hb1:=Nat.eq_of_beq_eq_true hb.1.1
 have hb2:=Nat.le_of_ble_eq_true hb.1.2
 have hb3:=Nat.le_of_ble_eq_true hb.2
 have hzsz:zv.cells.size=size:=by rw [(hzr V).cells_size,hb1]
 split at h
 case h_1=>cases h
 rename_i new hnew
 obtain⟨vs,hvl,hvc,hvr,_⟩:=Qo (P:=P) hW hx hnew
 have hlenr:=VN (P:=P) hx hn w
 have room: ∀c bs,c<len+n→su= .slice bs len c→ ∀(old:List Value),(∀w':World,w'.heap=w.heap→(Builtin.firstCells size len su).run P w'= .ok old.toArray w')→
  ∃w' c' rest,(w'=w∨w'=w.drew)∧len+n≤c'∧rest.length=(c'-(len+n))*size∧(Builtin.append_ ts ty us).run P w= .ok (.slice (some ⟨w'.heap.size,0,none⟩) (len+n) c') (w'.alloc (.cells (old++vs++rest).toArray e)):=by
  intro c bs hc hsu old hold
  obtain⟨c',w',hch,hw',hcv⟩:=p8 (P:=P) (.appendCap (len+n) c e) w
  have hc':len+n≤c':=by
   rw [hcv rfl]
   simp only [Question.cut]
   omega
  have hh:w'.heap=w.heap:=by rcases hw' with rfl|rfl<;>rfl
  have h1:=hold w' hh
  have h2:=hvr w' hh
  refine⟨w',c',(Builtin.zeroCells zv.cells (c'-(len+n))).toList,hw',hc',by simp [Builtin.zeroCells,hzsz],?_⟩
  have hm:(IntKind.i64.max:Int)=9223372036854775807:=by decide
  have g1: ¬(((len+n:Nat):Int)>IntKind.i64.max∧(False∨bytes=0)):=by
   rw [hm];unfold yN at hb2;omega
  have g2: ¬(Builtin.nextslicecap (len+n) c*bytes>2^48):=by
   have a1:=pf hc
   have a2:Builtin.nextslicecap (len+n) c*bytes≤(2*yN+768)*yN:=Nat.mul_le_mul (by omega) hb3
   have a3:(2*yN+768)*yN=2199828561920:=by decide
   simp only [Nat.reducePow]
   omega
  subst hsu
  simp only [Builtin.append_,ht0,hs0,hx0,ht1,Sem.run_bind,zK hu,zK hxu,Result.andThen_ok,yf hsz,Sem.run_pure,Bool.false_eq_true,if_false,hlenr]
  rw [if_neg (by omega)]
  simp only [Sem.run_bind,wj hti,Result.andThen_ok,htb]
  rw [if_neg g1]
  simp only [Sem.run_bind,wj hti,Result.andThen_ok,htb]
  rw [if_neg g2]
  simp only [Sem.run_bind,hch,Result.andThen_ok,wj hti,VM,h1,h2,rz,Bool.not_false,if_true,Go.newRow,uc,Sem.run_pure]
  congr 3
  simp
 have inplace: ∀c bs,len+n≤c→su= .slice bs len c→ ∀w',(match bs with
  |some a=>storeCells (a.add (len*size)) vs
  |none=>pure ():Sem Unit).run P w= .ok () w'→(Builtin.append_ ts ty us).run P w= .ok (.slice bs (len+n) c) w':=by
  intro c bs hc hsu w' hst
  subst hsu
  simp only [Builtin.append_,ht0,hs0,hx0,ht1,Sem.run_bind,zK hu,zK hxu,Result.andThen_ok,yf hsz,Sem.run_pure,Bool.false_eq_true,if_false,hlenr]
  rw [if_pos hc]
  simp only [Bool.not_false,if_true,Sem.run_bind,hvr w rfl,Result.andThen_ok]
  cases bs with
  |none=>simp only [Sem.run_pure,Result.ok.injEq,true_and]at hst;subst hst;simp
  |some a=>
   simp only at hst
   simp only [Sem.run_bind]
   rw [hst]
   rfl
 have hnl:new.length=vs.length:=hvl.length
 have hnn:new.length=n*size:=by assumption
 have fresh: ∀(w':World) (c':Nat) (old:List AVal) (oldv rest:List Value) (H1:Hp),zt B w0 V H1 w'→H1.next=H.next→len+n≤c'→rest.length=(c'-(len+n))*size→yX V old oldv→(∀u,u ∈ old→u.isCell=true)→old.length=len*size→
  (gX V V H H1→gX V (V.bind H.next (w'.heap.size,0,c'*size)) H (wC H1 (old++new)))∧zt B w0 (V.bind H.next (w'.heap.size,0,c'*size)) (wC H1 (old++new)) (w'.alloc (.cells (oldv++vs++rest).toArray e))∧zL (V.bind H.next (w'.heap.size,0,c'*size)) (.slice (some (H.next,0)) (len+n) none size) (.slice (some ⟨w'.heap.size,0,none⟩) (len+n) c'):=by
  intro w' c' old oldv rest H1 hW1 hH1 hc' hrl ho hoc hol
  have hS:c'*size=(old++new).length+rest.length:=by
   rw [List.length_append,hol,hnn,hrl,←Nat.add_mul,←Nat.add_mul]
   congr 1;omega
  have hrow:=jL (B:=B) (ho.append hvl) (fun u hu=>by rcases List.mem_append.1 hu with h|h;exact hoc u h;exact hvc u h) w'.heap.size (c'*size) e rest hW1.size hS
  have hal:=hW1.alloc hrow
  rw [hH1]at hal
  refine⟨fun hE=>hE.trans (by have:=hW1.extAlloc (newRow (old++new)) (w'.heap.size,0,c'*size);rw [hH1]at this;exact this),hal,?_⟩
  have:=zL.slice (V:=V.bind H.next (w'.heap.size,0,c'*size)) H.next 0 (len+n) none size w'.heap.size 0 (c'*size) c' (qS.bind_at _ _ _) hc' (fun k h=>by cases h) (by omega)
  simpa using this
 have keep: ∀w',(w'=w∨w'=w.drew)→zt B w0 V H w':=by
  rintro w' (rfl|rfl)
  ·exact hW
  exact hW.drew
 split at h
 ·
  cases hs with
  |sliceN=>
   cases hn0:Nat.beq n 0 with
   |true=>
    rw [hn0]at h;cases h
    have:=Nat.eq_of_beq_eq_true hn0
    subst this
    exact⟨_,_,V,w,_,rfl,.refl V H,hW,.sliceN es,inplace 0 none (by omega) rfl w (by simp)⟩
   |false=>
    rw [hn0]at h;cases h
    have hn0:n≠0:=fun e=>by subst e;cases hn0
    obtain⟨w',c',rest,hw',hc',hrl,hrun⟩:=room 0 none (by omega) rfl [] (fun w' _=>by simp [Builtin.firstCells])
    obtain⟨f1,f2,f3⟩:=fresh w' c' [] [] rest H (keep w' hw') rfl hc' hrl .nil (by simp) (by simp)
    exact⟨_,_,_,_,_,rfl,f1 (.refl V H),f2,f3,hrun⟩
 ·
  rename_i i off
  obtain⟨a0,c,rfl,hlc0⟩: ∃a c,su= .slice (some a) len c∧len≤c:=by
   cases hs with
   |slice _ _ _ _ _ b base S c hbk hlc hcc hSS=>exact⟨_,c,rfl,hlc⟩
   |sliceE _ _ _ b base S o c _ hbk hcc hbo hSS=>exact⟨_,c,rfl,Nat.zero_le _⟩
   |sliceR _ _ _ _ _ b base S c a hbk hbl hlc hcc ha=>exact⟨_,c,rfl,hlc⟩
  cases hn0:Nat.beq n 0 with
  |true=>
   rw [hn0]at h;cases h
   have:=Nat.eq_of_beq_eq_true hn0
   subst this
   have hv0:vs= []:=List.eq_nil_of_length_eq_zero (by omega)
   refine⟨_,_,V,w,_,rfl,.refl V H,hW,hs,inplace c _ (by omega) rfl w ?_⟩
   subst hv0
   simp [storeCells]
  |false=>
  rw [hn0]at h
  simp only [cond_false]at h
  cases hes:Nat.beq es size with
  |false=>rw [hes]at h;cases h
  |true=>
  rw [hes]at h
  have:=Nat.eq_of_beq_eq_true hes
  subst this
  simp only [cond_true]at h
  split at h
  case h_2=>cases h
  rename_i rows hrows
  obtain⟨b,base,S,o,hbk,hae,hlc,hbo,hSS,hoo⟩: ∃b base S o,V.blk i=some (b,base,S)∧a0=⟨b,o,none⟩∧len≤c∧base≤o∧o+c*es≤base+S∧(len=0∨o=base+off):=by
   cases hs with
   |slice _ _ _ _ _ b base S c hbk hlc hcc hSS=>exact⟨b,base,S,_,hbk,rfl,hlc,by omega,by omega,.inr rfl⟩
   |sliceE _ _ _ b base S o c _ hbk hcc hbo hSS=>exact⟨b,base,S,o,hbk,rfl,Nat.zero_le _,hbo,hSS,.inl rfl⟩
   |sliceR _ _ _ _ _ b base S c a hbk hbl hlc hcc ha=>exact absurd (Ge hW hrows hbk) (by have:=hW.lim;omega)
  subst hae
  cases hr:Nat.ble (off+len*es) rows with
  |false=>rw [hr]at h;cases h
  |true=>
  rw [hr]at h
  simp only [cond_true]at h
  split at h
  case h_2=>cases h
  rename_i old hold
  cases h
  have hr:=Nat.le_of_ble_eq_true hr
  obtain⟨ro1,ro2,oldv,ro3,ro4⟩:=Z9 hW hbk hold
  have roll:=ro3.length
  by_cases hroom:len+n≤c
  ·
   unfold Hp.rowW at hrows
   split at hrows
   case h_2=>cases hrows
   rename_i cc m ho
   cases hrows
   obtain⟨xo,hxo,hor⟩:=hW.obj i _ b base S ho hbk
   cases hor with
   |cells _ _ _ _ _ _ arr el fz hrw hfz hS' hn' hall hcs=>
   obtain⟨rfl,hB⟩:=hrw rfl
   replace hS':=hS' rfl
   have hone:=fI hvl hvc
   have hfit:(len+n)*es≤c*es:=Nat.mul_le_mul_right _ hroom
   rw [Nat.add_mul]at hfit
   obtain⟨arr',hst,hsz',harr'⟩:=r6 (P:=P) (k0:=o+len*es) hxo (by omega) hone
   have hbel:Below B w (w.setRow b arr'):=⟨rfl,rfl,rfl,by simp [World.setRow],fun k hk=>gf w b k _ (by omega)⟩
   have hors:Zd V B (newRow (old++new)) b o (base+S-o) (.cells arr' el):=by
    have hlen:(old++new).length=len*es+n*es:=by rw [List.length_append,ro1,hnn]
    refine .cells true _ _ b o (base+S-o) arr' el (0,0) (fun _=>⟨rfl,hB⟩) (fun _=>rfl) (fun _=>by rw [hsz'];omega) (by omega) (fun _ j hj=> ?_) (fun j q hq=> ?_)
    ·rw [Tr.get_ofList,if_pos (by omega)]
     exact⟨(old++new)[j]'hj,by simp only [Nat.sub_zero];exact List.getElem?_eq_getElem hj⟩
    rw [Tr.get_ofList]at hq
    split at hq
    ·rename_i hj
     simp only [Nat.sub_zero]at hq
     have hjl:j<(old++new).length:=(List.getElem?_eq_some_iff.1 hq).1
     by_cases hjo:j<old.length
     ·rw [List.getElem?_append_left hjo]at hq
      obtain⟨v,h1,h2⟩:=ro3.at j q hq
      refine⟨by omega,ro2 q (List.mem_of_getElem? hq),v,?_,h2⟩
      rw [harr',if_neg (by omega)]
      have:=ro4 j v h1
      have hlen0:len≠0:=fun e=>by rw [e,Nat.zero_mul]at ro1;omega
      rw [hoo.resolve_left hlen0]
      simpa [World.cell?,hxo,wW] using this
     rw [List.getElem?_append_right (by omega)]at hq
     obtain⟨v,h1,h2⟩:=hvl.at _ q hq
     refine⟨by omega,hvc q (List.mem_of_getElem? hq),v,?_,h2⟩
     have hjv:j-old.length<vs.length:=(List.getElem?_eq_some_iff.1 h1).1
     rw [harr',if_pos (by omega),←h1]
     congr 1;omega
    rw [Tr.get_nil]at hq;cases hq
   have hal:=hW.alias (base':=o) (S':=base+S-o) hbk ho hbel (by simp [World.setRow]) (fun k hk=>gf w b k _ hk) (setRow_heap w b arr _ el (0,0) hxo) hors
   refine⟨_,_,_,_,_,rfl,(gX.del hbk).trans ((hW.del i).extAlloc (newRow (old++new)) (b,o,base+S-o)),hal,?_,inplace c _ hroom rfl _ (by simp only [wW];exact hst)⟩
   have:=zL.slice (V:=V.bind H.next (b,o,base+S-o)) H.next 0 (len+n) none es b o (base+S-o) c (qS.bind_at _ _ _) hroom (fun k h=>by cases h) (by omega)
   simpa using this
  ·obtain⟨w',c',rest,hw',hc',hrl,hrun⟩:=room c _ (by omega) rfl oldv (fun w' hh=>by
    have:=run_loadCells_list (P:=P) w' ⟨b,o,none⟩ oldv (fun j v hj=>by
     have hj2:=(List.getElem?_eq_some_iff.1 hj).1
     have hlen0:len≠0:=fun e=>by rw [e,Nat.zero_mul]at ro1;omega
     rw [←ro4 j v hj,hoo.resolve_left hlen0];simp only [World.cell?,hh])
    rw [←roll,ro1]at this
    simpa [Builtin.firstCells] using this)
   obtain⟨f1,f2,f3⟩:=fresh w' c' old oldv rest ⟨H.t.del i,H.next⟩ ((keep w' hw').del i) rfl hc' hrl ro3 ro2 ro1
   exact⟨_,_,_,_,_,rfl,f1 (.del hbk),f2,f3,hrun⟩
 ·
  rename_i i off ck
  cases hn0:Nat.beq n 0 with
  |true=>
   rw [hn0]at h;cases h
   have:=Nat.eq_of_beq_eq_true hn0
   subst this
   have hv0:vs= []:=List.eq_nil_of_length_eq_zero (by omega)
   subst hv0
   refine⟨_,_,V,w,_,rfl,.refl V H,hW,hs,?_⟩
   cases hs with
   |sliceE _ _ _ b base S o c _ hbk hcc hbo hSS=>exact inplace _ _ (by omega) rfl w (by simp [storeCells])
   |slice _ _ _ _ _ b base S c hbk hlc hcc hSS=>exact inplace _ _ (by omega) rfl w (by simp [storeCells])
   |sliceR _ _ _ _ _ b base S c a hbk hbl hlc hcc ha=>exact inplace _ _ (by omega) rfl w (by simp [storeCells])
  |false=>
  rw [hn0]at h
  simp only [cond_false]at h
  have hn0:n≠0:=fun e=>by subst e;cases hn0
  cases hroom:Nat.ble (len+n) ck with
  |true=>
   rw [hroom]at h
   simp only [cond_true]at h
   split at h
   case h_2=>cases h
   rename_i H' hwr
   cases h
   have hroom:=Nat.le_of_ble_eq_true hroom
   cases hs with
   |sliceR _ _ _ _ _ b base S c a hbk hbl hlc hcc ha=>exact absurd (G1 hW hbk hwr) (by have:=hW.lim;omega)
   |sliceE _ _ _ b base S o c _ hbk hcc hbo hSS=>have:=hcc _ rfl;omega
   |slice _ _ _ _ _ b base S c hbk hlc hcc hSS=>
   have:=hcc _ rfl
   subst this
   obtain⟨w',hst,hW'⟩:=uH (P:=P) hW hbk hwr hvl
   refine⟨_,_,V,w',_,rfl,hW'.2,hW'.1,?_,inplace c _ (by omega) rfl _ (by simp only [wW];rw [Nat.add_assoc];exact hst)⟩
   exact .slice i off (len+n) _ es b base S c hbk hroom hcc hSS
  |false=>
   rw [hroom]at h
   simp only [cond_false]at h
   have hroom: ¬len+n≤ck:=fun e=>by rw [Nat.ble_eq_true_of_le e]at hroom;cases hroom
   cases hl0:Nat.beq len 0 with
   |true=>
    rw [hl0]at h
    cases h
    have:=Nat.eq_of_beq_eq_true hl0
    subst this
    obtain⟨a,rfl⟩: ∃a,su= .slice a 0 ck:=by
     cases hs with
     |sliceE _ _ _ b base S o c _ hbk hcc hbo hSS=>have:=hcc _ rfl;exact⟨_,by rw [this.1,this.2]⟩
     |slice _ _ _ _ _ b base S c hbk hlc hcc hSS=>have:=hcc _ rfl;exact⟨_,by rw [this]⟩
     |sliceR _ _ _ _ _ b base S c a hbk hbl hlc hcc ha=>have:=hcc _ rfl;exact⟨_,by rw [this]⟩
    obtain⟨w',c',rest,hw',hc',hrl,hrun⟩:=room ck _ (by omega) rfl [] (fun w' hh=>by cases a<;>simp [Builtin.firstCells,loadCells,loadCellsFrom])
    obtain⟨f1,f2,f3⟩:=fresh w' c' [] [] rest H (keep w' hw') rfl hc' hrl .nil (by simp) (by simp)
    exact⟨_,_,_,_,_,rfl,f1 (.refl V H),f2,f3,hrun⟩
   |false=>
   rw [hl0]at h
   simp only [cond_false]at h
   have hl0:len≠0:=fun e=>by subst e;cases hl0
   split at h
   case h_2=>cases h
   rename_i old hold
   cases h
   cases hs with
   |sliceE=>exact absurd rfl hl0
   |sliceR _ _ _ _ _ b base S c a hbk hbl hlc hcc ha=>
    have:=hcc _ rfl
    subst this
    obtain rfl:=ha (.inl (by omega))
    obtain⟨ro1,ro2,oldv,ro3,ro4⟩:=Z9 hW hbk hold
    have roll:=ro3.length
    obtain⟨w',c',rest,hw',hc',hrl,hrun⟩:=room c _ (by omega) rfl oldv (fun w' hh=>by
     have:=run_loadCells_list (P:=P) w' ⟨b,base+off,none⟩ oldv (fun j v hj=>by rw [←ro4 j v hj];simp only [World.cell?,hh])
     rw [←roll,ro1]at this
     simpa [Builtin.firstCells] using this)
    obtain⟨f1,f2,f3⟩:=fresh w' c' old oldv rest H (keep w' hw') rfl hc' hrl ro3 ro2 ro1
    exact⟨_,_,_,_,_,rfl,f1 (.refl V H),f2,f3,hrun⟩
   |slice _ _ _ _ _ b base S c hbk hlc hcc hSS=>
   have:=hcc _ rfl
   subst this
   obtain⟨ro1,ro2,oldv,ro3,ro4⟩:=Z9 hW hbk hold
   have roll:=ro3.length
   obtain⟨w',c',rest,hw',hc',hrl,hrun⟩:=room c _ (by omega) rfl oldv (fun w' hh=>by
    have:=run_loadCells_list (P:=P) w' ⟨b,base+off,none⟩ oldv (fun j v hj=>by rw [←ro4 j v hj];simp only [World.cell?,hh])
    rw [←roll,ro1]at this
    simpa [Builtin.firstCells] using this)
   obtain⟨f1,f2,f3⟩:=fresh w' c' old oldv rest H (keep w' hw') rfl hc' hrl ro3 ro2 ro1
   exact⟨_,_,_,_,_,rfl,f1 (.refl V H),f2,f3,hrun⟩
end Go.Px
end
section
namespace Go.Px
open Go Go.RowKit
variable {P:Program} {F:z9} {V:qS} {B:Nat} {w0 w:World} {H:Hp}
theorem p6 (hW:zt B w0 V H w) {ts:Array TypeId} {ty:TypeId} {args:List AVal} {us:Array Value} (hl:yX V args us.toList) {r:zH} (h:yI P F .copy ts.toList H args=some r):
 ∃v H' w' v',r= .val v H'∧gX V V H H'∧zt B w0 V H' w'∧zL V v v'∧(Builtin.copy_ ts ty us).run P w= .ok v' w':=by
 simp only [yI]at h
 split at h
 case h_2=>cases h
 rename_i t ts' i off n cap es x as hts
 obtain⟨su,hs0,hs⟩:=hl.at 0 _ rfl
 obtain⟨xu,hx0,hx⟩:=hl.at 1 x rfl
 rw [Array.getElem?_toList]at hs0 hx0
 have ht0:ts[0]? =some t:=by
  have:ts.toList[0]? =some t:=by rw [hts];rfl
  simpa using this
 split at h
 case h_2=>cases h
 rename_i e hu
 split at h
 case h_2=>cases h
 rename_i size m hsz hm
 split at h
 case h_2=>cases h
 rename_i cs hcs
 split at h
 case h_2=>cases h
 rename_i H' hwr
 cases h
 obtain⟨vs,hvl,hvc,hvr,hvn⟩:=Qo (P:=P) hW hx hcs
 have hlenr:=VN (P:=P) hx hm w
 cases hs with
 |sliceR _ _ _ _ _ b base S c a hbk hbl hlc hcc ha=>exact absurd (G1 hW hbk hwr) (by have:=hW.lim;omega)
 |sliceE _ _ _ b base S o c _ hbk hcc hbo hSS=>
  obtain⟨w',hst,hW',hE⟩:=uH (P:=P) hW hbk hwr hvl
  have hm0:Nat.min m 0=0:=Nat.min_zero m
  rw [hm0]at hvn hvr
  have hv0:vs= []:=List.eq_nil_of_length_eq_zero (by have:=hvl.length;omega)
  subst hv0
  have hww:w'=w:=by simpa [storeCells] using hst.symm
  subst hww
  refine⟨_,_,w',_,rfl,hE,hW',.int .i64 _,?_⟩
  simp only [Builtin.copy_,ht0,hs0,hx0,Sem.run_bind,zK hu,Result.andThen_ok,hlenr,yf hsz,Nat.min_zero,hvr w' rfl,storeCells,Sem.run_pure]
  rfl
 |slice _ _ _ _ _ b base S c hbk hlc hcc hSS=>
 obtain⟨w',hst,hW',hE⟩:=uH (P:=P) hW hbk hwr hvl
 refine⟨_,_,w',_,rfl,hE,hW',.int .i64 _,?_⟩
 simp only [Builtin.copy_,ht0,hs0,hx0,Sem.run_bind,zK hu,Result.andThen_ok,hlenr,yf hsz,hvr w rfl,hst,Sem.run_pure]
 rfl
theorem bP (hW:zt B w0 V H w) {ts:Array TypeId} {ty:TypeId} {args:List AVal} {us:Array Value} (hl:yX V args us.toList) {r:zH} (h:yI P F .clear ts.toList H args=some r):
 ∃v H' w' v',r= .val v H'∧gX V V H H'∧zt B w0 V H' w'∧zL V v v'∧(Builtin.clear_ ts ty us).run P w= .ok v' w':=by
 simp only [yI]at h
 split at h
 case h_3=>cases h
 ·rename_i t ts' i off n cap es as hts
  obtain⟨su,hs0,hs⟩:=hl.at 0 _ rfl
  rw [Array.getElem?_toList]at hs0
  have ht0:ts[0]? =some t:=by
   have:ts.toList[0]? =some t:=by rw [hts];rfl
   simpa using this
  split at h
  case h_2=>cases h
  rename_i e hu
  split at h
  case h_2=>cases h
  rename_i z hz
  obtain⟨zv,rz,hzr⟩:=uQ (P:=P) hz
  split at h
  case h_2=>cases h
  rename_i H' hwr
  cases h
  cases hs with
  |sliceR _ _ _ _ _ b base S c a hbk hbl hlc hcc ha=>exact absurd (G1 hW hbk hwr) (by have:=hW.lim;omega)
  |sliceE _ _ _ b base S o c _ hbk hcc hbo hSS=>
   have hrl:=gG (hzr V) 0 zv.cells (fun _=>rfl)
   have ez:((Array.range (0*z.cells.length)).map (zv.cells[· %zv.cells.size]!)).toList=(Builtin.zeroCells zv.cells 0).toList:=by simp [Builtin.zeroCells]
   rw [ez]at hrl
   obtain⟨w',hst,hW',hE⟩:=uH (P:=P) hW hbk hwr hrl
   have e0:(Builtin.zeroCells zv.cells 0).toList= []:=by simp [Builtin.zeroCells]
   rw [e0]at hst
   have hww:w'=w:=by simpa [storeCells] using hst.symm
   subst hww
   refine⟨_,_,w',_,rfl,hE,hW',uk V,?_⟩
   simp [Builtin.clear_,ht0,hs0,zK hu,undef]
  |slice _ _ _ _ _ b base S c hbk hlc hcc hSS=>
  have hrl:=gG (hzr V) n zv.cells (fun _=>rfl)
  have ez:((Array.range (n*z.cells.length)).map (zv.cells[· %zv.cells.size]!)).toList=(Builtin.zeroCells zv.cells n).toList:=by rw [←(hzr V).cells_size];rfl
  rw [ez]at hrl
  obtain⟨w',hst,hW',hE⟩:=uH (P:=P) hW hbk hwr hrl
  refine⟨_,_,w',_,rfl,hE,hW',uk V,?_⟩
  cases n with
  |zero=>
   have:w'=w:=by
    have e0:(Builtin.zeroCells zv.cells 0).toList= []:=by simp [Builtin.zeroCells]
    rw [e0]at hst
    simpa [storeCells] using hst.symm
   subst this
   simp [Builtin.clear_,ht0,hs0,zK hu,undef]
  |succ n=>
   simp only [Builtin.clear_,ht0,hs0,Sem.run_bind,zK hu,Result.andThen_ok,rz,hst,Sem.run_pure]
   rfl
 rename_i t ts' n cap es as hts
 obtain⟨su,hs0,hs⟩:=hl.at 0 _ rfl
 rw [Array.getElem?_toList]at hs0
 have ht0:ts[0]? =some t:=by
  have:ts.toList[0]? =some t:=by rw [hts];rfl
  simpa using this
 split at h
 case h_2=>cases h
 rename_i e hu
 cases h
 cases hs with
 |sliceN=>
 refine⟨_,_,w,_,rfl,.refl V H,hW,uk V,?_⟩
 simp [Builtin.clear_,ht0,hs0,zK hu,undef]
theorem Wk (hF:GG F V.ρ) (hW:zt B w0 V H w) {t:TypeId} {m k:OV} {mu ku:Value} (hm: ∀v,m=some v→zL V v mu) (hk: ∀v,k=some v→zL V v ku)
 {r:zH} (h:ZR P F t m k H=some r): ∃v H' w' v',r= .val v H'∧gX V V H H'∧zt B w0 V H' w'∧zL V v v'∧(Instr.mapEntry t mu ku).run P w= .ok v' w':=by
 unfold ZR at h
 split at h
 case h_2=>cases h
 rename_i i k kt et hu
 replace hm:=hm _ rfl
 replace hk:=hk _ rfl
 cases hf:wM P kt k with
 |false=>rw [hf]at h;cases h
 |true=>
 rw [hf]at h
 simp only [cond_true]at h
 split at h
 case h_2=>cases h
 rename_i es clock z hma hz
 obtain⟨zv,rz,hzr⟩:=uQ (P:=P) hz
 obtain⟨b,base,S,hb,rfl⟩:=hm.inv_map
 obtain⟨ho,ms,hms,hmr,hB⟩:=gu hW hb hma
 have hno: ∀(es:Array MapEntry) c a t f,Obj.map es c≠ .cells a t f:=fun _ _ _ _ _=>nofun
 split at h
 ·rename_i j e hfe
  obtain⟨q,h1,h2⟩:=wQ hF hW hk hf hmr hfe
  rcases h2 with⟨h2,_⟩|⟨j',e',m',h2,rfl,h3,h4⟩
  ·cases h2
  cases h2
  cases hkb:j9 k e.key with
  |false=>rw [hkb]at h;cases h
  |true=>
   rw [hkb]at h;cases h
   have hE:=hmr.2 j e m' h3 h4
   obtain⟨_,hsame⟩:=J3 (V:=V) hkb
   obtain⟨he,hsb⟩:=hsame ku m'.key hk hE.key
   have h4':ms[j]? =some m':=by simpa using h4
   have hstay:(Instr.keyThatStays (((ms[j]?).map (·.key)).getD ku) ku).run P w= .ok ku w:=by
    rw [h4']
    simp only [Option.map_some,Option.getD_some,Instr.keyThatStays,hsb,if_true,Sem.run_pure]
   have hput:=hW.putObj hb ho hB (o':= .map (es.set j ⟨k,e.val,e.born⟩) clock) (x':= .map (ms.modify j fun e=> { e with key:=ku }) clock) (by
    refine .map _ _ _ _ _ _ hB (by simp;simpa using hmr.1) fun n e1 m1 he1 hm1=> ?_
    rw [Array.getElem?_modify]at hm1
    by_cases hn:n=j
    ·subst hn
     have hlt:n<es.length:=(List.getElem?_eq_some_iff.1 h3).1
     simp [hlt]at he1
     rw [if_pos rfl,h4']at hm1
     simp at hm1
     subst he1 hm1
     exact⟨hk,hE.val,hE.born⟩
    rw [List.getElem?_set_ne (Ne.symm hn)]at he1
    rw [if_neg (Ne.symm hn)]at hm1
    exact hmr.2 n e1 m1 he1 (by simpa using hm1))
   refine⟨_,_,_,.tuple #[m'.val,goInt m'.born],rfl,hput.2,hput.1,?_,?_⟩
   ·have:yX V [e.val,YM e.born] [m'.val,goInt m'.born]:= .cons hE.val (.cons (by rw [hE.born];exact .int .i64 _) .nil)
    exact zL.tupleL this
   simp only [Instr.mapEntry,Sem.run_bind,zK hu,Result.andThen_ok,wS hms,qx hf hk,h1,hstay,wk hms (hno _ _),Sem.run_pure]
   rw [h4'];rfl
 ·rename_i hfe
  cases h
  obtain⟨q,h1,h2⟩:=wQ hF hW hk hf hmr hfe
  rcases h2 with⟨_,rfl⟩|⟨j',e',m',h2,_⟩
  ·have hput:=hW.putObj hb ho hB (o':= .map (es++ [⟨k,z,clock⟩]) (clock+1)) (x':= .map (ms.push { key:=ku,val:=zv,born:=clock }) (clock+1)) (by
    have hlen:es.length=ms.size:=by simpa using hmr.1
    refine .map _ _ _ _ _ _ hB (by simp [hlen]) fun n e1 m1 he1 hm1=> ?_
    rw [Array.getElem?_push]at hm1
    by_cases hn:n=ms.size
    ·subst hn
     rw [if_pos rfl]at hm1
     rw [←hlen]at he1
     simp at he1 hm1
     subst he1 hm1
     exact⟨hk,hzr V,rfl⟩
    rw [if_neg hn]at hm1
    have hlt:n<ms.size:=(Array.getElem?_eq_some_iff.1 hm1).1
    rw [List.getElem?_append_left (by omega)]at he1
    exact hmr.2 n e1 m1 he1 (by simpa using hm1))
   refine⟨_,_,_,.tuple #[zv,goInt clock],rfl,hput.2,hput.1,?_,?_⟩
   ·have:yX V [z,YM clock] [zv,goInt clock]:= .cons (hzr V) (.cons (.int .i64 _) .nil)
    exact zL.tupleL this
   simp only [Instr.mapEntry,Sem.run_bind,zK hu,Result.andThen_ok,wS hms,qx hf hk,h1,rz,wk hms (hno _ _),Sem.run_pure]
  cases h2
 cases h
theorem bi (b:Nat): ∀(es:List vD) (ms:List MapEntry) (i j:Nat) (e:vD),(∀(n:Nat) (x:vD) (m:MapEntry),es[n]? =some x→ms[n]? =some m→m.born=x.born)→es.length=ms.length→Jo b es i=some (j,e)→
 i≤j∧es[j-i]? =some e∧ms.findIdx? (fun m=>(m.born:Int)==(b:Int))=some (j-i):=by
 intro es
 induction es with
 |nil=>intro ms i j e _ _ h;cases h
 |cons x es ih=>
  intro ms i j e hb hl h
  cases ms with
  |nil=>simp at hl
  |cons m ms=>
   have hbm:=hb 0 x m rfl rfl
   simp only [Jo]at h
   cases hx:Nat.beq x.born b with
   |true=>
    rw [hx]at h;cases h
    have:=Nat.eq_of_beq_eq_true hx
    refine⟨Nat.le_refl _,by simp,?_⟩
    simp [List.findIdx?_cons,hbm,this]
   |false=>
    rw [hx]at h
    have hne:x.born≠b:=fun e=>by subst e;simp at hx
    obtain⟨h1,h2,h3⟩:=ih ms (i+1) j e (fun n y q hy hq=>hb (n+1) y q (by simpa using hy) (by simpa using hq)) (by simpa using hl) h
    refine⟨by omega,?_,?_⟩
    ·rw [show j-i=(j-(i+1))+1 by omega];simpa using h2
    have:((m.born:Int)==(b:Int))=false:=by
     rw [hbm];simp;omega
    rw [List.findIdx?_cons,this]
    simp only [Bool.false_eq_true,if_false,h3,Option.map_some]
    congr 1;omega
theorem QI (hW:zt B w0 V H w) {t:TypeId} {m s x:OV} {mu su xu:Value} (hm: ∀v,m=some v→zL V v mu) (hs: ∀v,s=some v→zL V v su) (hx: ∀v,x=some v→zL V v xu)
 {r:zH} (h:gc m s x H=some r): ∃H' w',r= .val unit H'∧gX V V H H'∧zt B w0 V H' w'∧(Instr.entryStore t mu su xu).run P w= .ok () w':=by
 unfold gc at h
 split at h
 case h_2=>cases h
 rename_i i s x
 replace hm:=hm _ rfl
 replace hs:=hs _ rfl
 replace hx:=hx _ rfl
 split at h
 case h_2=>cases h
 rename_i b es clock hn hma
 split at h
 case h_2=>cases h
 rename_i j e hbo
 cases h
 obtain⟨bk,base,S,hb,rfl⟩:=hm.inv_map
 obtain⟨ho,ms,hms,hmr,hB⟩:=gu hW hb hma
 obtain⟨k,rfl⟩:=wA hn hs
 have hno: ∀(es:Array MapEntry) c a t f,Obj.map es c≠ .cells a t f:=fun _ _ _ _ _=>nofun
 obtain⟨_,h3,h4⟩:=bi b es ms.toList 0 j e (fun n y q hy hq=>(hmr.2 n y q hy hq).born) hmr.1 hbo
 simp only [Nat.sub_zero]at h3 h4
 have hput:=hW.putObj hb ho hB (o':= .map (es.set j ⟨e.key,x,e.born⟩) clock) (x':= .map (ms.modify j fun e=> { e with val:=xu }) clock) (by
  refine .map _ _ _ _ _ _ hB (by simp;simpa using hmr.1) fun n e1 m1 he1 hm1=> ?_
  rw [Array.getElem?_modify]at hm1
  by_cases hn:n=j
  ·subst hn
   have hlt:n<es.length:=(List.getElem?_eq_some_iff.1 h3).1
   simp [hlt]at he1
   rw [if_pos rfl]at hm1
   cases hmj:ms[n]? with
   |none=>rw [hmj]at hm1;cases hm1
   |some mj=>
    rw [hmj]at hm1
    simp at hm1
    subst he1 hm1
    have hE:=hmr.2 n e mj h3 (by simpa using hmj)
    exact⟨hE.key,hx,hE.born⟩
  rw [List.getElem?_set_ne (Ne.symm hn)]at he1
  rw [if_neg (Ne.symm hn)]at hm1
  exact hmr.2 n e1 m1 he1 (by simpa using hm1))
 refine⟨_,_,rfl,hput.2,hput.1,?_⟩
 have h5:ms.findIdx? (fun m=>(m.born:Int)==(b:Int))=some j:=by
  rw [←h4,←List.findIdx?_toArray,Array.toArray_toList]
 simp only [Instr.entryStore,Sem.run_bind,wS hms,Result.andThen_ok,asInt,asIntOf,Sem.run_pure,h5]
 exact wk hms (hno _ _)
end Go.Px
end
section
namespace Go.Px
open Go Go.RowKit
variable {P:Program} {F:z9} {V:qS} {B:Nat} {w0 w:World} {H:Hp}
def jG (P:Program) (f:FuncId):Prop:= ∃fn,P.funcs[f]? =some fn∧(fn.name== "runtime.NumGoroutine")=false∧fn.body.isNone=false
theorem kJ {f:FuncId} (h:jG P f) (args:Array Value) (w:World):(callFunc f args).run P w= .ok (.enter f args) w:=by
 obtain⟨fn,h1,h2,h3⟩:=h
 have h2': ¬fn.name= "runtime.NumGoroutine" :=by simpa using h2
 have h3': ¬fn.body=none:=by intro e;rw [e]at h3;cases h3
 simp [callFunc,program,Sem.run,h1,h2',h3']
structure DF (P:Program) (B:Nat) (w0:World) (V:qS) (H:Hp) (w:World) (a:Act) (o:Oper) (v:AVal) (H':Hp) (V':qS) (w':World) (v':Value):Prop where
 ext:gX V V' H H'
 rel:zt B w0 V' H' w'
 val:zL V' v v'
 run:(execOp a.eval o).run P w= .ok (.value v') w'∨((execOp a.eval o).run P w= .ok .skip w'∧v'=undef)
theorem xN (hF:GG F V.ρ) (hW:zt B w0 V H w) {T:Tm} {a:Act} {o:Oper} (hT:J5 V T a o.op.operands) {r:zH} (h:yJ P F T H o=some r):
 (∃v H' V' w' v',r= .val v H'∧DF P B w0 V H w a o v H' V' w' v')∨
  (∃f args args',r= .call f args∧yX V args args'.toList∧(jG P f→(execOp a.eval o).run P w= .ok (.enter f args') w)):=by
 cases hq:gb o.op with
 |true=>
  obtain⟨v,v',h1,h2,h3⟩:=YN hF hW hT hq h
  exact .inl ⟨v,H,V,w,v',h1,.refl V H,hW,h2,.inl h3⟩
 |false=>
 cases ha:qU o.op with
 |true=>
  obtain⟨v,ob,x,base,S,v',h1,h2,h3,h4⟩:=VI hW.size hT ha h
  exact .inl ⟨v,_,V.bind H.next (w.heap.size,base,S),_,v',h1,hW.extAlloc _ _,hW.alloc h3,h4 _ (hW.bind_le _) (qS.bind_at _ _ _),.inl h2⟩
 |false=>
 obtain⟨dst,op,ty,pos,after,guard⟩:=o
 have ev: ∀ {x:Operand},x ∈ op.operands→ ∀v,opnd T x=some v→zL V v (a.eval x):=fun hx v h=>hT _ hx v h
 clear hT
 have unitUp: ∀ {H':Hp} {w':World} {s:Sem Unit},gX V V H H'→zt B w0 V H' w'→s.run P w= .ok () w'→(execOp a.eval ⟨dst,op,ty,pos,after,guard⟩)=(do s;pure .skip)→
  DF P B w0 V H w a ⟨dst,op,ty,pos,after,guard⟩ unit H' V w' undef:=by
  intro H' w' s h1 h2 h3 e
  exact⟨h1,h2,uk V,.inr ⟨by rw [e];simp [h3],rfl⟩⟩
 cases op<;>simp only [gb,qU]at hq ha<;>try (first|(cases hq;done)|(cases ha;done)|(cases h;done))
 case store t x y=>
  obtain⟨H',w',h1,h2,h3,h4⟩:=GX hW (ev (by simp [Op.operands])) (ev (by simp [Op.operands])) h
  exact .inl ⟨_,_,_,_,_,h1,unitUp h4 h3 h2 rfl⟩
 case mapUpdate t m k x=>
  obtain⟨H',w',h1,h2,h3,h4⟩:=Zw hF hW (ev (by simp [Op.operands])) (ev (by simp [Op.operands])) (ev (by simp [Op.operands])) h
  exact .inl ⟨_,_,_,_,_,h1,unitUp h4 h3 h2 rfl⟩
 case insert t m k x=>
  obtain⟨H',w',h1,h2,h3,h4⟩:=Zw hF hW (ev (by simp [Op.operands])) (ev (by simp [Op.operands])) (ev (by simp [Op.operands])) h
  exact .inl ⟨_,_,_,_,_,h1,unitUp h4 h3 h2 rfl⟩
 case mapEntry t m k=>
  obtain⟨v,H',w',v',h1,h2,h3,h4,h5⟩:=Wk hF hW (ev (by simp [Op.operands])) (ev (by simp [Op.operands])) h
  exact .inl ⟨_,_,_,_,_,h1,h2,h3,h4,.inl (by simp [execOp,h5])⟩
 case entryStore t m s x=>
  obtain⟨H',w',h1,h2,h3,h4⟩:=QI (t:=t) hW (ev (by simp [Op.operands])) (ev (by simp [Op.operands])) (ev (by simp [Op.operands])) h
  exact .inl ⟨_,_,_,_,_,h1,unitUp h2 h3 h4 rfl⟩
 case call c=>
  obtain⟨callee,args,ats⟩:=c
  cases callee<;>simp only at hq<;>try (cases hq;done)
  case builtin b=>
   simp only [yJ,yU]at h
   split at h
   ·rename_i as has
    have hl:=jv (a:=a) (V:=V) (fun y hy=>ev (by simp [Op.operands,Call.operands];simpa using hy)) has
    have hl':yX V as (args.map a.eval).toList:=by simpa using hl
    have up: ∀ {v H' V' w' v'} {s:Sem Value},gX V V' H H'→zt B w0 V' H' w'→zL V' v v'→s.run P w= .ok v' w'→
     (∀cs,builtin b ats ty cs (args.map a.eval)=(do pure (.value (←s))))→
     DF P B w0 V H w a ⟨dst,.call ⟨.builtin b,args,ats⟩,ty,pos,after,guard⟩ v H' V' w' v':=by
     intro v H' V' w' v' s h1 h2 h3 h4 e
     refine⟨h1,h2,h3,.inl ?_⟩
     simp only [execOp,resolve,Sem.run_bind,Sem.run_pure,Result.andThen_ok,invoke]
     rw [e];simp [h4]
    cases b<;>simp only [k8]at hq<;>try (first|(cases hq;done)|(cases h;done))
    ·obtain⟨v,H',V',w',v',h1,h2,h3,h4,h5⟩:=GQ (ty:=ty) hW hl' h
     exact .inl ⟨v,H',V',w',v',h1,up h2 h3 h4 h5 (fun _=>rfl)⟩
    ·obtain⟨v,H',w',v',h1,h2,h3,h4,h5⟩:=bP (F:=F) (ty:=ty) hW hl' h
     exact .inl ⟨v,H',V,w',v',h1,up h2 h3 h4 h5 (fun _=>rfl)⟩
    ·obtain⟨v,H',w',v',h1,h2,h3,h4,h5⟩:=p6 (F:=F) (ty:=ty) hW hl' h
     exact .inl ⟨v,H',V,w',v',h1,up h2 h3 h4 h5 (fun _=>rfl)⟩
    simp only [yI]at h
    split at h
    case h_2=>cases h
    rename_i t ts' m k as' hts
    split at h
    case h_2=>cases h
    rename_i H' hd
    cases h
    obtain⟨mu,h1,h2⟩:=hl'.at 0 _ rfl
    obtain⟨ku,h3,h4⟩:=hl'.at 1 _ rfl
    rw [Array.getElem?_toList]at h1 h3
    have ht0:ats[0]? =some t:=by
     have:ats.toList[0]? =some t:=by rw [hts];rfl
     simpa using this
    obtain⟨w',h5,h6,h7⟩:=GV (ty:=ty) hF hW ht0 h1 h3 h2 h4 hd
    exact .inl ⟨_,H',V,w',_,rfl,up h7 h6 (uk V) h5 (fun _=>rfl)⟩
   cases h
  case invoke r m=>simp [yJ]at h
  case value f=>
   simp only [yJ,kq]at h
   split at h
   ·rename_i g xs ys as hf has
    cases h
    have hl:=jv (a:=a) (V:=V) (fun y hy=>ev (by simp [Op.operands,Call.operands];right;simpa using hy)) has
    have hv:=ev (x:=f) (by simp [Op.operands,Call.operands]) _ hf
    refine .inr ⟨g,xs++as++ys,?_⟩
    generalize he:a.eval f=u at hv
    cases hv with
    |func _ _ _ x y hx' hy' hxx hyy=>
    have h1:=yX.ofArray hx' hxx
    have h2:=yX.ofArray hy' hyy
    refine⟨x++args.map a.eval++y,rfl,?_,fun hc=> ?_⟩
    ·simpa using (h1.append hl).append h2
    simp only [execOp,resolve,Sem.run_bind,Sem.run_pure,Result.andThen_ok,Deferred.ofValue,he,invoke]
    exact kJ hc _ w
   cases h
end Go.Px
end
namespace Go.Px
open Go Go.RowKit
noncomputable section
inductive AExit where
 |normal
 |exit (id:Nat)
 |ret
structure Vg where
 code:Code→Tm→Hp→Option (AExit×Tm×Hp)
 call:FuncId→List AVal→Hp→Option (AVal×Hp)
def ze (T:Tm) (d:Option Tmp) (v:AVal):Tm:=match d with
 |some d=>Tm.put d v T
 |none=>T
def zJ (ops:Array Oper) (T:Tm) (o:Oper):Option Bool:=match o.guard with
 |none=>some true
 |some (j,want)=>match ops[j]? with
  |some g=>match g.dst with
   |some d=>match Tm.get d T with
    |some (.bool b)=>some (b==want)
    |some (.tuple _)=>some false
    |_=>none
   |none=>none
  |none=>none
def gS (P:Program) (F:z9) (rec:Vg) (ops:Array Oper) (T:Tm) (H:Hp) (o:Oper):Option (Tm×Hp):=match zJ ops T o with
 |some true=>match Zr P F T H o with
  |some (.val v H)=>some (ze T o.dst v,H)
  |some (.call f args)=>match rec.call f args H with
   |some (v,H)=>some (ze T o.dst v,H)
   |none=>none
  |none=>none
 |some false=>some (ze T o.dst unit,H)
 |none=>none
def ZE (P:Program) (F:z9) (rec:Vg) (ops:Array Oper):List Oper→Tm→Hp→Option (Tm×Hp)
 | [],T,H=>some (T,H)
 |o::os,T,H=>match gS P F rec ops T H o with
  |some (T,H)=>ZE P F rec ops os T H
  |none=>none
structure It where
 i:Nat
 o:Oper
 m:Nat
structure wZ where
 work:List It
 again:List It
 chain:Option It
def wu (e:Edge):Bool:=match e.ground with
 | .textOnly _=>false
 | .gcOnly _=>false
 |_=>true
def bL (acc:List It):List Edge→Option Nat
 | []=>some 0
 |e::es=>match bL acc es with
  |none=>none
  |some s=>bif wu e then(match acc[e.on]? with
   |some x=>some (s|||(1<<<e.on|||x.m))
   |none=>none)else some s
def U3:List Oper→List It→Option (List It)
 | [],acc=>some acc
 |o::os,acc=>match bL acc o.after.toList with
  |some m=>U3 os (acc++ [⟨acc.length,o,m⟩])
  |none=>none
def WZ:Op→Bool
 | .move _| .assign _| .pick .. | .build .. | .nilCheck _| .unOp .. | .makeInterface .. | .makeFunc .. | .fieldAddr .. | .field .. | .indexAddr .. | .index .. | .extract .. | .typeAssert .. =>true
 |_=>false
def wU (o:Op):Bool:= !(gb o||qU o)
def gT (o:Op):Bool:=gb o && !WZ o
def iN (d:Nat):Operand→Bool
 | .tmp t=>Nat.beq t d
 |_=>false
def gQ (ops:Array Oper) (o:Oper) (d:Nat):Bool:=
 o.op.operands.toList.any (iN d)||(match o.guard with
  |some (g,_)=>match ops[g]? with
   |some q=>match q.dst with
    |some e=>Nat.beq e d
    |none=>false
   |none=>false
  |none=>false)
def Vn:List It→Option (Tr Nat)
 | []=>some .nil
 |x::l=>match Vn l with
  |none=>none
  |some W=>match x.o.dst with
   |none=>some W
   |some d=>match W.get d with
    |none=>some (W.set d x.i)
    |some _=>none
def kE (W:Tr Nat) (m:Nat) (d:Nat):Bool:=match W.get d with
 |none=>true
 |some i=>Nat.testBit m i
def cy (W:Tr Nat) (m:Nat):Operand→Bool
 | .tmp t=>kE W m t
 |_=>true
def tH (ops:Array Oper) (W:Tr Nat) (m:Nat) (o:Oper):Bool:=match o.guard with
 |some (g,_)=>match ops[g]? with
  |some q=>match q.dst with
   |some e=>kE W m e
   |none=>true
  |none=>true
 |none=>true
def Qz (ops:Array Oper) (its:List It):Bool:=match Vn its with
 |none=>false
 |some W=>its.all fun y=>y.o.op.operands.toList.all (cy W y.m) && tH ops W y.m y.o
def UB:List It→Nat
 | []=>0
 |x::l=>1<<<x.i|||UB l
def pT (M:Nat):List It→Option Nat
 | []=>some M
 |p::l=>match pT M l with
  |none=>none
  |some N=>bif Nat.beq (Nat.land p.m N) 0 then some (1<<<p.i|||N)else none
def uo:List It→Option It
 | []=>none
 |x::l=>bif wU x.o.op then some x else uo l
def Zu:Nat→List It→List It→Option (List wZ)
 |0,_,_=>none
 |n+1,prev,rest=>match uo rest with
  |none=>bif (pT 0 rest).isSome then some [⟨rest,prev++rest.filter (fun x=>gT x.o.op),none⟩]else none
  |some c=>
   let W:=rest.filter fun x=> !wU x.o.op && !(Nat.testBit x.m c.i)
   let R:=rest.filter fun x=> !(Nat.beq x.i c.i) && (wU x.o.op||Nat.testBit x.m c.i)
   let A:=prev++W.filter fun x=>gT x.o.op
   bif ((pT (UB (c::R)) W).isSome && Nat.beq (Nat.land c.m (UB R)) 0) && R.all (fun x=>Nat.testBit x.m c.i)then
    match Zu n (A.filter fun x=> !(Nat.testBit c.m x.i)) R with
    |some l=>some (⟨W,A,some c⟩::l)
    |none=>none
   else none
def QG (ops:Array Oper):Option (List wZ):=match U3 ops.toList []with
 |some its=>bif Qz ops its then Zu (its.length+1) [] its else none
 |none=>none
def jO (P:Program) (F:z9) (ops:Array Oper) (T:Tm) (H:Hp) (o:Oper):Option (Tm×Hp):=match zJ ops T o with
 |some true=>match Zr P F T H o with
  |some (.val v H')=>some (ze T o.dst v,bif qU o.op then H' else H)
  |_=>none
 |some false=>some (ze T o.dst unit,H)
 |none=>none
def jd (P:Program) (F:z9) (ops:Array Oper):List It→Tm→Hp→Option (Tm×Hp)
 | [],T,H=>some (T,H)
 |x::l,T,H=>match jO P F ops T H x.o with
  |some (T,H)=>jd P F ops l T H
  |none=>none
def ZF (e:AVal→AVal→Bool):List AVal→List AVal→Bool
 | [],[]=>true
 |a::x,b::y=>e a b && ZF e x y
 |_,_=>false
def gM:Nat→AVal→AVal→Bool
 |0,_,_=>false
 |n+1,u,v=>match u,v with
  | .bool a,.bool b=>a==b
  | .int k (.lit a),.int j (.lit b)=>vf k j && gD a b
  | .int k (.lin a i c),.int j (.lin b n d)=>vf k j && (gD a b && (Nat.beq i n && gD c d))
  | .str a,.str b=>qv a b
  | .ptr none,.ptr none=>true
  | .ptr (some (a,i)),.ptr (some (b,j))=>Nat.beq a b && Nat.beq i j
  | .slice none l (some c) s,.slice none m (some d) t=>Nat.beq l m && (Nat.beq c d && Nat.beq s t)
  | .slice (some (a,i)) l (some c) s,.slice (some (b,j)) m (some d) t=>(Nat.beq a b && Nat.beq i j) && (Nat.beq l m && (Nat.beq c d && Nat.beq s t))
  | .slice (some (a,i)) l none s,.slice (some (b,j)) m none t=>(Nat.beq a b && Nat.beq i j) && (Nat.beq l m && Nat.beq s t)
  | .map none,.map none=>true
  | .map (some a),.map (some b)=>Nat.beq a b
  | .chan none,.chan none=>true
  | .chan (some a),.chan (some b)=>Nat.beq a b
  | .func f a c,.func g b d=>Nat.beq f g && (ZF (gM n) a b && ZF (gM n) c d)
  | .nilFunc,.nilFunc=>true
  | .nilIface,.nilIface=>true
  | .iface t a,.iface s b=>Nat.beq t s && gM n a b
  | .agg a,.agg b=>ZF (gM n) a b
  | .tuple a,.tuple b=>ZF (gM n) a b
  |_,_=>false
def Yw (a b:AVal):Bool:=gM 4 a b
def wo (P:Program) (F:z9) (ops:Array Oper) (T:Tm) (H:Hp) (o:Oper):Bool:=match zJ ops T o with
 |some true=>match Zr P F T H o with
  |some (.val v _)=>match o.dst with
   |none=>true
   |some d=>match Tm.get d T with
    |some u=>Yw u v
    |none=>true
  |_=>false
 |some false=>true
 |none=>false
def wY (P:Program) (F:z9) (rec:Vg) (ops:Array Oper):List wZ→Tm→Hp→Option (Tm×Hp)
 | [],_,_=>none
 |s::ss,T,H=>match jd P F ops s.work T H with
  |none=>none
  |some (T,H)=>bif s.again.all (fun x=>wo P F ops T H x.o)then(match s.chain with
   |none=>some (T,H)
   |some c=>match gS P F rec ops T H c.o with
    |some (T,H)=>wY P F rec ops ss T H
    |none=>none)else none
def YY (P:Program) (F:z9) (rec:Vg) (ops:Array Oper) (T:Tm) (H:Hp):Option (Tm×Hp):=match QG ops with
 |some ss=>wY P F rec ops ss T H
 |none=>none
def ZL (P:Program) (T:Tm) (H:Hp):ResultVar→Option AVal
 | .tmp t=>Tm.get t T
 | .cell a t=>match Tm.get a T with
  |some (.ptr (some (i,off)))=>Ux P t H i off
  |_=>none
def ql (P:Program) (T:Tm) (H:Hp):List ResultVar→Option (List AVal)
 | []=>some []
 |r::rs=>match ZL P T H r,ql P T H rs with
  |some v,some vs=>some (v::vs)
  |_,_=>none
def YE:List AVal→Nat→Tm→Tm
 | [],_,T=>T
 |v::vs,i,T=>YE vs (i+1) (Tm.put i v T)
abbrev yZ:=FuncId→Option (List AVal→Hp→Option (AVal×Hp))
def Q6 (P:Program) (rec:Vg) (f:FuncId) (args:List AVal) (H:Hp):Option (AVal×Hp):=match P.funcs[f]? with
 |none=>none
 |some fn=>match fn.body with
  |none=>none
  |some b=>match rec.code b (YE args 0 (Tm.mk (fn.ntmps/16+1))) H with
   |some (.exit _,_,_)=>none
   |some (_,T,H)=>match ql P T H fn.results.toList with
    |some [v]=>some (v,H)
    |some vs=>some (.tuple vs,H)
    |none=>none
   |none=>none
def vc (P:Program) (F:z9) (rec:Vg) (c:Code) (T:Tm) (H:Hp):Option (AExit×Tm×Hp):=match c with
 | .skip=>some (.normal,T,H)
 | .label _=>some (.normal,T,H)
 | .region _ ops draw=>match(bif draw then YY P F rec ops T H else ZE P F rec ops ops.toList T H)with
  |some (T,H)=>some (.normal,T,H)
  |none=>none
 | .seq a b=>match rec.code a T H with
  |some (.normal,T,H)=>rec.code b T H
  |r=>r
 | .cond x a b=>match opnd T x with
  |some (.bool t)=>rec.code (bif t then a else b) T H
  |_=>none
 | .block id b=>match rec.code b T H with
  |some (.exit i,T,H)=>some (bif Nat.beq i id then .normal else .exit i,T,H)
  |r=>r
 | .loop b=>match rec.code b T H with
  |some (.normal,T,H)=>rec.code (.loop b) T H
  |r=>r
 | .exit id=>some (.exit id,T,H)
 | .ret=>some (.ret,T,H)
 |_=>none
def step (P:Program) (F:z9) (hook:yZ) (rec:Vg):Vg where
 code:=vc P F rec
 call f args H:=match hook f with
  |some h=>h args H
  |none=>Q6 P rec f args H
def ZH (P:Program) (F:z9) (hook:yZ):Nat→Vg
 |0=>⟨fun _ _ _=>none,fun _ _ _=>none⟩
 |n+1=>step P F hook (ZH P F hook n)
end
theorem VK (e:Edge):Region.binds .any e=wu e:=by
 obtain⟨on,g⟩:=e
 cases g<;>rfl
theorem VV (n i:Nat):(1<<<n).testBit i=true→i=n:=by
 intro h
 rw [Nat.testBit_shiftLeft]at h
 simp only [Bool.and_eq_true,decide_eq_true_eq]at h
 have:=Nat.testBit_one_eq_true_iff_self_eq_zero.1 h.2
 omega
theorem pz {acc:List It} : ∀ {es:List Edge} {s:Nat},bL acc es=some s→
 (∀e,e ∈ es→wu e=true→ ∃y,acc[e.on]? =some y)∧(∀i,s.testBit i=true→ ∃e,e ∈ es∧wu e=true∧ ∃y,acc[e.on]? =some y∧(i=e.on∨y.m.testBit i=true)):=by
 intro es
 induction es with
 |nil=>intro s h;cases h;exact⟨fun e h=>by simp at h,fun i h=>by simp at h⟩
 |cons e es ih=>
  intro s h
  simp only [bL]at h
  cases h1:bL acc es with
  |none=>rw [h1]at h;cases h
  |some s1=>
   rw [h1]at h
   obtain⟨ih1,ih2⟩:=ih h1
   cases hb:wu e with
   |false=>
    simp only [hb,cond_false,Option.some.injEq]at h
    subst h
    refine⟨fun e' he' hb'=> ?_,fun i hi=> ?_⟩
    ·rcases List.mem_cons.1 he' with rfl|he'
     ·rw [hb]at hb';cases hb'
     exact ih1 e' he' hb'
    obtain⟨e',a,b⟩:=ih2 i hi
    exact⟨e',List.mem_cons_of_mem _ a,b⟩
   |true=>
    simp only [hb,cond_true]at h
    split at h
    case h_2=>cases h
    rename_i y hy
    cases h
    refine⟨fun e' he' hb'=> ?_,fun i hi=> ?_⟩
    ·rcases List.mem_cons.1 he' with rfl|he'
     ·exact⟨y,hy⟩
     exact ih1 e' he' hb'
    rw [Nat.testBit_or,Nat.testBit_or,Bool.or_eq_true,Bool.or_eq_true]at hi
    rcases hi with hi|hi|hi
    ·obtain⟨e',a,b⟩:=ih2 i hi
     exact⟨e',List.mem_cons_of_mem _ a,b⟩
    ·exact⟨e,by simp,hb,y,hy,.inl (VV _ _ hi)⟩
    exact⟨e,by simp,hb,y,hy,.inr hi⟩
structure Zl (ops:Array Oper) (its:List It):Prop where
 at_: ∀(k:Nat) x,its[k]? =some x→x.i=k∧ops[k]? =some x.o
 lin: ∀(k:Nat) x,its[k]? =some x→ ∀e,e ∈ x.o.after.toList→wu e=true→e.on<k
 bit: ∀(k:Nat) x,its[k]? =some x→ ∀i,x.m.testBit i=true→ ∃e,e ∈ x.o.after.toList∧wu e=true∧ ∃y,its[e.on]? =some y∧(i=e.on∨y.m.testBit i=true)
theorem xW {ops:Array Oper} : ∀ {l:List Oper} {acc its:List It},(∀k,(ops.toList)[acc.length+k]? =l[k]?)→Zl ops acc→U3 l acc=some its→Zl ops its∧its.length=acc.length+l.length:=by
 intro l
 induction l with
 |nil=>intro acc its _ hI h;cases h;exact⟨hI,rfl⟩
 |cons o os ih=>
  intro acc its hl hI h
  simp only [U3]at h
  split at h
  case h_2=>cases h
  rename_i m hm
  obtain⟨m1,m2⟩:=pz hm
  have old: ∀(k:Nat) x,(acc++ [(⟨acc.length,o,m⟩:It)])[k]? =some x→acc[k]? =some x∨(k=acc.length∧x=⟨acc.length,o,m⟩):=by
   intro k x hx
   by_cases hk:k<acc.length
   ·rw [List.getElem?_append_left hk]at hx;exact .inl hx
   rw [List.getElem?_append_right (by omega)]at hx
   cases hd:k-acc.length with
   |zero=>rw [hd]at hx;simp at hx;exact .inr ⟨by omega,hx.symm⟩
   |succ n=>rw [hd]at hx;simp at hx
  have keep: ∀(k:Nat) y,acc[k]? =some y→(acc++ [(⟨acc.length,o,m⟩:It)])[k]? =some y:=by
   intro k y hy
   rw [List.getElem?_append_left (List.getElem?_eq_some_iff.1 hy).1];exact hy
  have:=ih (acc:=acc++ [⟨acc.length,o,m⟩]) (its:=its) (fun k=>by
   have:=hl (k+1)
   simp only [List.length_append,List.length_singleton]
   rw [show acc.length+1+k=acc.length+(k+1)by omega,this];simp) ⟨?_,?_,?_⟩ h
  ·obtain⟨h1,h2⟩:=this
   exact⟨h1,by simp at h2 ⊢;omega⟩
  ·intro k x hx
   rcases old k x hx with hx|⟨rfl,rfl⟩
   ·exact hI.at_ k x hx
   have:=hl 0
   simp at this
   exact⟨rfl,by simpa using this⟩
  ·intro k x hx e he hb
   rcases old k x hx with hx|⟨rfl,rfl⟩
   ·exact hI.lin k x hx e he hb
   obtain⟨y,hy⟩:=m1 e he hb
   exact(List.getElem?_eq_some_iff.1 hy).1
  intro k x hx i hi
  rcases old k x hx with hx|⟨rfl,rfl⟩
  ·obtain⟨e,h1,h2,y,h3,h4⟩:=hI.bit k x hx i hi
   exact⟨e,h1,h2,y,keep _ _ h3,h4⟩
  obtain⟨e,h1,h2,y,h3,h4⟩:=m2 i hi
  exact⟨e,h1,h2,y,keep _ _ h3,h4⟩
theorem pX {ops:Array Oper} {its:List It} (h:U3 ops.toList []=some its):Zl ops its∧its.length=ops.size:=by
 have:=xW (ops:=ops) (acc:= []) (by simp) ⟨by simp,by simp,by simp⟩ h
 simpa using this
theorem Zl.done {ops:Array Oper} {its:List It} (hI:Zl ops its) {S:Nat→Prop} (hS: ∀(k:Nat) x,its[k]? =some x→S k→ ∀e,e ∈ x.o.after.toList→wu e=true→S e.on):
 ∀(k:Nat) x,its[k]? =some x→(∀e,e ∈ x.o.after.toList→wu e=true→S e.on)→ ∀i,x.m.testBit i=true→S i:=by
 intro k
 induction k using Nat.strongRecOn with
 |_ k ih=>
  intro x hx hr i hi
  obtain⟨e,h1,h2,y,h3,h4⟩:=hI.bit k x hx i hi
  have hs:=hr e h1 h2
  rcases h4 with rfl|h4
  ·exact hs
  exact ih e.on (hI.lin k x hx e h1 h2) y h3 (hS e.on y h3 hs) i h4
theorem VW {l:List It} {c:It} (h:uo l=some c):c ∈ l∧wU c.o.op=true:=by
 induction l with
 |nil=>cases h
 |cons x l ih=>
  simp only [uo]at h
  cases hx:wU x.o.op with
  |true=>simp only [hx,cond_true,Option.some.injEq]at h;subst h;exact⟨by simp,hx⟩
  |false=>simp only [hx,cond_false]at h;exact⟨by simp [(ih h).1],(ih h).2⟩
theorem Va {l:List It} (h:uo l=none): ∀x,x ∈ l→wU x.o.op=false:=by
 induction l with
 |nil=>intro x hx;simp at hx
 |cons y l ih=>
  intro x hx
  simp only [uo]at h
  cases hy:wU y.o.op with
  |true=>simp [hy]at h
  |false=>
   simp only [hy,cond_false]at h
   rcases List.mem_cons.1 hx with rfl|hx
   ·exact hy
   exact ih h x hx
theorem VG (n:Nat):(1<<<n).testBit n=true:=by
 rw [Nat.testBit_shiftLeft]
 simp
theorem Gs {l:List It} {x:It} (h:x ∈ l):(UB l).testBit x.i=true:=by
 induction l with
 |nil=>simp at h
 |cons y l ih=>
  simp only [UB,Nat.testBit_or,Bool.or_eq_true]
  rcases List.mem_cons.1 h with rfl|h
  ·exact .inl (VG _)
  exact .inr (ih h)
theorem WN {a b i:Nat} (h:Nat.beq (Nat.land a b) 0=true) (hb:b.testBit i=true):a.testBit i=false:=by
 have h0:a &&& b=0:=Nat.eq_of_beq_eq_true h
 have:=congrArg (fun n=>n.testBit i) h0
 simp only [Nat.testBit_and,hb,Bool.and_true,Nat.zero_testBit]at this
 exact this
theorem JI {M:Nat} : ∀ {l:List It} {N:Nat},pT M l=some N→(∀i,M.testBit i=true→N.testBit i=true)∧(∀x,x ∈ l→N.testBit x.i=true)∧l.Pairwise (fun p x=>p.m.testBit x.i=false)∧ ∀p,p ∈ l→ ∀i,M.testBit i=true→p.m.testBit i=false:=by
 intro l
 induction l with
 |nil=>intro N h;cases h;exact⟨fun _ h=>h,fun x h=>by simp at h,.nil,fun p h=>by simp at h⟩
 |cons p l ih=>
  intro N h
  simp only [pT]at h
  split at h
  ·cases h
  rename_i N1 h1
  obtain⟨a1,a2,a3,a4⟩:=ih h1
  cases hb:Nat.beq (Nat.land p.m N1) 0 with
  |false=>rw [hb]at h;cases h
  |true=>
   rw [hb]at h;cases h
   have up: ∀i,N1.testBit i=true→(1<<<p.i|||N1).testBit i=true:=fun i hi=>by rw [Nat.testBit_or,hi,Bool.or_true]
   refine⟨fun i hi=>up i (a1 i hi),fun x hx=> ?_,.cons (fun x hx=>WN hb (a2 x hx)) a3,fun q hq i hi=> ?_⟩
   ·rcases List.mem_cons.1 hx with rfl|hx
    ·rw [Nat.testBit_or,VG,Bool.true_or]
    exact up _ (a2 x hx)
   rcases List.mem_cons.1 hq with rfl|hq
   ·exact WN hb (a1 i hi)
   exact a4 q hq i hi
structure J8 (ops:Array Oper) (its:List It):Prop where
 look: ∀x,x ∈ its→ ∀y,y ∈ its→ ∀d,x.o.dst=some d→gQ ops y.o d=true→y.m.testBit x.i=true
 dst: ∀x,x ∈ its→ ∀y,y ∈ its→ ∀d,x.o.dst=some d→y.o.dst=some d→x.i=y.i
theorem JS: ∀ {l:List It} {W:Tr Nat},Vn l=some W→ ∀x,x ∈ l→ ∀d,x.o.dst=some d→W.get d=some x.i:=by
 intro l
 induction l with
 |nil=>intro W _ x hx;simp at hx
 |cons y l ih=>
  intro W h x hx d hd
  simp only [Vn]at h
  split at h
  ·cases h
  rename_i W1 h1
  split at h
  ·rename_i hn
   cases h
   rcases List.mem_cons.1 hx with rfl|hx
   ·rw [hn]at hd;cases hd
   exact ih h1 x hx d hd
  rename_i e he
  split at h
  case h_2=>cases h
  rename_i hg
  cases h
  rw [Tr.get_set]
  rcases List.mem_cons.1 hx with rfl|hx
  ·rw [he]at hd;cases hd;rw [if_pos rfl]
  have:=ih h1 x hx d hd
  by_cases hde:d=e
  ·subst hde;rw [hg]at this;cases this
  rw [if_neg hde];exact this
theorem Gc {ops:Array Oper} {its:List It} (h:Qz ops its=true):J8 ops its:=by
 unfold Qz at h
 split at h
 ·cases h
 rename_i W hW
 have hw:=JS hW
 simp only [List.all_eq_true,Bool.and_eq_true]at h
 refine⟨fun x hx y hy d hd hl=> ?_,fun x hx y hy d hd he=> ?_⟩
 ·obtain⟨h1,h2⟩:=h y hy
  have hg:=hw x hx d hd
  simp only [gQ,Bool.or_eq_true,List.any_eq_true]at hl
  rcases hl with⟨o,ho,ht⟩|hl
  ·have:=h1 o ho
   cases o with
   |tmp t=>
    have:=Nat.eq_of_beq_eq_true ht
    subst this
    simpa [cy,kE,hg] using h1 (.tmp t) ho
   |_=>cases ht
  unfold tH at h2
  split at hl
  ·rename_i g want hgd
   rw [hgd]at h2
   split at hl
   ·rename_i q hq
    simp only [hq]at h2
    split at hl
    ·rename_i e he
     have:=Nat.eq_of_beq_eq_true hl
     subst this
     simpa [he,kE,hg] using h2
    cases hl
   cases hl
  cases hl
 have h1:=hw x hx d hd
 have h2:=hw y hy d he
 rw [h1]at h2
 exact Option.some.inj h2
end Go.Px
section
namespace Go.Px
open Go Go.RowKit
variable {P:Program} {F:z9} {G:(Nat→Int)→Prop} {V:qS} {B:Nat} {w0 w:World} {H:Hp} {ops:Array Oper}
def FG (F:z9) (G:(Nat→Int)→Prop) (ρ:Nat→Int):Prop:=GG F ρ∧G ρ
def j3 (P:Program) (F:z9) (G:(Nat→Int)→Prop) (B:Nat) (w0:World) (call:FuncId→List AVal→Hp→Option (AVal×Hp)):Prop:=
 ∀f args H v H',call f args H=some (v,H')→jG P f∧ ∀V w (args':Array Value),FG F G V.ρ→zt B w0 V H w→yX V args args'.toList→
  Calls P f args' w fun e w'=> ∃V' v',e= .returned v'∧gX V V' H H'∧zt B w0 V' H' w'∧zL V' v v'
theorem n5 {T:Tm} {a:Act} {x:Operand} {v:AVal} (hT: ∀t,x= .tmp t→ ∀v,Tm.get t T=some v→ ∃u,a.tmps[t]? =some u∧zL V v u) (h:opnd T x=some v):zL V v (a.eval x):=by
 cases x with
 |tmp t=>
  obtain⟨u,h1,h2⟩:=hT t rfl v h
  simp only [Act.eval,Array.getD_eq_getD_getElem?,h1]
  exact h2
 |const c=>exact gg V 4 c v h
 |global g=>cases h
 |func f=>cases h;exact .func f [] [] #[] #[] rfl rfl (fun i u v h=>by simp at h) (fun i u v h=>by simp at h)
theorem gq {T:Tm} {a:Act} {o:Oper} {b:Bool} (h:zJ ops T o=some b)
 (hg: ∀g want q d,o.guard=some (g,want)→ops[g]? =some q→q.dst=some d→ ∀u,Tm.get d T=some u→ ∃v,a.tmps[d]? =some v∧zL V u v):Region.wanted o (yielded ops a.tmps)=b:=by
 unfold zJ at h
 unfold Region.wanted
 split at h
 ·rename_i hn;rw [hn];cases h;rfl
 rename_i g want hgd
 rw [hgd]
 simp only
 split at h
 case h_2=>cases h
 rename_i q hq
 split at h
 case h_2=>cases h
 rename_i d hd
 unfold yielded
 simp only [hq,Option.bind_some,hd]
 split at h
 case h_3=>cases h
 ·rename_i b' hb
  obtain⟨v,h1,h2⟩:=hg g want q d hgd hq hd _ hb
  have:=h2.inv_bool
  subst this
  cases h
  rw [h1]
  cases b'<;>cases want<;>rfl
 rename_i l hb
 obtain⟨v,h1,h2⟩:=hg g want q d hgd hq hd _ hb
 cases h2
 cases h
 rw [h1]
 rfl
theorem Act.size_put (a:Act) (d:Option Tmp) (v:Value):(a.put d v).tmps.size=a.tmps.size:=by cases d<;>simp [Act.put]
theorem Act.defers_put (a:Act) (d:Option Tmp) (v:Value):(a.put d v).defers=a.defers:=by cases d<;>rfl
theorem Gz {rec:Vg} (hC:j3 P F G B w0 rec.call) (hF:FG F G V.ρ) (hW:zt B w0 V H w) {T:Tm} {a:Act} {o:Oper} {i:Nat} (ho:ops[i]? =some o) (hT:J5 V T a o.op.operands)
 (hg: ∀g want q d,o.guard=some (g,want)→ops[g]? =some q→q.dst=some d→ ∀u,Tm.get d T=some u→ ∃v,a.tmps[d]? =some v∧zL V u v)
 {T1:Tm} {H1:Hp} (h:gS P F rec ops T H o=some (T1,H1)) {Q:Exit→Act→World→Prop} {K:Act→World→Prop}
 (hK: ∀v V' w' v',T1=ze T o.dst v→gX V V' H H1→zt B w0 V' H1 w'→zL V' v v'→K (a.put o.dst v') w'):wpOp P ops Q i K a w:=by
 unfold gS at h
 rw [jf]at h
 unfold wpOp
 simp only [ho]
 split at h
 case h_3=>cases h
 ·rename_i hw
  rw [if_pos (gq hw hg)]
  refine .inl ?_
  unfold Oper.wp
  split at h
  case h_3=>cases h
  ·rename_i v H' hop
   cases h
   rcases xN hF.1 hW hT hop with⟨v1,H2,V',w',v',h1,hd⟩|⟨f,args,args',h1,_⟩
   ·cases h1
    have:=hK v V' w' v' rfl hd.ext hd.rel hd.val
    rcases hd.run with hr|⟨hr,rfl⟩
    ·rw [hr];exact this
    rw [hr];exact this
   cases h1
  rename_i f args hop
  split at h
  case h_2=>cases h
  rename_i v H' hcall
  cases h
  rcases xN hF.1 hW hT hop with⟨v1,H2,V',w',v',h1,hd⟩|⟨f',args1,args',h1,h2,h3⟩
  ·cases h1
  cases h1
  obtain⟨hc,hcs⟩:=hC _ _ _ _ _ hcall
  rw [h3 hc]
  show Calls P f args' w _
  refine(hcs V w args' hF hW h2).mono fun e w' he=> ?_
  obtain⟨V',v',rfl,h4,h5,h6⟩:=he
  exact hK v V' w' v' rfl h4 h5 h6
 rename_i hw
 cases h
 rw [if_neg (by rw [gq hw hg];simp)]
 exact hK unit V w undef rfl (.refl V H) hW (uk V)
theorem Bu {T:Tm} {V':qS} {a:Act} {d:Option Tmp} {v:AVal} {v':Value} (hT:ga V T a.tmps) (hV:V.le V') (hv:zL V' v v') (hd: ∀t,d=some t→t<a.tmps.size):ga V' (ze T d v) (a.put d v').tmps:=by
 cases d with
 |none=>exact hT.mono hV
 |some t=>exact(hT.mono hV).put hv (hd t rfl)
theorem f8 {rec:Vg} (hC:j3 P F G B w0 rec.call) {Q:Exit→Act→World→Prop} {Tf:Tm} {Hf:Hp} : ∀(l:List Oper) (n:Nat) (T:Tm) (H:Hp) (V:qS) (a:Act) (w:World),(∀k,(ops.toList)[n+k]? =l[k]?)→
 (∀o,o ∈ l→ ∀d,o.dst=some d→d<a.tmps.size)→FG F G V.ρ→zt B w0 V H w→ga V T a.tmps→ZE P F rec ops l T H=some (Tf,Hf)→
 (∀V' a' w',gX V V' H Hf→zt B w0 V' Hf w'→ga V' Tf a'.tmps→a'.tmps.size=a.tmps.size→a'.defers=a.defers→Q .normal a' w')→
 wpOps P ops Q (List.range' n l.length) a w:=by
 intro l
 induction l with
 |nil=>
  intro n T H V a w _ _ hF hW hT h hQ
  cases h
  exact hQ V a w (.refl V _) hW hT rfl rfl
 |cons o os ih=>
  intro n T H V a w hl hs hF hW hT h hQ
  simp only [ZE]at h
  split at h
  case h_2=>cases h
  rename_i T1 H1 hst
  have ho:ops[n]? =some o:=by have:=hl 0;simpa using this
  have hso:=hs o (by simp)
  rw [List.length_cons,List.range'_succ,wpOps_cons]
  refine Gz hC hF hW ho (hT.looks _) (fun g want q d _ _ _ u hu=>hT d u hu) hst fun v V' w' v' h1 h2 h3 h4=> ?_
  subst h1
  refine ih (n+1) _ H1 V' _ w' (fun k=> ?_) (fun o' ho'=> ?_) (by rw [h2.le.ρ];exact hF) h3 (Bu hT h2.le h4 hso) h fun V'' a'' w'' e1 e2 e3 e4 e5=> ?_
  ·have:=hl (k+1)
   rw [show n+1+k=n+(k+1)by omega,this];simp
  ·rw [Act.size_put];exact hs o' (by simp [ho'])
  exact hQ V'' a'' w'' (h2.trans e1) e2 e3 (by rw [e4,Act.size_put]) (by rw [e5,Act.defers_put])
end Go.Px
end
section
namespace Go.Px
open Go Go.RowKit
variable {P:Program} {F:z9} {V:qS} {B:Nat} {w0 w:World} {H:Hp} {ops:Array Oper}
theorem zt.ghost (hW:zt B w0 V H w) (o:uj):zt B w0 V (H.alloc o) w:=by
 have hn:=(hW.next H.next (Nat.le_refl _)).1
 have oldo: ∀id q,(H.alloc o).t.get id=some q→id=H.next∨H.t.get id=some q:=by
  intro id q h
  simp only [Hp.alloc,Tr.get_set]at h
  by_cases e:id=H.next
  ·exact .inl e
  rw [if_neg e]at h;exact .inr h
 refine⟨hW.below,hW.size,fun id hid=> ?_,hW.lt,fun id q b base S h1 h2=> ?_,fun id id' q q' b b' ba ba' S S' h1 h2 h3 h4=> ?_,hW.fz,hW.lim⟩
 ·have hid':H.next+1≤id:=hid
  have h1:=hW.next id (by omega)
  exact⟨h1.1,by simp only [Hp.alloc,Tr.get_set];rw [if_neg (by omega)];exact h1.2⟩
 ·rcases oldo id q h1 with rfl|h1
  ·rw [hn]at h2;cases h2
  exact hW.obj id q b base S h1 h2
 rcases oldo id q h1 with rfl|h1
 ·rw [hn]at h3;cases h3
 rcases oldo id' q' h2 with rfl|h2
 ·rw [hn]at h4;cases h4
 exact hW.inj id id' q q' b b' ba ba' S S' h1 h2 h3 h4
theorem gX.ghostAlloc (V:qS) (H:Hp) (o:uj):gX V V H (H.alloc o):=
 ⟨.refl V,fun _ _=>rfl,Nat.le_succ _,fun id hi _=>by simp only [Hp.alloc,Tr.get_set];rw [if_neg (by omega)]⟩
theorem zt.bindGhost (hW:zt B w0 V H w) {g:Nat} {o:uj} {x:Obj} {base S:Nat} (hg:V.blk g=none) (hgl:g<H.next) (ho:H.t.get g=some o) (hr:Zd V B o w.heap.size base S x):
 zt B w0 (V.bind g (w.heap.size,base,S)) H (w.alloc x):=by
 have hle:=qS.bind_le hg (w.heap.size,base,S)
 have old: ∀id b base' S',(V.bind g (w.heap.size,base,S)).blk id=some (b,base',S')→(id=g∧b=w.heap.size∧base'=base∧S'=S)∨(id≠g∧V.blk id=some (b,base',S')∧b<w.heap.size):=by
  intro id b base' S' h
  by_cases e:id=g
  ·subst e;simp [qS.bind]at h;exact .inl ⟨rfl,h.1.symm,h.2.1.symm,h.2.2.symm⟩
  simp [qS.bind,e]at h;exact .inr ⟨e,h,hW.lt _ _ _ _ h⟩
 refine⟨hW.below.alloc hW.size x,by simp;have:=hW.size;omega,fun id hid=> ?_,?_,?_,?_,Vu hW.fz (fun k hk=>Q2 w x k hk) (uv w x) hr,hW.lim⟩
 ·have h1:=hW.next id hid
  exact⟨by simp [qS.bind,show id≠g by omega,h1.1],h1.2⟩
 ·intro id b base' S' h
  rcases old id b base' S' h with⟨_,rfl,_⟩|⟨_,_,h⟩<;>simp<;>omega
 ·intro id q b base' S' h1 h2
  rcases old id b base' S' h2 with⟨rfl,rfl,rfl,rfl⟩|⟨hne,h2',hlt⟩
  ·rw [ho]at h1;cases h1
   exact⟨x,uv w x,hr.mono hle⟩
  obtain⟨y,hy,hyr⟩:=hW.obj id q b base' S' h1 h2'
  exact⟨y,by rw [Q3 w x b hlt];exact hy,hyr.mono hle⟩
 intro id id' o1 o2 b b' base1 base2 S1 S2 h1 h2 h3 h4 hne
 rcases old _ _ _ _ h3 with⟨rfl,rfl,_⟩|⟨hn1,h3',hlt1⟩<;>rcases old _ _ _ _ h4 with⟨rfl,rfl,_⟩|⟨hn2,h4',hlt2⟩
 ·exact absurd rfl hne
 ·omega
 ·omega
 exact hW.inj id id' o1 o2 b b' base1 base2 S1 S2 h1 h2 h3' h4' hne
theorem dS {T:Tm} {o:Oper} (ha:qU o.op=true) {r:zH} (h:yJ P F T H o=some r): ∃v ob,r= .val v (H.alloc ob):=by
 obtain⟨dst,op,ty,pos,after,guard⟩:=o
 cases op<;>simp only [qU]at ha<;>try (cases ha;done)
 case alloc t=>
  simp only [yJ,vt]at h
  split at h
  ·rename_i z _;cases hz:z.isTuple<;>simp only [hz,cond_true,cond_false]at h<;>cases h;exact⟨_,_,rfl⟩
  cases h
 case box t x=>
  simp only [yJ,vt]at h
  split at h
  ·rename_i z _;cases hz:z.isTuple<;>simp only [hz,cond_true,cond_false]at h<;>cases h;exact⟨_,_,rfl⟩
  cases h
 case buildSlice t n ps=>
  simp only [yJ,wg]at h
  split at h
  ·split at h
   ·rename_i size z _ _
    cases hz:(Nat.beq z.cells.length size && Nat.ble (n*size) 65536 && !z.isTuple)<;>simp only [hz,cond_true,cond_false]at h
    ·cases h
    split at h
    ·cases h;exact⟨_,_,rfl⟩
    cases h
   cases h
  cases h
 case makeMap t x=>
  simp only [yJ,uI]at h
  split at h
  ·split at h
   ·cases h;exact⟨_,_,rfl⟩
   ·cases h;exact⟨_,_,rfl⟩
   cases h
  cases h
 case makeChan t x=>
  simp only [yJ,um]at h
  split at h
  ·split at h
   ·rename_i n b _ _
    cases hz:(Nat.ble n 1024 && Nat.ble b yN)<;>simp only [hz,cond_true,cond_false]at h<;>cases h;exact⟨_,_,rfl⟩
   cases h
  cases h
 case makeSlice t x y=>
  simp only [yJ,uA]at h
  split at h
  ·split at h
   ·rename_i l c size z bytes _ _ _ _ _
    cases hz:(Nat.beq z.cells.length size && Nat.ble c 65536 && Nat.ble l c && Nat.ble bytes yN && !z.isTuple)<;>simp only [hz,cond_true,cond_false]at h<;>cases h;exact⟨_,_,rfl⟩
   cases h
  cases h
def nZ (f:Hp→Option zH):Prop:= ∃g:Option AVal,∀H,f H=zH.ofVal g H
theorem nZ.all {f:Hp→Option zH} (h:nZ f) {v:AVal} {H H1:Hp} (e:f H=some (.val v H1)): ∀H',f H'=some (.val v H'):=by
 obtain⟨g,hg⟩:=h
 intro H'
 rw [hg]at e ⊢
 obtain⟨u,h1,h2⟩:=yq e
 cases h2
 rw [h1];rfl
theorem pY {o:Op} (h:WZ o=true):gb o=true:=by
 cases o<;>first|rfl|(cases h;done)
theorem nR {T:Tm} {o:Oper} (hp:WZ o.op=true):nZ fun H=>yJ P F T H o:=by
 obtain⟨dst,op,ty,pos,after,guard⟩:=o
 have none_:nZ fun _=>none:=⟨none,fun _=>rfl⟩
 have some_: ∀v,nZ fun H=>some (.val v H):=fun v=>⟨some v,fun _=>rfl⟩
 have val_: ∀g,nZ fun H=>zH.ofVal g H:=fun g=>⟨g,fun _=>rfl⟩
 cases op<;>simp only [WZ]at hp<;>try (cases hp;done)
 case move x=>exact val_ _
 case assign x=>exact val_ _
 case pick c x y=>
  simp only [yJ,Un]
  split
  ·exact val_ _
  exact none_
 case build t ps=>
  simp only [yJ,Zb]
  split
  ·split
   ·generalize AVal.isTuple _=bb
    cases bb
    ·simp only [cond_false]
     split
     ·split
      ·exact some_ _
      exact none_
     exact none_
    exact none_
   ·generalize AVal.isTuple _=bb
    cases bb
    ·simp only [cond_false]
     split
     ·split
      ·exact some_ _
      exact none_
     exact none_
    exact none_
   exact none_
  exact none_
 case nilCheck x=>
  simp only [yJ,j5]
  split
  ·exact some_ _
  ·exact some_ _
  exact none_
 case unOp op t x=>
  simp only [yJ,pi]
  split
  ·exact val_ _
  exact none_
 case makeInterface t x=>
  simp only [yJ,Yu]
  split
  ·exact none_
  ·exact some_ _
  exact none_
 case makeFunc f xs ys=>
  simp only [yJ,UY]
  split
  ·exact some_ _
  exact none_
 case fieldAddr t x n=>
  simp only [yJ,uC]
  split
  ·split
   ·split
    ·exact none_
    ·exact some_ _
    exact none_
   exact none_
  exact none_
 case field t x n=>
  simp only [yJ,YW]
  split
  ·split
   ·exact val_ _
   exact none_
  exact none_
 case indexAddr t x y=>
  simp only [yJ,vO]
  split
  ·split
   ·generalize Nat.blt _ _=bb
    cases bb<;>first|exact none_|exact some_ _
   exact none_
  ·split
   ·generalize Nat.blt _ _=bb
    cases bb<;>first|exact none_|exact some_ _
   exact none_
  exact none_
 case index t x y=>
  simp only [yJ,Yr]
  split
  ·split
   ·generalize Nat.blt _ _=bb
    cases bb<;>first|exact none_|exact val_ _
   exact none_
  ·split
   ·generalize zZ _=bb
    cases bb
    ·exact none_
    simp only [cond_true]
    split
    ·exact some_ _
    exact none_
   exact none_
  exact none_
 case extract x n=>
  simp only [yJ,gj]
  split
  ·exact val_ _
  exact none_
 case typeAssert x xt t ok=>
  simp only [yJ,YA]
  split
  ·exact none_
  ·cases ok
   ·exact none_
   simp only [cond_true]
   split
   ·exact some_ _
   exact none_
  ·generalize Nat.beq _ _=bb
   cases bb<;>first|exact none_|exact some_ _
  exact none_
end Go.Px
end
section
namespace Go.Px
open Go Go.RowKit
variable {P:Program} {F:z9} {V:qS} {B:Nat} {w0 w:World} {H:Hp} {ops:Array Oper} {its:List It}
def V6 (T:Tm) (o:Oper) (v:AVal):Prop:= ∀d x,o.dst=some d→Tm.get d T=some x→x=v
def Qn (ops:Array Oper) (T' T:Tm) (o:Oper):Prop:= ∀d,gQ ops o d=true→Tm.get d T'=Tm.get d T
theorem Gd {o:Oper} {d:Nat} (h:Operand.tmp d ∈ o.op.operands):gQ ops o d=true:=by
 simp only [gQ,Bool.or_eq_true,List.any_eq_true]
 exact .inl ⟨.tmp d,by simpa using h,by simp [iN]⟩
theorem Qg {o q:Oper} {g d:Nat} {want:Bool} (h1:o.guard=some (g,want)) (h2:ops[g]? =some q) (h3:q.dst=some d):gQ ops o d=true:=by
 simp [gQ,h1,h2,h3]
theorem Qn.opnd {T' T:Tm} {o:Oper} (h:Qn ops T' T o) {x:Operand} (hx:x ∈ o.op.operands):opnd T' x=opnd T x:=by
 cases x with
 |tmp t=>exact h t (Gd hx)
 |_=>rfl
theorem Qn.wanted {T' T:Tm} {o:Oper} (h:Qn ops T' T o):zJ ops T' o=zJ ops T o:=by
 unfold zJ
 cases hg:o.guard with
 |none=>rfl
 |some gw=>
  obtain⟨g,want⟩:=gw
  cases hq:ops[g]? with
  |none=>simp only [hq]
  |some q=>
   cases hd:q.dst with
   |none=>simp only [hq,hd]
   |some d=>simp only [hq,hd,h d (Qg hg hq hd)]
inductive BW (P:Program) (F:z9) (ops:Array Oper) (gh:Nat→Nat) (N:Nat) (str:Prop) (T:Tm) (H:Hp) (V:qS) (p:It):Prop
 |off (hw:zJ ops T p.o=some false) (hd:V6 T p.o unit)
 |made (hw:zJ ops T p.o=some true) (ha:qU p.o.op=true) (T':Tm) (H0:Hp) (v:AVal) (ob:uj) (hs:Qn ops T' T p.o) (hd:V6 T p.o v)
  (he:yJ P F T' H0 p.o=some (.val v (H0.alloc ob))) (hn:H0.next=gh p.i) (hN:N≤gh p.i) (hl:gh p.i<H.next) (ho:H.t.get (gh p.i)=some ob) (hv:V.blk (gh p.i)=none)
 |flat (hw:zJ ops T p.o=some true) (hp:WZ p.o.op=true) (T':Tm) (v:AVal) (hs:Qn ops T' T p.o) (hd:V6 T p.o v) (he: ∀H,yJ P F T' H p.o=some (.val v H))
 |read (hw:zJ ops T p.o=some true) (hr:gT p.o.op=true) (he:str→ ∃T' v H1,Qn ops T' T p.o∧V6 T p.o v∧yJ P F T' H p.o=some (.val v H1))
theorem BW.move {gh gh2:Nat→Nat} {N:Nat} {str str2:Prop} {T T2:Tm} {H2:Hp} {V2:qS} {p:It} (h:BW P F ops gh N str T H V p)
 (hT: ∀d,gQ ops p.o d=true∨p.o.dst=some d→Tm.get d T2=Tm.get d T) (hg:gh2 p.i=gh p.i)
 (hH: ∀id,id<H.next→V.blk id=none→H2.t.get id=H.t.get id) (hn:H.next≤H2.next)
 (hV:zJ ops T p.o=some true→qU p.o.op=true→gh p.i<H.next→V.blk (gh p.i)=none→V2.blk (gh p.i)=none) (hR:str2→str∧H2=H):BW P F ops gh2 N str2 T2 H2 V2 p:=by
 have hsame:Qn ops T2 T p.o:=fun d hd=>hT d (.inl hd)
 have hback: ∀T',Qn ops T' T p.o→Qn ops T' T2 p.o:=fun T' h d hd=>by rw [h d hd,hT d (.inl hd)]
 have hdst: ∀v,V6 T p.o v→V6 T2 p.o v:=fun v h d x hd hx=>h d x hd (by rw [←hT d (.inr hd)];exact hx)
 cases h with
 |off hw hd=>exact .off (by rw [hsame.wanted];exact hw) (hdst _ hd)
 |made hw ha T' H0 v ob hs hd he hn' hN hl ho hv=>
  exact .made (by rw [hsame.wanted];exact hw) ha T' H0 v ob (hback _ hs) (hdst _ hd) he (by rw [hg];exact hn') (by rw [hg];exact hN) (by rw [hg];omega) (by rw [hg,hH _ hl hv];exact ho) (by rw [hg];exact hV hw ha hl hv)
 |flat hw hp T' v hs hd he=>exact .flat (by rw [hsame.wanted];exact hw) hp T' v (hback _ hs) (hdst _ hd) he
 |read hw hr he=>
  refine .read (by rw [hsame.wanted];exact hw) hr fun s=> ?_
  obtain⟨s1,rfl⟩:=hR s
  obtain⟨T',v,H1,h1,h2,h3⟩:=he s1
  exact⟨T',v,H1,hback _ h1,hdst _ h2,h3⟩
structure f4 (P:Program) (F:z9) (ops:Array Oper) (its:List It) (B:Nat) (w0:World) (gh:Nat→Nat) (N:Nat) (str:Prop) (pend rest:List It) (T:Tm) (H:Hp) (V:qS) (a:Act) (w:World):Prop where
 wrel:zt B w0 V H w
 inits: ∀x,x ∈ pend∨x ∈ rest→its[x.i]? =some x
 apart: ∀p x,p ∈ pend→x ∈ rest→p.i≠x.i
 sep: ∀p x,p ∈ pend→x ∈ rest→p.m.testBit x.i=false
 pnd: ∀p,p ∈ pend→BW P F ops gh N str T H V p
 gd: ∀p q,p ∈ pend→q ∈ pend→qU p.o.op=true→qU q.o.op=true→zJ ops T p.o=some true→zJ ops T q.o=some true→p.i≠q.i→gh p.i≠gh q.i
 gl: ∀p,p ∈ pend→qU p.o.op=true→zJ ops T p.o=some true→gh p.i<H.next
 pt: ∀t x,Tm.get t T=some x→(∃p,p ∈ pend∧p.o.dst=some t)∨ ∃v,a.tmps[t]? =some v∧zL V x v
theorem VA {T:Tm} {o:Option Tmp} {v:AVal} {d:Nat} (h:o≠some d):Tm.get d (ze T o v)=Tm.get d T:=by
 cases o with
 |none=>rfl
 |some e=>exact Tm.get_put_ne e d v T (fun he=>h (by rw [he]))
theorem U5 {T:Tm} {o:Option Tmp} {v x:AVal} {d:Nat} (h:Tm.get d (ze T o v)=some x):(o=some d∧x=v)∨(o≠some d∧Tm.get d T=some x):=by
 cases o with
 |none=>exact .inr ⟨nofun,h⟩
 |some e=>
  rcases Tm.get_put e d v T x h with⟨rfl,rfl⟩|⟨h1,h2⟩
  ·exact .inl ⟨rfl,rfl⟩
  exact .inr ⟨fun he=>h1 (by cases he;rfl),h2⟩
theorem dH (hA:J8 ops its) {x p:It} (hx:its[x.i]? =some x) (hp:its[p.i]? =some p) (hs:p.m.testBit x.i=false) (hne:p.i≠x.i) (T:Tm) (v:AVal):
 ∀d,gQ ops p.o d=true∨p.o.dst=some d→Tm.get d (ze T x.o.dst v)=Tm.get d T:=by
 intro d hd
 refine VA fun hxd=> ?_
 rcases hd with hd|hd
 ·have:=hA.look x (List.mem_of_getElem? hx) p (List.mem_of_getElem? hp) d hxd hd
  rw [hs]at this;cases this
 exact hne (hA.dst x (List.mem_of_getElem? hx) p (List.mem_of_getElem? hp) d hxd hd).symm
theorem Zl.bit_lt (hI:Zl ops its): ∀(k:Nat) x,its[k]? =some x→ ∀i,x.m.testBit i=true→i<k:=by
 intro k
 induction k using Nat.strongRecOn with
 |_ k ih=>
  intro x hx i hi
  obtain⟨e,h1,h2,y,h3,h4⟩:=hI.bit k x hx i hi
  have hlt:=hI.lin k x hx e h1 h2
  rcases h4 with rfl|h4
  ·exact hlt
  have:=ih e.on hlt y h3 i h4;omega
theorem YS (hI:Zl ops its) (hA:J8 ops its) {x:It} (hx:its[x.i]? =some x) (T:Tm) (v:AVal):Qn ops T (ze T x.o.dst v) x.o:=by
 intro d hd
 refine(VA fun hxd=> ?_).symm
 have:=hA.look x (List.mem_of_getElem? hx) x (List.mem_of_getElem? hx) d hxd hd
 have:=hI.bit_lt x.i x hx x.i this
 omega
theorem Wi (T:Tm) (o:Oper) (v:AVal):V6 (ze T o.dst v) o v:=by
 intro d x hd hx
 rcases U5 hx with⟨_,h⟩|⟨h,_⟩
 ·exact h
 exact absurd hd h
theorem bq (hI:Zl ops its) (hA:J8 ops its) {N:Nat} {a:Act} {T1:Tm} {H1:Hp} : ∀(l pend rest:List It) (gh:Nat→Nat) (T:Tm) (H:Hp),
 f4 P F ops its B w0 gh N False pend (l++rest) T H V a w→l.Pairwise (fun p x=>p.m.testBit x.i=false)→(∀x,x ∈ l→wU x.o.op=false)→(l++rest).Pairwise (fun x y=>x.i≠y.i)→
 (∀p x,p ∈ l→x ∈ rest→p.m.testBit x.i=false)→N≤H.next→jd P F ops l T H=some (T1,H1)→
 ∃gh1,f4 P F ops its B w0 gh1 N False (pend++l) rest T1 H1 V a w∧gX V V H H1:=by
 intro l
 induction l with
 |nil=>
  intro pend rest gh T H hM _ _ _ _ _ h
  cases h
  exact⟨gh,by simpa using hM,.refl V _⟩
 |cons x l ih=>
  intro pend rest gh T H hM hsl hch hne hsr hN h
  simp only [jd]at h
  split at h
  case h_2=>cases h
  rename_i T2 H2 hwo
  have hx:its[x.i]? =some x:=hM.inits x (.inr (by simp))
  rw [List.pairwise_cons]at hsl
  rw [List.cons_append,List.pairwise_cons]at hne
  have hps: ∀p,p ∈ pend→its[p.i]? =some p:=fun p hp=>hM.inits p (.inl hp)
  have away: ∀v p,p ∈ pend→ ∀d,gQ ops p.o d=true∨p.o.dst=some d→Tm.get d (ze T x.o.dst v)=Tm.get d T:=fun v p hp=>
   dH hA hx (hps p hp) (hM.sep p x hp (by simp)) (hM.apart p x hp (by simp)) T v
  have awayS: ∀v p,p ∈ pend→Qn ops (ze T x.o.dst v) T p.o:=fun v p hp d hd=>away v p hp d (.inl hd)
  have go: ∀v gh2,T2=ze T x.o.dst v→(∀p,p ∈ pend→gh2 p.i=gh p.i)→zt B w0 V H2 w→gX V V H H2→BW P F ops gh2 N False T2 H2 V x→
   (qU x.o.op=true→zJ ops T2 x.o=some true→gh2 x.i=H.next∧H.next<H2.next)→
   f4 P F ops its B w0 gh2 N False (pend++ [x]) (l++rest) T2 H2 V a w:=by
   intro v gh2 hT2 hg hW hE hp hgx
   subst hT2
   refine⟨hW,fun y hy=> ?_,fun p y hp hy=> ?_,fun p y hp hy=> ?_,fun p hp'=> ?_,fun p q hp hq ha hb hwp hwq hpq=> ?_,fun p hp ha hw=> ?_,fun t u hu=> ?_⟩
   ·rcases hy with hy|hy
    ·rcases List.mem_append.1 hy with hy|hy
     ·exact hps y hy
     simp at hy;subst hy;exact hx
    exact hM.inits y (.inr (by rw [List.cons_append];exact List.mem_cons_of_mem _ hy))
   ·rcases List.mem_append.1 hp with hp|hp
    ·exact hM.apart p y hp (by rw [List.cons_append];exact List.mem_cons_of_mem _ hy)
    simp at hp;subst hp;exact hne.1 y hy
   ·rcases List.mem_append.1 hp with hp|hp
    ·exact hM.sep p y hp (by rw [List.cons_append];exact List.mem_cons_of_mem _ hy)
    simp at hp;subst hp
    rcases List.mem_append.1 hy with hy|hy
    ·exact hsl.1 y hy
    exact hsr p y (by simp) hy
   ·rcases List.mem_append.1 hp' with hp'|hp'
    ·exact(hM.pnd p hp').move (away v p hp') (hg p hp') hE.ghost hE.next (fun _ _ _ h=>h) nofun
    simp at hp';subst hp';exact hp
   ·have lt: ∀p,p ∈ pend→qU p.o.op=true→zJ ops (ze T x.o.dst v) p.o=some true→gh2 p.i<H.next:=fun p hp ha hw=>by
     rw [hg p hp];exact hM.gl p hp ha (by rw [←(awayS v p hp).wanted];exact hw)
    rcases List.mem_append.1 hp with hp1|hp1<;>rcases List.mem_append.1 hq with hq1|hq1
    ·rw [hg p hp1,hg q hq1]
     exact hM.gd p q hp1 hq1 ha hb (by rw [←(awayS v p hp1).wanted];exact hwp) (by rw [←(awayS v q hq1).wanted];exact hwq) hpq
    ·have hqx:q=x:=by simpa using hq1
     have h1:=lt p hp1 ha hwp
     have h2:=(hgx (hqx▸hb) (hqx▸hwq)).1
     rw [hqx];omega
    ·have hpx:p=x:=by simpa using hp1
     have h1:=lt q hq1 hb hwq
     have h2:=(hgx (hpx▸ha) (hpx▸hwp)).1
     rw [hpx];omega
    have hpx:p=x:=by simpa using hp1
    have hqx:q=x:=by simpa using hq1
    exact absurd (by rw [hpx,hqx]) hpq
   ·rcases List.mem_append.1 hp with hp|hp
    ·have h1:=hM.gl p hp ha (by rw [←(awayS v p hp).wanted];exact hw)
     have h2:=hE.next
     rw [hg p hp];omega
    simp at hp;subst hp
    have:=hgx ha hw
    omega
   rcases U5 hu with⟨h1,_⟩|⟨_,h2⟩
   ·exact .inl ⟨x,by simp,h1⟩
   rcases hM.pt t u h2 with⟨p,hp,hpd⟩|h3
   ·exact .inl ⟨p,by simp [hp],hpd⟩
   exact .inr h3
  have tail: ∀gh2,f4 P F ops its B w0 gh2 N False (pend++ [x]) (l++rest) T2 H2 V a w→gX V V H H2→ ∃gh1,f4 P F ops its B w0 gh1 N False (pend++x::l) rest T1 H1 V a w∧gX V V H H1:=by
   intro gh2 hM2 hE
   obtain⟨gh1,h1,h2⟩:=ih (pend++ [x]) rest gh2 T2 H2 hM2 hsl.2 (fun y hy=>hch y (by simp [hy])) hne.2 (fun p y hp hy=>hsr p y (by simp [hp]) hy) (Nat.le_trans hN hE.next) h
   exact⟨gh1,by simpa using h1,hE.trans h2⟩
  have hcx:=hch x (by simp)
  unfold jO at hwo
  rw [jf]at hwo
  split at hwo
  case h_3=>cases hwo
  ·rename_i hw
   split at hwo
   case h_2=>cases hwo
   rename_i v H' hop
   have hwx:zJ ops (ze T x.o.dst v) x.o=some true:=by rw [←(YS hI hA hx T v).wanted];exact hw
   cases ha:qU x.o.op with
   |true=>
    rw [ha]at hwo
    simp only [cond_true,Option.some.injEq,Prod.mk.injEq]at hwo
    obtain⟨rfl,rfl⟩:=hwo
    obtain⟨v1,ob,h1⟩:=dS ha hop
    cases h1
    have hn:=hM.wrel.next H.next (Nat.le_refl _)
    have hget:(H.alloc ob).t.get H.next=some ob:=by simp [Hp.alloc,Tr.get_set]
    refine tail (fun i=>if i=x.i then H.next else gh i) (go v _ rfl (fun p hp=>by simp [hM.apart p x hp (by simp)]) (hM.wrel.ghost ob) (.ghostAlloc V H ob) ?_ (fun _ _=>⟨by simp,Nat.lt_succ_self _⟩)) (.ghostAlloc V H ob)
    exact .made hwx ha T H v ob (YS hI hA hx T v) (Wi T x.o v) hop (by simp) (by simpa using hN) (by simp [Hp.alloc]) (by simpa using hget) (by simpa using hn.1)
   |false=>
    rw [ha]at hwo
    simp only [cond_false,Option.some.injEq,Prod.mk.injEq]at hwo
    obtain⟨rfl,rfl⟩:=hwo
    refine tail gh (go v gh rfl (fun _ _=>rfl) hM.wrel (.refl V H) ?_ (fun h=>by rw [ha]at h;cases h)) (.refl V H)
    cases hp:WZ x.o.op with
    |true=>exact .flat hwx hp T v (YS hI hA hx T v) (Wi T x.o v) ((nR hp).all hop)
    |false=>
     have hq:gb x.o.op=true:=by simpa [wU,ha] using hcx
     exact .read hwx (by simp [gT,hq,hp]) nofun
  rename_i hw
  cases hwo
  have hwx:zJ ops (ze T x.o.dst unit) x.o=some false:=by rw [←(YS hI hA hx T unit).wanted];exact hw
  exact tail gh (go unit gh rfl (fun _ _=>rfl) hM.wrel (.refl V H) (.off hwx (Wi T x.o unit)) (fun _ h=>by rw [hwx]at h;cases h)) (.refl V H)
theorem Wc {e:AVal→AVal→Bool} (he: ∀a b,e a b=true→a=b): ∀ {x y:List AVal},ZF e x y=true→x=y:=by
 intro x
 induction x with
 |nil=>intro y h;cases y with
  |nil=>rfl
  |cons=>cases h
 |cons a x ih=>intro y h;cases y with
  |nil=>cases h
  |cons b y=>
   simp only [ZF,Bool.and_eq_true]at h
   rw [he a b h.1,ih h.2]
theorem cY: ∀(n:Nat) (a b:AVal),gM n a b=true→a=b:=by
 intro n
 induction n with
 |zero=>intro a b h;cases h
 |succ n ih=>
  intro a b h
  unfold gM at h
  split at h<;>first
   |(cases h;done)
   |(rfl;done)
   |(simp only [beq_iff_eq]at h;subst h;rfl)
   |(have:=(ja _ _).1 h;subst this;rfl)
   |(have:=Wc ih h;subst this;rfl)
   |(simp only [Bool.and_eq_true,Nat.beq_eq]at h;obtain⟨h1,h2,h3⟩:=h;rw [h1,Wc ih h2,Wc ih h3])
   |(simp only [Bool.and_eq_true,Y6,gL,Nat.beq_eq]at h;simp only [h];done)
   |(simp only [Bool.and_eq_true,Nat.beq_eq]at h;obtain⟨h1,h2⟩:=h;rw [h1,ih _ _ h2])
   |(simp only [Nat.beq_eq]at h;subst h;rfl)
theorem sh {a b:AVal} (h:Yw a b=true):a=b:=cY 4 a b h
theorem JF {gh:Nat→Nat} {N:Nat} {pend rest:List It} {T:Tm} {a:Act} (hM:f4 P F ops its B w0 gh N False pend rest T H V a w) (h: ∀p,p ∈ pend→gT p.o.op=true→wo P F ops T H p.o=true):
 f4 P F ops its B w0 gh N True pend rest T H V a w:=by
 refine⟨hM.wrel,hM.inits,hM.apart,hM.sep,fun p hp=> ?_,hM.gd,hM.gl,hM.pt⟩
 cases hM.pnd p hp with
 |off hw hd=>exact .off hw hd
 |made hw ha T' H0 v ob hs hd he hn hN hl ho hv=>exact .made hw ha T' H0 v ob hs hd he hn hN hl ho hv
 |flat hw hp' T' v hs hd he=>exact .flat hw hp' T' v hs hd he
 |read hw hr _=>
  refine .read hw hr fun _=> ?_
  have ha:=h p hp hr
  unfold wo at ha
  rw [hw,jf]at ha
  simp only at ha
  split at ha
  ·rename_i v H1 hop
   refine⟨T,v,H1,fun _ _=>rfl,fun d x hd hx=> ?_,hop⟩
   rw [hd]at ha
   simp only [hx]at ha
   exact sh ha
  cases ha
end Go.Px
end
section
namespace Go.Px
open Go Go.RowKit
variable {P:Program} {F:z9} {V:qS} {B:Nat} {w0 w:World} {H:Hp} {ops:Array Oper} {its:List It}
theorem aB (f g:It→Bool): ∀l:List It,(∀x,x ∈ l→f x=true→g x=false)→(l.filter f).length+(l.filter g).length≤l.length:=by
 intro l
 induction l with
 |nil=>intro _;simp
 |cons x l ih=>
  intro h
  have:=ih fun y hy=>h y (by simp [hy])
  have hx:=h x (by simp)
  simp only [List.filter_cons]
  cases hf:f x with
  |true=>simp only [hx hf,if_true,List.length_cons,Bool.false_eq_true,if_false];omega
  |false=>cases hg:g x<;>simp only [if_true,List.length_cons,Bool.false_eq_true,if_false]<;>omega
theorem tz (f g:It→Bool) (c:It): ∀l:List It,c ∈ l→f c=false→g c=false→(∀x,x ∈ l→f x=true→g x=false)→(l.filter f).length+(l.filter g).length+1≤l.length:=by
 intro l
 induction l with
 |nil=>intro h;simp at h
 |cons x l ih=>
  intro hc hfc hgc h
  rcases List.mem_cons.1 hc with rfl|hc
  ·have:=aB f g l fun y hy=>h y (by simp [hy])
   simp only [List.filter_cons,hfc,hgc,Bool.false_eq_true,if_false,List.length_cons];omega
  have:=ih hc hfc hgc fun y hy=>h y (by simp [hy])
  have hx:=h x (by simp)
  simp only [List.filter_cons]
  cases hf:f x with
  |true=>simp only [hx hf,if_true,List.length_cons,Bool.false_eq_true,if_false];omega
  |false=>cases hg:g x<;>simp only [if_true,List.length_cons,Bool.false_eq_true,if_false]<;>omega
inductive Ao (P:Program) (F:z9) (rec:Vg) (ops:Array Oper) (pend rest:List It) (T:Tm) (H:Hp) (Tf:Tm) (Hf:Hp):Prop
 |last (hr:rest= []) (hT:T=Tf) (hH:H=Hf)
 |next (c:It) (R:List It) (n:Nat) (prev:List It) (ss:List wZ) (T1:Tm) (H1:Hp) (hr:rest=c::R) (hc:gS P F rec ops T H c.o=some (T1,H1)) (hs:Zu n prev R=some ss)
  (hru:wY P F rec ops ss T1 H1=some (Tf,Hf)) (hdep: ∀x,x ∈ R→x.m.testBit c.i=true∧c.m.testBit x.i=false∧x.i≠c.i) (hprev: ∀p,p ∈ pend→gT p.o.op=true→c.m.testBit p.i=false→p ∈ prev)
  (hnd:R.Pairwise (fun x y=>x.i≠y.i))
theorem enter (hI:Zl ops its) (hA:J8 ops its) {rec:Vg} {N:Nat} {a:Act} {Tf:Tm} {Hf:Hp} {n:Nat} {prev rest pend:List It} {ss:List wZ} {gh:Nat→Nat} {T:Tm}
 (hs:Zu n prev rest=some ss) (hru:wY P F rec ops ss T H=some (Tf,Hf)) (hM:f4 P F ops its B w0 gh N False pend rest T H V a w) (hnd:rest.Pairwise (fun x y=>x.i≠y.i))
 (hprev: ∀p,p ∈ pend→gT p.o.op=true→p ∈ prev) (hN:N≤H.next):
 ∃gh1 pend1 rest1 T1 H1,f4 P F ops its B w0 gh1 N True pend1 rest1 T1 H1 V a w∧gX V V H H1∧Ao P F rec ops pend1 rest1 T1 H1 Tf Hf∧(∀x,(x ∈ pend1∨x ∈ rest1)↔(x ∈ pend∨x ∈ rest))∧pend1.length+rest1.length≤pend.length+rest.length:=by
 cases n with
 |zero=>cases hs
 |succ n=>
 simp only [Zu]at hs
 have hin: ∀x,x ∈ rest→its[x.i]? =some x:=fun x hx=>hM.inits x (.inr hx)
 have same: ∀x y,x ∈ rest→y ∈ rest→x.i=y.i→x=y:=fun x y hx hy e=>by
  have h1:=hin x hx
  have h2:=hin y hy
  rw [e,h2]at h1;cases h1;rfl
 split at hs
 ·rename_i hfc
  cases hsep:pT 0 rest with
  |none=>rw [hsep]at hs;cases hs
  |some M0=>
  rw [hsep]at hs;cases hs
  simp only [wY]at hru
  split at hru
  ·cases hru
  rename_i T1 H1 hwk
  cases hag:(prev++rest.filter fun x=>gT x.o.op).all fun x=>wo P F ops T1 H1 x.o with
  |false=>rw [hag]at hru;cases hru
  |true=>
  rw [hag]at hru;cases hru
  obtain⟨gh1,hM1,hE⟩:=bq hI hA rest pend [] gh T H (by simpa using hM) (JI hsep).2.2.1 (Va hfc) (by simpa using hnd) (fun p x _ hx=>by simp at hx) hN hwk
  rw [List.all_eq_true]at hag
  refine⟨gh1,pend++rest,[],_,_,JF hM1 (fun p hp hr=>hag p ?_),hE,.last rfl rfl rfl,fun x=>by simp,by simp⟩
  rcases List.mem_append.1 hp with hp|hp
  ·exact List.mem_append_left _ (hprev p hp hr)
  exact List.mem_append_right _ (List.mem_filter.2 ⟨hp,hr⟩)
 rename_i c hfc
 obtain⟨hcm,hcc⟩:=VW hfc
 generalize hW:rest.filter (fun x=> !wU x.o.op && !(Nat.testBit x.m c.i))=W at hs
 generalize hR:rest.filter (fun x=> !(Nat.beq x.i c.i) && (wU x.o.op||Nat.testBit x.m c.i))=R at hs
 cases hchk:(((pT (UB (c::R)) W).isSome && Nat.beq (Nat.land c.m (UB R)) 0) && R.all (fun x=>Nat.testBit x.m c.i))with
 |false=>rw [hchk]at hs;cases hs
 |true=>
 rw [hchk]at hs
 simp only [cond_true]at hs
 split at hs
 case h_2=>cases hs
 rename_i ss' hss
 cases hs
 simp only [Bool.and_eq_true,List.all_eq_true]at hchk
 obtain⟨⟨hsepW,hcR⟩,hRc⟩:=hchk
 obtain⟨M0,hM0⟩:=Option.isSome_iff_exists.1 hsepW
 obtain⟨_,_,hsepP,hsepC⟩:=JI hM0
 have memW: ∀x,x ∈ W↔x ∈ rest∧wU x.o.op=false∧x.m.testBit c.i=false:=by
  intro x;rw [←hW,List.mem_filter];simp
 have memR: ∀x,x ∈ R↔x ∈ rest∧x.i≠c.i∧(wU x.o.op=true∨x.m.testBit c.i=true):=by
  intro x;rw [←hR,List.mem_filter]
  simp only [Bool.and_eq_true,Bool.not_eq_true',Bool.or_eq_true]
  refine⟨fun⟨h1,h2,h3⟩=>⟨h1,fun e=> ?_,h3⟩,fun⟨h1,h2,h3⟩=>⟨h1,?_,h3⟩⟩
  ·rw [e]at h2;simp at h2
  cases hb:Nat.beq x.i c.i with
  |false=>rfl
  |true=>exact absurd (Nat.eq_of_beq_eq_true hb) h2
 have parts: ∀x,x ∈ rest→x ∈ W∨x=c∨x ∈ R:=by
  intro x hx
  by_cases hi:x.i=c.i
  ·exact .inr (.inl (same x c hx hcm hi))
  cases hcx:wU x.o.op with
  |true=>exact .inr (.inr ((memR x).2 ⟨hx,hi,.inl hcx⟩))
  |false=>
   cases hb:x.m.testBit c.i with
   |true=>exact .inr (.inr ((memR x).2 ⟨hx,hi,.inr hb⟩))
   |false=>exact .inl ((memW x).2 ⟨hx,hcx,hb⟩)
 have back: ∀x,x ∈ W++(c::R)→x ∈ rest:=by
  intro x hx
  rcases List.mem_append.1 hx with hx|hx
  ·exact((memW x).1 hx).1
  rcases List.mem_cons.1 hx with rfl|hx
  ·exact hcm
  exact((memR x).1 hx).1
 have cross: ∀p x,p ∈ W→x ∈ c::R→p.i≠x.i:=by
  intro p x hp hx e
  have hpx:=same p x ((memW p).1 hp).1 (back x (List.mem_append_right _ hx)) e
  obtain⟨_,h1,h2⟩:=(memW p).1 hp
  rcases List.mem_cons.1 hx with hx|hx
  ·rw [hpx,hx,hcc]at h1;cases h1
  obtain⟨_,_,h3⟩:=(memR x).1 hx
  rw [←hpx,h1,h2]at h3
  simp at h3
 have hndW:W.Pairwise (fun x y=>x.i≠y.i):=hW▸hnd.filter _
 have hndR:R.Pairwise (fun x y=>x.i≠y.i):=hR▸hnd.filter _
 have hndC:(c::R).Pairwise (fun x y=>x.i≠y.i):=List.pairwise_cons.2 ⟨fun x hx=>((memR x).1 hx).2.1.symm,hndR⟩
 have hM':f4 P F ops its B w0 gh N False pend (W++(c::R)) T H V a w:=
  ⟨hM.wrel,fun x hx=>hM.inits x (hx.imp id (back x)),fun p x hp hx=>hM.apart p x hp (back x hx),fun p x hp hx=>hM.sep p x hp (back x hx),hM.pnd,hM.gd,hM.gl,hM.pt⟩
 simp only [wY]at hru
 split at hru
 ·cases hru
 rename_i T1 H1 hwk
 cases hag:(prev++W.filter fun x=>gT x.o.op).all fun x=>wo P F ops T1 H1 x.o with
 |false=>rw [hag]at hru;cases hru
 |true=>
 rw [hag]at hru
 simp only [cond_true]at hru
 split at hru
 case h_2=>cases hru
 rename_i T2 H2 hst
 obtain⟨gh1,hM1,hE⟩:=bq hI hA W pend (c::R) gh T H hM' hsepP (fun x hx=>((memW x).1 hx).2.1)
  (List.pairwise_append.2 ⟨hndW,hndC,fun p hp x hx=>cross p x hp hx⟩) (fun p x hp hx=>hsepC p hp _ (Gs hx)) hN hwk
 rw [List.all_eq_true]at hag
 have inA: ∀p,p ∈ pend++W→gT p.o.op=true→p ∈ prev++W.filter fun x=>gT x.o.op:=by
  intro p hp hr
  rcases List.mem_append.1 hp with hp|hp
  ·exact List.mem_append_left _ (hprev p hp hr)
  exact List.mem_append_right _ (List.mem_filter.2 ⟨hp,hr⟩)
 refine⟨gh1,pend++W,c::R,T1,H1,JF hM1 (fun p hp hr=>hag p (inA p hp hr)),hE,
  .next c R n _ ss' T2 H2 rfl hst hss hru (fun x hx=> ?_) (fun p hp hr hb=>List.mem_filter.2 ⟨inA p hp hr,by simp [hb]⟩) hndR,fun x=> ?_,?_⟩
 ·have:=hRc x hx
  exact⟨this,WN hcR (Gs hx),((memR x).1 hx).2.1⟩
 ·constructor
  ·rintro (hx|hx)
   ·rcases List.mem_append.1 hx with hx|hx
    ·exact .inl hx
    exact .inr ((memW x).1 hx).1
   exact .inr (back x (List.mem_append_right _ hx))
  rintro (hx|hx)
  ·exact .inl (List.mem_append_left _ hx)
  rcases parts x hx with h|rfl|h
  ·exact .inl (List.mem_append_right _ h)
  ·exact .inr (by simp)
  exact .inr (by simp [h])
 have h3:=tz (fun x=> !wU x.o.op && !(Nat.testBit x.m c.i)) (fun x=> !(Nat.beq x.i c.i) && (wU x.o.op||Nat.testBit x.m c.i)) c rest hcm (by simp [hcc]) (by simp) (fun x _ hx=>by
  simp only [Bool.and_eq_true,Bool.not_eq_true']at hx
  simp [hx.1,hx.2])
 rw [hW,hR]at h3
 simp only [List.length_append,List.length_cons]
 omega
structure Bp (its:List It) (pend rest:List It) (listed:Array Bool):Prop where
 size:listed.size=its.length
 iff_: ∀x,its[x.i]? =some x→(listed.getD x.i false=true↔ ¬(x ∈ pend∨x ∈ rest))
 closed: ∀(k:Nat) x,its[k]? =some x→listed.getD k false=true→ ∀e,e ∈ x.o.after.toList→wu e=true→listed.getD e.on false=true
theorem Bp.add {pend rest pend2 rest2:List It} {listed:Array Bool} (h:Bp its pend rest listed) {x:It} (hx:its[x.i]? =some x) (hr: ∀e,e ∈ x.o.after.toList→wu e=true→listed.getD e.on false=true)
 (hm: ∀y,its[y.i]? =some y→((y ∈ pend2∨y ∈ rest2)↔((y ∈ pend∨y ∈ rest)∧y.i≠x.i))):Bp its pend2 rest2 (listed.setIfInBounds x.i true):=by
 have hlt:x.i<listed.size:=by rw [h.size];exact(List.getElem?_eq_some_iff.1 hx).1
 have hself:(listed.setIfInBounds x.i true).getD x.i false=true:=by simp [hlt]
 refine⟨by simpa using h.size,fun y hy=> ?_,fun k y hy hl e he hb=> ?_⟩
 ·by_cases hyx:y.i=x.i
  ·rw [hyx,hself,hm y hy]
   simp [hyx]
  rw [getD_set_ne false (fun e=>hyx e.symm),h.iff_ y hy,hm y hy]
  simp [hyx]
 by_cases hyx:k=x.i
 ·subst hyx
  rw [hx]at hy;cases hy
  exact getD_set_true (hr e he hb)
 rw [getD_set_ne false (fun e=>hyx e.symm)]at hl
 exact getD_set_true (h.closed k y hy hl e he hb)
theorem Wu (hI:Zl ops its) (hlen:its.length=ops.size) {listed:Array Bool} (hsz:listed.size=its.length) {i:Nat} :i ∈ Region.ready .any ops listed↔
 ∃x,its[i]? =some x∧x.i=i∧ops[i]? =some x.o∧listed.getD i false=false∧ ∀e,e ∈ x.o.after.toList→wu e=true→listed.getD e.on false=true:=by
 rw [mem_ready]
 constructor
 ·rintro ⟨h1,o,h2,h3⟩
  have hlt:i<its.length:=by rw [hlen];exact(Array.getElem?_eq_some_iff.1 h2).1
  have hx:its[i]? =some (its[i]'hlt):=by simp [hlt]
  obtain⟨h4,h5⟩:=hI.at_ i _ hx
  rw [h2]at h5
  cases h5
  refine⟨_,hx,h4,h2,?_,fun e he hb=>h3 e (by simpa using he) (by rw [VK];exact hb)⟩
  have:i<listed.size:=by omega
  simpa [this] using h1
 rintro ⟨x,h1,h2,h3,h4,h5⟩
 have:i<listed.size:=by rw [hsz];exact(List.getElem?_eq_some_iff.1 h1).1
 exact⟨by simpa [this] using h4,x.o,h3,fun e he hb=>h5 e (by simpa using he) (by rw [←VK];exact hb)⟩
end Go.Px
end
