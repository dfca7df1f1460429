/- Part of the proof: PDraw3, PCode, PTop, PLog, PWp, PStepL, PDrawL, PStepM, PMapL, PBits, PSliceL, POpenT, PAuto, PMapW, PSep, PSep2, PSep3, PSep4, PSep5. Names and blanks are cut short to keep within the size of a claim. -/
import Derived.RowKit3
import Derived.Test.YtlhcpplnlgehbaaGreatM2
set_option linter.unusedVariables false
set_option linter.unusedSimpArgs false
section
namespace Go.Px
open Go Go.RowKit
variable {P:Program} {F:z9} {G:(Nat→Int)→Prop} {B:Nat} {w0:World} {ops:Array Oper} {its:List It}
theorem rJ {pend pend2:List It} {T T2:Tm} {V V2:qS} {a:Act} {d:Option Tmp} {v:AVal} {v':Value} (hpt: ∀t x,Tm.get t T=some x→(∃p,p ∈ pend∧p.o.dst=some t)∨ ∃v,a.tmps[t]? =some v∧zL V x v)
 (hV:V.le V2) (hv:zL V2 v v') (hsz: ∀t,d=some t→t<a.tmps.size) (hT: ∀t x,Tm.get t T2=some x→(d=some t∧x=v)∨(d≠some t∧Tm.get t T=some x))
 (hp: ∀p,p ∈ pend→p ∈ pend2∨p.o.dst=d): ∀t x,Tm.get t T2=some x→(∃p,p ∈ pend2∧p.o.dst=some t)∨ ∃u,(a.put d v').tmps[t]? =some u∧zL V2 x u:=by
 intro t x hx
 rcases hT t x hx with⟨rfl,rfl⟩|⟨hne,hx⟩
 ·exact .inr ⟨v',by simp [Act.put,hsz t rfl],hv⟩
 rcases hpt t x hx with⟨p,hpp,hpd⟩|⟨u,h1,h2⟩
 ·rcases hp p hpp with h|h
  ·exact .inl ⟨p,h,hpd⟩
  exact absurd (by rw [←h];exact hpd) hne
 refine .inr ⟨u,?_,h2.mono hV⟩
 cases d with
 |none=>exact h1
 |some e=>
  have:e≠t:=fun h=>hne (by rw [h])
  simp only [Act.put,Array.getElem?_setIfInBounds_ne this];exact h1
theorem tR (hI:Zl ops its) (hA:J8 ops its) (hlen:its.length=ops.size) {rec:Vg} (hC:j3 P F G B w0 rec.call) {Q:Exit→Act→World→Prop} {Tf:Tm} {Hf H0:Hp} {V0:qS} {sz:Nat} {df:List Deferred} (hF:FG F G V0.ρ)
 (hd: ∀x,x ∈ its→ ∀d,x.o.dst=some d→d<sz)
 (hQ: ∀V' a' w',gX V0 V' H0 Hf→zt B w0 V' Hf w'→ga V' Tf a'.tmps→a'.tmps.size=sz→a'.defers=df→Q .normal a' w'):
 ∀(k:Nat) (gh:Nat→Nat) (pend rest:List It) (T:Tm) (H:Hp) (V:qS) (a:Act) (w:World) (listed:Array Bool),f4 P F ops its B w0 gh H0.next True pend rest T H V a w→Ao P F rec ops pend rest T H Tf Hf→
  Bp its pend rest listed→pend.length+rest.length≤k→gX V0 V H0 H→a.tmps.size=sz→a.defers=df→wpAny P .any ops Q k listed a w:=by
 intro k
 induction k with
 |zero=>
  intro gh pend rest T H V a w listed hM hc hL hk hE hsz hdf
  have hp:pend= []:=List.eq_nil_of_length_eq_zero (by omega)
  have hr:rest= []:=List.eq_nil_of_length_eq_zero (by omega)
  subst hp hr
  refine⟨?_,?_⟩
  ·cases hrd:Region.ready .any ops listed with
   |nil=>rfl
   |cons i l=>
    have:i ∈ Region.ready .any ops listed:=by rw [hrd];simp
    obtain⟨x,h1,rfl,h3,h4,h5⟩:=(Wu hI hlen hL.size).1 this
    have:=(hL.iff_ x h1).2 (by simp)
    rw [h4]at this;cases this
  cases hc with
  |last _ hT hH=>
   subst hT hH
   exact hQ V a w hE hM.wrel (fun t x hx=>(hM.pt t x hx).resolve_left (fun⟨p,hp,_⟩=>by simp at hp)) hsz hdf
  |next c R n prev ss T1 H1 hr=>cases hr
 |succ k ih=>
  intro gh pend rest T H V a w listed hM hc hL hk hE hsz hdf
  have hFV:FG F G V.ρ:=by rw [hE.le.ρ];exact hF
  refine⟨fun hrd=> ?_,fun i hi=> ?_⟩
  ·
   have none_: ∀(n:Nat) x,its[n]? =some x→ ¬(x ∈ pend∨x ∈ rest):=by
    intro n
    induction n using Nat.strongRecOn with
    |_ n ihn=>
     intro x hx hm
     obtain⟨hi,ho⟩:=hI.at_ n x hx
     have hnl:listed.getD n false=false:=by
      cases hl:listed.getD n false with
      |false=>rfl
      |true=>exact absurd hm ((hL.iff_ x (by rw [hi];exact hx)).1 (by rw [hi];exact hl))
     have:n ∈ Region.ready .any ops listed:=(Wu hI hlen hL.size).2 ⟨x,hx,hi,ho,hnl,fun e he hb=>by
      have hlt:=hI.lin n x hx e he hb
      have hnn:n<its.length:=(List.getElem?_eq_some_iff.1 hx).1
      have hy:its[e.on]? =some (its[e.on]'(by omega)):=by simp [show e.on<its.length by omega]
      obtain⟨h1,_⟩:=hI.at_ e.on _ hy
      have h2:=(hL.iff_ (its[e.on]'(by omega)) (by rw [h1];exact hy)).2 (ihn e.on hlt _ hy)
      rw [h1]at h2;exact h2⟩
     rw [hrd]at this;simp at this
   have hr:rest= []:=by
    cases rest with
    |nil=>rfl
    |cons x l=>exact absurd (.inr (by simp)) (none_ x.i x (hM.inits x (.inr (by simp))))
   have hp:pend= []:=by
    cases pend with
    |nil=>rfl
    |cons x l=>exact absurd (.inl (by simp)) (none_ x.i x (hM.inits x (.inl (by simp))))
   cases hc with
   |last _ hT hH=>
    subst hT hH hp
    exact hQ V a w hE hM.wrel (fun t x hx=>(hM.pt t x hx).resolve_left (fun⟨p,hp,_⟩=>by simp at hp)) hsz hdf
   |next c R n prev ss T1 H1 hr'=>rw [hr]at hr';cases hr'
  ·obtain⟨x,hx,rfl,ho,hnl,hrd⟩:=(Wu hI hlen hL.size).1 hi
   have hxm:x ∈ pend∨x ∈ rest:=by
    refine Classical.byContradiction fun hno=> ?_
    have:=(hL.iff_ x hx).2 hno
    rw [hnl]at this;cases this
   have done: ∀j,x.m.testBit j=true→listed.getD j false=true:=hI.done hL.closed x.i x hx hrd
   have notpend: ∀p,p ∈ pend→x.m.testBit p.i=false:=by
    intro p hp
    cases hb:x.m.testBit p.i with
    |false=>rfl
    |true=>exact absurd (.inl hp) ((hL.iff_ p (hM.inits p (.inl hp))).1 (done _ hb))
   have notrest: ∀p,p ∈ rest→x.m.testBit p.i=false:=by
    intro p hp
    cases hb:x.m.testBit p.i with
    |false=>rfl
    |true=>exact absurd (.inr hp) ((hL.iff_ p (hM.inits p (.inr hp))).1 (done _ hb))
   have seen: ∀d,gQ ops x.o d=true→ ∀u,Tm.get d T=some u→ ∃v,a.tmps[d]? =some v∧zL V u v:=by
    intro d hl u hu
    rcases hM.pt d u hu with⟨p,hp,hpd⟩|h
    ·have:=hA.look p (List.mem_of_getElem? (hM.inits p (.inl hp))) x (List.mem_of_getElem? hx) d hpd hl
     rw [notpend p hp]at this;cases this
    exact h
   have looks: ∀T',Qn ops T' T x.o→J5 V T' a x.o.op.operands:=by
    intro T' hs y hy v hv
    rw [hs.opnd hy]at hv
    exact n5 (fun t ht u hu=>seen t (Gd (ht▸hy)) u hu) hv
   have guard: ∀g want q d,x.o.guard=some (g,want)→ops[g]? =some q→q.dst=some d→ ∀u,Tm.get d T=some u→ ∃v,a.tmps[d]? =some v∧zL V u v:=
    fun g want q d h1 h2 h3=>seen d (Qg h1 h2 h3)
   have hdx: ∀t,x.o.dst=some t→t<a.tmps.size:=fun t ht=>by rw [hsz];exact hd x (List.mem_of_getElem? hx) t ht
   have uniq: ∀y,(y ∈ pend∨y ∈ rest)→y.i=x.i→y=x:=fun y hy e=>by
    have:=hM.inits y hy
    rw [e,hx]at this;cases this;rfl
   rcases hxm with hxp|hxr
   ·
    have hp': ∀y,y ∈ pend.filter (fun y=> !Nat.beq y.i x.i)↔y ∈ pend∧y.i≠x.i:=by
     intro y;rw [List.mem_filter]
     refine and_congr_right fun _=> ?_
     cases hb:Nat.beq y.i x.i with
     |false=>simp;intro e;rw [e]at hb;simp at hb
     |true=>simp;exact Nat.eq_of_beq_eq_true hb
    have hlen':(pend.filter (fun y=> !Nat.beq y.i x.i)).length<pend.length:=by
     have:=List.length_filter_lt_length_iff_exists (l:=pend) (p:=fun y=> !Nat.beq y.i x.i)
     exact this.2 ⟨x,hxp,by simp⟩
    have hL2:Bp its (pend.filter (fun y=> !Nat.beq y.i x.i)) rest (listed.setIfInBounds x.i true):=hL.add hx hrd fun y hy=>by
     rw [hp']
     constructor
     ·rintro (⟨h1,h2⟩|h)
      ·exact⟨.inl h1,h2⟩
      exact⟨.inr h,fun e=>hM.apart x y hxp h e.symm⟩
     rintro ⟨h1|h1,h2⟩
     ·exact .inl ⟨h1,h2⟩
     exact .inr h1
    have hc2:Ao P F rec ops (pend.filter (fun y=> !Nat.beq y.i x.i)) rest T H Tf Hf:=by
     cases hc with
     |last h1 h2 h3=>exact .last h1 h2 h3
     |next c R n prev ss T1 H1 hr hc hs hru hdep hprev hnd=>exact .next c R n prev ss T1 H1 hr hc hs hru hdep (fun p hp=>hprev p ((hp' p).1 hp).1) hnd
    have go: ∀(v:AVal) (v':Value) (V2:qS) (w2:World),V6 T x.o v→V.le V2→zt B w0 V2 H w2→zL V2 v v'→(∀p,p ∈ pend→p.i≠x.i→zJ ops T p.o=some true→qU p.o.op=true→V.blk (gh p.i)=none→V2.blk (gh p.i)=none)→gX V0 V2 H0 H→
     wpAny P .any ops Q k (listed.setIfInBounds x.i true) (a.put x.o.dst v') w2:=by
     intro v v' V2 w2 hdst hle hW2 hv hg hE2
     refine ih gh _ rest T H V2 _ w2 _ ⟨hW2,fun y hy=>hM.inits y (hy.imp (fun h=>((hp' y).1 h).1) id),fun p y hp hy=>hM.apart p y ((hp' p).1 hp).1 hy,fun p y hp hy=>hM.sep p y ((hp' p).1 hp).1 hy,fun p hp=> ?_,
      fun p q hp hq=>hM.gd p q ((hp' p).1 hp).1 ((hp' q).1 hq).1,fun p hp=>hM.gl p ((hp' p).1 hp).1,?_⟩ hc2 hL2 (by omega) hE2 (by rw [Act.size_put];exact hsz) (by rw [Act.defers_put];exact hdf)
     ·obtain⟨h1,h2⟩:=(hp' p).1 hp
      exact(hM.pnd p h1).move (fun _ _=>rfl) rfl (fun _ _ _=>rfl) (Nat.le_refl _) (fun hw ha _ hb=>hg p h1 h2 hw ha hb) (fun s=>⟨s,rfl⟩)
     refine rJ hM.pt hle hv hdx (fun t u hu=> ?_) (fun p hp=> ?_)
     ·by_cases ht:x.o.dst=some t
      ·exact .inl ⟨ht,hdst t u ht hu⟩
      exact .inr ⟨ht,hu⟩
     by_cases hpi:p.i=x.i
     ·exact .inr (by rw [uniq p (.inl hp) hpi])
     exact .inl ((hp' p).2 ⟨hp,hpi⟩)
    unfold wpOp
    simp only [ho]
    cases hM.pnd x hxp with
    |off hw hdst=>
     rw [if_neg (by rw [gq hw guard];simp)]
     exact go unit undef V w hdst (.refl V) hM.wrel (uk V) (fun _ _ _ _ _ h=>h) hE
    |made hw ha T' Hq v ob hs hdst he hn hN hl hob hv=>
     rw [if_pos (gq hw guard)]
     refine .inl ?_
     obtain⟨v1,ob1,xo,base,S,v',h1,h2,h3,h4⟩:=VI (P:=P) (F:=F) hM.wrel.size (looks T' hs) ha he
     have hv1:v=v1:=by injection h1
     have hob1:Hq.alloc ob=Hq.alloc ob1:=by injection h1
     have hobe:ob1=ob:=by
      have e:=congrArg (fun h:Hp=>h.t.get Hq.next) hob1
      simp only [Hp.alloc,Tr.get_set,if_true]at e
      exact(Option.some.inj e).symm
     subst hv1 hobe
     have hble:=qS.bind_le hv (w.heap.size,base,S)
     unfold Oper.wp
     rw [h2]
     refine go v v' _ _ hdst hble (hM.wrel.bindGhost hv hl hob h3) (h4 _ hble (by rw [hn];exact qS.bind_at _ _ _)) (fun p hp hne hwp hap hbp=> ?_)
      ⟨hE.le.trans hble,fun id hid=> ?_,hE.next,hE.ghost⟩
     ·have:=hM.gd p x hp hxp hap ha hwp hw hne
      simp [qS.bind,this,hbp]
     have:id≠gh x.i:=by omega
     simp only [qS.bind,this,if_false]
     exact hE.old id hid
    |flat hw hp T' v hs hdst he=>
     rw [if_pos (gq hw guard)]
     refine .inl ?_
     obtain⟨v1,v',h1,h2,h3⟩:=YN hFV.1 hM.wrel (looks T' hs) (pY hp) (he H)
     cases h1
     unfold Oper.wp
     rw [h3]
     exact go v v' V w hdst (.refl V) hM.wrel h2 (fun _ _ _ _ _ h=>h) hE
    |read hw hr he=>
     rw [if_pos (gq hw guard)]
     refine .inl ?_
     obtain⟨T',v,H1,hs,hdst,hop⟩:=he trivial
     have hq:gb x.o.op=true:=by simp only [gT,Bool.and_eq_true]at hr;exact hr.1
     obtain⟨v1,v',h1,h2,h3⟩:=YN hFV.1 hM.wrel (looks T' hs) hq hop
     cases h1
     unfold Oper.wp
     rw [h3]
     exact go v v' V w hdst (.refl V) hM.wrel h2 (fun _ _ _ _ _ h=>h) hE
   ·
    cases hc with
    |last h1=>rw [h1]at hxr;simp at hxr
    |next c R n prev ss T1 H1 hr hst hs hru hdep hprev hnd=>
    subst hr
    have hxc:x=c:=by
     rcases List.mem_cons.1 hxr with h|h
     ·exact h
     have h1:=(hdep x h).1
     rw [notrest c (by simp)]at h1;cases h1
    subst hxc
    refine Gz hC hFV hM.wrel ho (looks T fun _ _=>rfl) guard hst fun v V2 w2 v' hT1 hE2 hW2 hv=> ?_
    subst hT1
    have hxi:its[x.i]? =some x:=hx
    have away: ∀p,p ∈ pend→ ∀d,gQ ops p.o d=true∨p.o.dst=some d→Tm.get d (ze T x.o.dst v)=Tm.get d T:=fun p hp=>
     dH hA hxi (hM.inits p (.inl hp)) (hM.sep p x hp (by simp)) (hM.apart p x hp (by simp)) T v
    have awayS: ∀p,p ∈ pend→Qn ops (ze T x.o.dst v) T p.o:=fun p hp d hd=>away p hp d (.inl hd)
    have hM2:f4 P F ops its B w0 gh H0.next False pend R (ze T x.o.dst v) H1 V2 (a.put x.o.dst v') w2:=by
     refine⟨hW2,fun y hy=>hM.inits y (hy.imp id (fun h=>by simp [h])),fun p y hp hy=>hM.apart p y hp (by simp [hy]),fun p y hp hy=>hM.sep p y hp (by simp [hy]),fun p hp=> ?_,fun p q hp hq ha hb hwp hwq=> ?_,fun p hp ha hw=> ?_,?_⟩
     ·exact(hM.pnd p hp).move (away p hp) rfl hE2.ghost hE2.next (fun _ _ hl h=>by rw [hE2.old _ hl];exact h) nofun
     ·exact hM.gd p q hp hq ha hb (by rw [←(awayS p hp).wanted];exact hwp) (by rw [←(awayS q hq).wanted];exact hwq)
     ·exact Nat.lt_of_lt_of_le (hM.gl p hp ha (by rw [←(awayS p hp).wanted];exact hw)) hE2.next
     exact rJ hM.pt hE2.le hv hdx (fun t u hu=>U5 hu) (fun p hp=> .inl hp)
    obtain⟨gh1,pend1,rest1,T2,H2,hM3,hE3,hc3,hmem,hlen3⟩:=enter hI hA hs hru hM2 hnd (fun p hp hrd=>hprev p hp hrd (notpend p hp)) (Nat.le_trans hE.next hE2.next)
    refine ih gh1 pend1 rest1 T2 H2 V2 _ w2 _ hM3 hc3 (hL.add hxi hrd fun y hy=> ?_) (by simp only [List.length_cons]at hk;omega) ((hE.trans hE2).trans hE3) (by rw [Act.size_put];exact hsz) (by rw [Act.defers_put];exact hdf)
    rw [hmem y]
    constructor
    ·rintro (h|h)
     ·exact⟨.inl h,hM.apart y x h (by simp)⟩
     exact⟨.inr (by simp [h]),(hdep y h).2.2⟩
    rintro ⟨h|h,hne⟩
    ·exact .inl h
    rcases List.mem_cons.1 h with rfl|h
    ·exact absurd rfl hne
    exact .inr h
end Go.Px
end
section
namespace Go.Px
open Go Go.RowKit
variable {P:Program} {F:z9} {G:(Nat→Int)→Prop} {V:qS} {B:Nat} {w0 w:World} {H:Hp} {ops:Array Oper}
def cP (n:Nat) (l:List Oper):Bool:=l.all fun o=>match o.dst with
 |some d=>Nat.blt d n
 |none=>true
def q8 (n:Nat):Code→Bool
 | .region _ ops _=>cP n ops.toList
 | .seq a b=>q8 n a && q8 n b
 | .cond _ a b=>q8 n a && q8 n b
 | .block _ b=>q8 n b
 | .loop b=>q8 n b
 |_=>true
def m7 (fn:Func):Bool:=(match fn.body with
 |some b=>q8 fn.ntmps b && !(fn.name== "runtime.NumGoroutine")
 |none=>true)
structure iH (P:Program):Prop where
 fns: ∀(f:FuncId) fn,P.funcs[f]? =some fn→m7 fn=true
 mixed:P.follows .mixedOrders=true
theorem pm {n:Nat} {l:List Oper} (h:cP n l=true): ∀o,o ∈ l→ ∀d,o.dst=some d→d<n:=by
 intro o ho d hd
 simp only [cP,List.all_eq_true]at h
 have:=h o ho
 rw [hd]at this
 simpa using this
theorem zt.drew' (hW:zt B w0 V H w):zt B w0 V H { w with drawn:=w.drawn+1 } :=hW.drew
theorem pL (hP:iH P) {rec:Vg} (hC:j3 P F G B w0 rec.call) {id:Nat} {T Tf:Tm} {Hf:Hp} {a:Act} {Q:Exit→Act→World→Prop} (hF:FG F G V.ρ) (hW:zt B w0 V H w) (hT:ga V T a.tmps)
 (hd: ∀o,o ∈ ops.toList→ ∀d,o.dst=some d→d<a.tmps.size) (h:YY P F rec ops T H=some (Tf,Hf))
 (hQ: ∀V' a' w',gX V V' H Hf→zt B w0 V' Hf w'→ga V' Tf a'.tmps→a'.tmps.size=a.tmps.size→a'.defers=a.defers→Q .normal a' w'):(Code.region id ops true).wp P Q a w:=by
 refine wp_region_any hP.mixed ?_
 unfold YY at h
 split at h
 case h_2=>cases h
 rename_i ss hpl
 unfold QG at hpl
 split at hpl
 case h_2=>cases hpl
 rename_i its hits
 cases hap:Qz ops its with
 |false=>rw [hap]at hpl;cases hpl
 |true=>
 rw [hap]at hpl
 simp only [cond_true]at hpl
 obtain⟨hI,hlen⟩:=pX hits
 have hA:=Gc hap
 have hin: ∀x,x ∈ its→its[x.i]? =some x:=by
  intro x hx
  obtain⟨k,hk⟩:=List.mem_iff_getElem?.1 hx
  rw [(hI.at_ k x hk).1];exact hk
 have hmem: ∀x,x ∈ its→x.o ∈ ops.toList:=by
  intro x hx
  have:=(hI.at_ x.i x (hin x hx)).2
  exact List.mem_of_getElem? (by rw [Array.getElem?_toList];exact this)
 have hM:f4 P F ops its B w0 (fun _=>0) H.next False [] its T H V a { w with drawn:=w.drawn+1 } :=
  ⟨hW.drew',fun x hx=>hin x (hx.resolve_left (by simp)),fun p _ hp=>by simp at hp,fun p _ hp=>by simp at hp,fun p hp=>by simp at hp,fun p _ hp=>by simp at hp,fun p hp=>by simp at hp,fun t x hx=> .inr (hT t x hx)⟩
 have hnd:its.Pairwise (fun x y=>x.i≠y.i):=by
  rw [List.pairwise_iff_getElem]
  intro i j hi hj hij e
  have h1:=(hI.at_ i its[i] (List.getElem?_eq_getElem hi)).1
  have h2:=(hI.at_ j its[j] (List.getElem?_eq_getElem hj)).1
  omega
 obtain⟨gh1,pend1,rest1,T1,H1,hM1,hE1,hc1,hmem1,hlen1⟩:=enter hI hA hpl h hM hnd (fun p hp=>by simp at hp) (Nat.le_refl _)
 refine tR hI hA hlen hC hF (fun x hx d hxd=>hd x.o (hmem x hx) d hxd) hQ ops.size gh1 pend1 rest1 T1 H1 V a _ _ hM1 hc1 ⟨by simp [hlen],fun x hx=> ?_,fun k x hx hl=> ?_⟩ (by simp at hlen1;omega) hE1 rfl rfl
 ·have hlt:=(List.getElem?_eq_some_iff.1 hx).1
  rw [hmem1 x]
  simp [show x.i<ops.size by omega,List.mem_of_getElem? hx]
 have hlt:=(List.getElem?_eq_some_iff.1 hx).1
 simp [show k<ops.size by omega]at hl
def Cr:AExit→Exit→Prop
 | .normal,.normal=>True
 | .exit i,.exit j=>i=j
 | .ret,.ret=>True
 |_,_=>False
def GP (B:Nat) (w0:World) (V:qS) (H:Hp) (e:AExit) (T':Tm) (H':Hp) (sz:Nat):Exit→Act→World→Prop:=fun x a' w'=>
 Cr e x∧ ∃V',gX V V' H H'∧zt B w0 V' H' w'∧ga V' T' a'.tmps∧a'.defers= []∧a'.tmps.size=sz
def Y4 (P:Program) (b:Code) (Q:Exit→Act→World→Prop) (a:Act) (w:World):Prop:=
 ∀(f:Frame) (k:List Item) (cs:List Frame),∃e a' w',Q e a' w'∧Arrives P (lone (f.at a (.code b:: .inLoop b::k)) cs w) f k cs e a' w'
theorem Y4.wp {b:Code} {Q:Exit→Act→World→Prop} {a:Act} (h:Y4 P b Q a w):(Code.loop b).wp P Q a w:=
 fun f k cs=>let ⟨e,a',w',q,r⟩:=h f k cs;⟨e,a',w',q,.of_steps (.one step_loop) r⟩
theorem Y4.round {b:Code} {Q:Exit→Act→World→Prop} {a:Act} (h:b.wp P (Exit.then (Y4 P b Q) Q) a w):Y4 P b Q a w:=by
 intro f k cs
 obtain⟨e,a1,w1,hq,harr⟩:=h f (.inLoop b::k) cs
 have out: ∀e,e≠ .normal→Q e a1 w1→Arrives P (lone (f.at a (.code b:: .inLoop b::k)) cs w) f (.inLoop b::k) cs e a1 w1→ ∃e a' w',Q e a' w'∧Arrives P (lone (f.at a (.code b:: .inLoop b::k)) cs w) f k cs e a' w':=
  fun e hne hq harr=>⟨e,a1,w1,hq,.pass (x:= .inLoop b) rfl (fun _ _=> .inl hne) harr⟩
 cases e with
 |normal=>
  obtain⟨e2,a2,w2,hq2,harr2⟩:=hq f k cs
  exact⟨e2,a2,w2,hq2,.of_steps (Steps.trans harr (.one step_inLoop)) harr2⟩
 |exit id=>exact out _ (by simp) hq harr
 |goto l=>exact out _ (by simp) hq harr
 |ret=>exact out _ (by simp) hq harr
 |panic ch=>exact out _ (by simp) hq harr
 |outgrown=>exact out _ (by simp) hq harr
structure fU (P:Program) (F:z9) (G:(Nat→Int)→Prop) (B:Nat) (w0:World) (rec:Vg):Prop where
 code: ∀c T H e T' H',rec.code c T H=some (e,T',H')→ ∀n V w (a:Act),q8 n c=true→n≤a.tmps.size→a.defers= []→FG F G V.ρ→zt B w0 V H w→ga V T a.tmps→
  c.wp P (GP B w0 V H e T' H' a.tmps.size) a w∧ ∀b,c= .loop b→Y4 P b (GP B w0 V H e T' H' a.tmps.size) a w
 call:j3 P F G B w0 rec.call
theorem GP.after {V1:qS} {H1 H2:Hp} {e:AExit} {T2:Tm} {sz sz1:Nat} (hE:gX V V1 H H1) (hs:sz1=sz) {x:Exit} {a':Act} {w':World} (h:GP B w0 V1 H1 e T2 H2 sz1 x a' w'):GP B w0 V H e T2 H2 sz x a' w':=by
 obtain⟨h1,V',h2,h3,h4,h5,h6⟩:=h
 exact⟨h1,V',hE.trans h2,h3,h4,h5,by omega⟩
theorem b8 (hP:iH P) {rec:Vg} (hR:fU P F G B w0 rec) {c:Code} {T:Tm} {e:AExit} {T':Tm} {H':Hp} (h:vc P F rec c T H=some (e,T',H')) {n:Nat} {a:Act} (hok:q8 n c=true) (hn:n≤a.tmps.size) (hdf:a.defers= [])
 (hF:FG F G V.ρ) (hW:zt B w0 V H w) (hT:ga V T a.tmps):
 c.wp P (GP B w0 V H e T' H' a.tmps.size) a w∧ ∀b,c= .loop b→Y4 P b (GP B w0 V H e T' H' a.tmps.size) a w:=by
 have now: ∀x,Cr e x→T'=T→H'=H→GP B w0 V H e T' H' a.tmps.size x a w:=fun x hx h1 h2=>by
  subst h1 h2;exact⟨hx,V,.refl V _,hW,hT,hdf,rfl⟩
 cases c with
 |skip=>cases h;exact⟨wp_skip (now _ trivial rfl rfl),fun b hb=>by cases hb⟩
 |label l=>cases h;exact⟨wp_label (now _ trivial rfl rfl),fun b hb=>by cases hb⟩
 |exit id=>cases h;exact⟨wp_exit (now _ rfl rfl rfl),fun b hb=>by cases hb⟩
 |ret=>cases h;exact⟨wp_ret (now _ trivial rfl rfl),fun b hb=>by cases hb⟩
 |region id ops draw=>
  refine⟨?_,fun b hb=>by cases hb⟩
  simp only [vc]at h
  have hd: ∀o,o ∈ ops.toList→ ∀d,o.dst=some d→d<a.tmps.size:=fun o ho d hd=>Nat.lt_of_lt_of_le (pm (n:=n) hok o ho d hd) hn
  split at h
  case h_2=>cases h
  rename_i T1 H1 hr
  cases h
  cases draw with
  |true=>exact pL hP hR.call hF hW hT hd hr fun V' a' w' h1 h2 h3 h4 h5=>⟨trivial,V',h1,h2,h3,by rw [h5,hdf],h4⟩
  |false=>
   refine wp_region ?_
   have:=f8 (ops:=ops) (Q:=GP B w0 V H .normal T' H' a.tmps.size) hR.call ops.toList 0 T H V a w (fun k=>by simp) hd hF hW hT hr fun V' a' w' h1 h2 h3 h4 h5=>⟨trivial,V',h1,h2,h3,by rw [h5,hdf],h4⟩
   rw [List.range_eq_range']
   simpa using this
 |seq x y=>
  refine⟨?_,fun b hb=>by cases hb⟩
  simp only [q8,Bool.and_eq_true]at hok
  simp only [vc]at h
  split at h
  ·rename_i T1 H1 h1
   refine wp_seq (wp_mono (hR.code _ _ _ _ _ _ h1 n V w a hok.1 hn hdf hF hW hT).1 fun e1 a1 w1 hp=> ?_)
   obtain⟨he,V1,p1,p2,p3,p4,p5⟩:=hp
   cases e1<;>try (exact he.elim)
   exact wp_mono (hR.code _ _ _ _ _ _ h n V1 w1 a1 hok.2 (by omega) p4 (by rw [p1.le.ρ];exact hF) p2 p3).1 fun _ _ _ hq=>hq.after p1 p5
  rename_i hne
  refine wp_seq (wp_mono (hR.code _ _ _ _ _ _ h n V w a hok.1 hn hdf hF hW hT).1 fun e1 a1 w1 hp=> ?_)
  cases e1 with
  |normal=>
   obtain⟨he,_⟩:=hp
   cases e<;>try (exact he.elim)
   exact absurd h (hne _ _)
  |exit id=>exact hp
  |goto l=>exact hp
  |ret=>exact hp
  |panic ch=>exact hp
  |outgrown=>exact hp
 |cond x y z=>
  refine⟨?_,fun b hb=>by cases hb⟩
  simp only [q8,Bool.and_eq_true]at hok
  simp only [vc]at h
  split at h
  case h_2=>cases h
  rename_i t hx
  have hv:=(be hT hx).inv_bool
  refine wp_cond hv ?_
  cases t with
  |true=>exact(hR.code _ _ _ _ _ _ h n V w a hok.1 hn hdf hF hW hT).1
  |false=>exact(hR.code _ _ _ _ _ _ h n V w a hok.2 hn hdf hF hW hT).1
 |block id y=>
  refine⟨?_,fun b hb=>by cases hb⟩
  simp only [vc]at h
  split at h
  ·rename_i i T1 H1 h1
   refine wp_block (wp_mono (hR.code _ _ _ _ _ _ h1 n V w a hok hn hdf hF hW hT).1 fun e1 a1 w1 hp=> ?_)
   obtain⟨he,hrest⟩:=hp
   cases e1<;>try (exact he.elim)
   rename_i j
   have he:i=j:=he
   subst he
   simp only [Exit.inBlock]
   cases hb:Nat.beq i id with
   |true=>
    rw [hb]at h;cases h
    rw [if_pos (Nat.eq_of_beq_eq_true hb)]
    exact⟨trivial,hrest⟩
   |false=>
    rw [hb]at h;cases h
    rw [if_neg (fun e=>by rw [e]at hb;simp at hb)]
    exact⟨rfl,hrest⟩
  rename_i hne
  refine wp_block (wp_mono (hR.code _ _ _ _ _ _ h n V w a hok hn hdf hF hW hT).1 fun e1 a1 w1 hp=> ?_)
  cases e1 with
  |exit j=>
   obtain⟨he,_⟩:=hp
   cases e<;>try (exact he.elim)
   exact absurd h (hne _ _ _)
  |normal=>exact hp
  |goto l=>exact hp
  |ret=>exact hp
  |panic ch=>exact hp
  |outgrown=>exact hp
 |loop y=>
  have key:Y4 P y (GP B w0 V H e T' H' a.tmps.size) a w:=by
   simp only [vc]at h
   split at h
   ·rename_i T1 H1 h1
    refine .round (wp_mono (hR.code _ _ _ _ _ _ h1 n V w a hok hn hdf hF hW hT).1 fun e1 a1 w1 hp=> ?_)
    obtain⟨he,V1,p1,p2,p3,p4,p5⟩:=hp
    cases e1<;>try (exact he.elim)
    have:=(hR.code _ _ _ _ _ _ h n V1 w1 a1 hok (by omega) p4 (by rw [p1.le.ρ];exact hF) p2 p3).2 y rfl
    intro f k cs
    obtain⟨e2,a2,w2,hq,harr⟩:=this f k cs
    exact⟨e2,a2,w2,hq.after p1 p5,harr⟩
   rename_i hne
   refine .round (wp_mono (hR.code _ _ _ _ _ _ h n V w a hok hn hdf hF hW hT).1 fun e1 a1 w1 hp=> ?_)
   cases e1 with
   |normal=>
    obtain⟨he,_⟩:=hp
    cases e<;>try (exact he.elim)
    exact absurd h (hne _ _)
   |exit id=>exact hp
   |goto l=>exact hp
   |ret=>exact hp
   |panic ch=>exact hp
   |outgrown=>exact hp
  exact⟨key.wp,fun b hb=>by cases hb;exact key⟩
 |_=>cases h
end Go.Px
end
section
namespace Go.Px
open Go Go.RowKit
variable {P:Program} {F:z9} {G:(Nat→Int)→Prop} {V:qS} {B:Nat} {w0 w:World} {H:Hp} {ops:Array Oper}
def UF (tmps:Array Value):ResultVar→Sem Value
 | .tmp t=>pure (tmps.getD t undef)
 | .cell a t=>do loadVar t (←asAddr (tmps.getD a undef))
theorem Gb (hW:zt B w0 V H w) {T:Tm} {tmps:Array Value} (hT:ga V T tmps) {r:ResultVar} {v:AVal} (h:ZL P T H r=some v):
 ∃v',zL V v v'∧(UF tmps r).run P w= .ok v' w:=by
 cases r with
 |tmp t=>
  obtain⟨u,h1,h2⟩:=hT t v h
  exact⟨u,h2,by simp [UF,Array.getD_eq_getD_getElem?,h1]⟩
 |cell a t=>
  simp only [ZL]at h
  split at h
  case h_2=>cases h
  rename_i i off ha
  obtain⟨u,h1,h2⟩:=hT a _ ha
  obtain⟨b,base,S,hb,rfl⟩:=h2.inv_ptr
  obtain⟨v',h3,h4⟩:=VJ (P:=P) hW hb h
  exact⟨v',h3,by simp [UF,Array.getD_eq_getD_getElem?,h1,asAddr,h4]⟩
theorem UC (hW:zt B w0 V H w) {T:Tm} {tmps:Array Value} (hT:ga V T tmps): ∀ {rs:List ResultVar} {vs:List AVal},ql P T H rs=some vs→
 ∃us,yX V vs us∧(rs.mapM (UF tmps)).run P w= .ok us w:=by
 intro rs
 induction rs with
 |nil=>intro vs h;cases h;exact⟨[],.nil,by simp⟩
 |cons r rs ih=>
  intro vs h
  simp only [ql]at h
  split at h
  case h_2=>cases h
  rename_i v vs' h1 h2
  cases h
  obtain⟨u,h3,h4⟩:=Gb hW hT h1
  obtain⟨us,h5,h6⟩:=ih h2
  refine⟨u::us,.cons h3 h5,?_⟩
  rw [List.mapM_cons]
  simp only [Sem.run_bind,h4,Result.andThen_ok,h6,Sem.run_pure]
theorem nY: ∀ {vs:List AVal} {i:Nat} {T:Tm} {x:Array Value},(∀(j:Nat) v,vs[j]? =some v→ ∃u,x[i+j]? =some u∧zL V v u)→ga V T x→ga V (YE vs i T) x:=by
 intro vs
 induction vs with
 |nil=>intro i T x _ hT;exact hT
 |cons v vs ih=>
  intro i T x h hT
  refine ih (fun j u hj=> ?_) (fun t a ha=> ?_)
  ·have:=h (j+1) u (by simpa using hj)
   rwa [show i+1+j=i+(j+1)by omega]
  rcases Tm.get_put i t v T a ha with⟨rfl,rfl⟩|⟨_,h2⟩
  ·have:=h 0 a rfl
   simpa using this
  exact hT t a h2
theorem dG (hP:iH P) {rec:Vg} (hR:fU P F G B w0 rec):j3 P F G B w0 (Q6 P rec):=by
 intro f args H v H' h
 unfold Q6 at h
 split at h
 case h_1=>cases h
 rename_i fn hf
 split at h
 case h_1=>cases h
 rename_i b hb
 have hok:=hP.fns f fn hf
 simp only [m7,hb,Bool.and_eq_true,Bool.not_eq_true']at hok
 refine⟨⟨fn,hf,hok.2,by rw [hb];rfl⟩,fun V w args' hF hW hl=> ?_⟩
 have hlen:=hl.length
 have hT:ga V (YE args 0 (Tm.mk (fn.ntmps/16+1))) (args'++Array.replicate (fn.ntmps-args'.size) undef):=by
  refine nY (fun j u hj=> ?_) (fun t a ha=>by rw [Tm.get_mk]at ha;cases ha)
  obtain⟨u',h1,h2⟩:=hl.at j u hj
  rw [Array.getElem?_toList]at h1
  have hlt:j<args'.size:=(Array.getElem?_eq_some_iff.1 h1).1
  exact⟨u',by rw [Nat.zero_add,Array.getElem?_append_left hlt];exact h1,h2⟩
 have hsz:fn.ntmps≤(args'++Array.replicate (fn.ntmps-args'.size) undef).size:=by simp;omega
 have fin: ∀e T1 H1,rec.code b (YE args 0 (Tm.mk (fn.ntmps/16+1))) H=some (e,T1,H1)→(e= .normal∨e= .ret)→(match ql P T1 H1 fn.results.toList with
  |some [v]=>some (v,H1)
  |some vs=>some (.tuple vs,H1)
  |none=>none)=some (v,H')→Calls P f args' w fun e w'=> ∃V' v',e= .returned v'∧gX V V' H H'∧zt B w0 V' H' w'∧zL V' v v':=by
  intro e T1 H1 h1 he hres
  refine calls_of_wp hf hb (wp_mono (hR.code _ _ _ _ _ _ h1 fn.ntmps V w ⟨_,[]⟩ hok.1 hsz rfl hF hW hT).1 fun x a' w' hp=> ?_)
  obtain⟨hx,V',p1,p2,p3,p4,p5⟩:=hp
  have hend:a'.defers= []∧ ∃v',(results fn a'.tmps).run P w'= .ok v' w'∧ ∃V' v'',Ending.returned v'= .returned v''∧gX V V' H H'∧zt B w0 V' H' w'∧zL V' v v'':=by
   refine⟨p4,?_⟩
   cases hrs:ql P T1 H1 fn.results.toList with
   |none=>rw [hrs]at hres;cases hres
   |some vs=>
    rw [hrs]at hres
    obtain⟨us,q1,q2⟩:=UC p2 p3 hrs
    have hrun: ∀u,(if h:us.toArray.size=1 then us.toArray[0]else .tuple us.toArray)=u→(results fn a'.tmps).run P w'= .ok u w':=by
     intro u hu
     have e:results fn a'.tmps=(do
      let vs←fn.results.mapM (UF a'.tmps)
      pure (if h:vs.size=1 then vs[0]else .tuple vs)):=by
      unfold results
      congr 1
     rw [e,Array.mapM_eq_mapM_toList]
     simp only [map_eq_pure_bind,Sem.run_bind,bind_assoc,pure_bind]
     rw [q2]
     simp only [Result.andThen_ok,Sem.run_pure,hu]
    cases vs with
    |nil=>
     cases q1
     cases hres
     exact⟨_,hrun _ rfl,V',_,rfl,p1,p2,zL.tupleL .nil⟩
    |cons x vs=>
     cases q1 with
     |cons hx hvs=>
     cases vs with
     |nil=>
      cases hvs
      cases hres
      exact⟨_,hrun _ rfl,V',_,rfl,p1,p2,by simpa using hx⟩
     |cons y vs=>
      cases hvs with
      |cons hy hvs=>
      cases hres
      exact⟨_,hrun _ rfl,V',_,rfl,p1,p2,by simpa using zL.tupleL (.cons hx (.cons hy hvs))⟩
  cases x with
  |normal=>exact hend
  |ret=>exact hend
  |exit i=>rcases he with rfl|rfl<;>exact hx.elim
  |goto i=>rcases he with rfl|rfl<;>exact hx.elim
  |panic c=>rcases he with rfl|rfl<;>exact hx.elim
  |outgrown=>rcases he with rfl|rfl<;>exact hx.elim
 split at h
 ·cases h
 ·rename_i e T1 H1 hne h1
  refine fin e T1 H1 h1 ?_ h
  cases e with
  |normal=>exact .inl rfl
  |ret=>exact .inr rfl
  |exit i=>exact(hne i rfl).elim
 cases h
def WF (P:Program) (F:z9) (G:(Nat→Int)→Prop) (B:Nat) (w0:World) (hook:yZ):Prop:= ∀f g,hook f=some g→j3 P F G B w0 fun f' args H=>if f'=f then g args H else none
theorem QB (hP:iH P) {hook:yZ} (hH:WF P F G B w0 hook): ∀n,fU P F G B w0 (ZH P F hook n):=by
 intro n
 induction n with
 |zero=>exact⟨fun _ _ _ _ _ _ h=>(by cases h),fun _ _ _ _ _ h=>(by cases h)⟩
 |succ n ih=>
  refine⟨fun c T H e T' H' h n V w a hok hn hdf hF hW hT=>b8 hP ih h hok hn hdf hF hW hT,?_⟩
  intro f args H v H' h
  have h':(match hook f with
   |some g=>g args H
   |none=>Q6 P (ZH P F hook n) f args H)=some (v,H'):=h
  cases hk:hook f with
  |none=>rw [hk]at h';exact dG hP ih f args H v H' h'
  |some g=>rw [hk]at h';exact hH f g hk f args H v H' (by simpa using h')
theorem pO:WF P F G B w0 (fun _=>none):=fun _ _ h=>by cases h
theorem mB (hP:iH P) {hook:yZ} {ρ:Nat→Int} (hF:FG F G ρ) (hH: ∀B w0,WF P F G B w0 hook) {n:Nat} {f:FuncId} {args:List AVal} {H':Hp} {x:Array Value}
 (h:(ZH P F hook n).call f args ⟨.nil,0⟩=some (.bool true,H')) (hx:yX ⟨ρ,fun _=>none,0⟩ args x.toList) (w:World):
 Calls P f x w fun e w'=>e= .returned (.bool true)∧Below w.heap.size w w'∧ ∀b arr el z,w.heap.size≤b→w'.heap[b]? =some (.cells arr el z)→z=(0,0):=by
 have hR:=QB (B:=w.heap.size) (w0:=w) hP (hH _ _) n
 have hW:zt w.heap.size w ⟨ρ,fun _=>none,0⟩ ⟨.nil,0⟩ w:=by
  refine⟨.refl _ _,Nat.le_refl _,fun id _=>⟨rfl,by rw [Tr.get_nil]⟩,fun id b base S h=>(by cases h),fun id o b base S _ h=>(by cases h),fun id id' o o' b b' ba ba' S S' _ _ h=>(by cases h),fun b arr el z hb h=> ?_,Nat.zero_le _⟩
  have:=(Array.getElem?_eq_some_iff.1 h).1
  omega
 refine((hR.call f args _ _ _ h).2 _ w x hF hW hx).mono fun e w' he=> ?_
 obtain⟨V',v',rfl,h1,h2,h3⟩:=he
 cases h3
 exact⟨rfl,h2.below,h2.fz⟩
theorem xJ (hP:iH P) {hook:yZ} {w:World} (hF:FG F G V.ρ) (hH:WF P F G w.heap.size w hook) (hW:zt w.heap.size w V H w) {n:Nat} {f:FuncId} {args:List AVal} {H':Hp} {x:Array Value}
 (h:(ZH P F hook n).call f args H=some (.bool true,H')) (hx:yX V args x.toList):
 Calls P f x w fun e w'=>e= .returned (.bool true)∧Below w.heap.size w w'∧ ∀b arr el z,w.heap.size≤b→w'.heap[b]? =some (.cells arr el z)→z=(0,0):=by
 have hR:=QB (B:=w.heap.size) (w0:=w) hP hH n
 refine((hR.call f args _ _ _ h).2 _ w x hF hW hx).mono fun e w' he=> ?_
 obtain⟨V',v',rfl,h1,h2,h3⟩:=he
 cases h3
 exact⟨rfl,h2.below,h2.fz⟩
theorem grown_of {W w':World} (h:Below W.heap.size W w') (hz: ∀(b:Nat) arr el z,W.heap.size≤b→w'.heap[b]? =some (.cells arr el z)→z=(0,0)):Grown W w':=by
 refine⟨h.frame _,fun a=> ?_,h.size⟩
 by_cases hb:a.block<W.heap.size
 ·simp only [World.frozen?,h.block a.block hb]
 have e1:W.frozen? a=false:=by
  have:W.heap[a.block]? =none:=Array.getElem?_eq_none (by omega)
  simp only [World.frozen?,this]
 rw [e1]
 unfold World.frozen?
 split
 ·rename_i arr el lo hi he
  have:=hz a.block arr el (lo,hi) (by omega) he
  cases this
  simp
 rfl
end Go.Px
end
namespace Go.Px
open Go Go.RowKit
def Tm.len:Tm→Nat
 | .nil=>0
 | .node _ _ _ _ _ _ _ _ _ _ _ _ _ _ _ _ nx=>nx.len+1
theorem Tm.s_len (i:QC) (v:AVal) (t:Tm):(Tm.s i v t).len=t.len:=by
 cases t with
 |nil=>rw [Tm.s_nil]
 |node=>cases i<;>rfl
section
variable (P:Program) (F:z9) (hook:yZ)
def Wy (f:FuncId) (args:List AVal) (H:Hp) (v:AVal) (H':Hp):Prop:= ∃n,∀m,n≤m→(ZH P F hook m).call f args H=some (v,H')
def yx (c:Code) (T:Tm) (H:Hp) (e:AExit) (T':Tm) (H':Hp):Prop:= ∃n,∀m,n≤m→(ZH P F hook m).code c T H=some (e,T',H')
def Uy (ops:Array Oper) (l:List Oper) (T:Tm) (H:Hp) (T':Tm) (H':Hp):Prop:= ∃n,∀m,n≤m→ZE P F (ZH P F hook m) ops l T H=some (T',H')
def sB (ops:Array Oper) (o:Oper) (T:Tm) (H:Hp) (T':Tm) (H':Hp):Prop:= ∃n,∀m,n≤m→gS P F (ZH P F hook m) ops T H o=some (T',H')
end
section
variable {P:Program} {F:z9} {hook:yZ}
theorem vq {c:Code} {T:Tm} {H:Hp} {e:AExit} {T':Tm} {H':Hp} (n:Nat) (h: ∀m,n≤m→vc P F (ZH P F hook m) c T H=some (e,T',H')):yx P F hook c T H e T' H':=
 ⟨n+1,fun m hm=>by
  obtain⟨k,rfl⟩: ∃k,m=k+1:=⟨m-1,by omega⟩
  exact h k (by omega)⟩
theorem yx.skip (T:Tm) (H:Hp):yx P F hook .skip T H .normal T H:=vq 0 fun _ _=>rfl
theorem yx.ret (T:Tm) (H:Hp):yx P F hook .ret T H .ret T H:=vq 0 fun _ _=>rfl
theorem yx.exit (i:Nat) (T:Tm) (H:Hp):yx P F hook (.exit i) T H (.exit i) T H:=vq 0 fun _ _=>rfl
theorem yx.seq {a b:Code} {T:Tm} {H:Hp} {T1:Tm} {H1:Hp} {e:AExit} {T2:Tm} {H2:Hp} (h1:yx P F hook a T H .normal T1 H1) (h2:yx P F hook b T1 H1 e T2 H2):yx P F hook (.seq a b) T H e T2 H2:=by
 obtain⟨n1,h1⟩:=h1
 obtain⟨n2,h2⟩:=h2
 refine vq (max n1 n2) fun m hm=> ?_
 simp only [vc,h1 m (by omega)]
 exact h2 m (by omega)
theorem yx.seq_out {a b:Code} {T:Tm} {H:Hp} {e:AExit} {T2:Tm} {H2:Hp} (h1:yx P F hook a T H e T2 H2) (he:e≠ .normal):yx P F hook (.seq a b) T H e T2 H2:=by
 obtain⟨n1,h1⟩:=h1
 refine vq n1 fun m hm=> ?_
 simp only [vc,h1 m hm]
 cases e with
 |normal=>exact absurd rfl he
 |exit i=>rfl
 |ret=>rfl
theorem yx.cond {x:Operand} {t:Bool} {a b:Code} {T:Tm} {H:Hp} {e:AExit} {T2:Tm} {H2:Hp} (hx:opnd T x=some (.bool t)) (h:yx P F hook (bif t then a else b) T H e T2 H2):yx P F hook (.cond x a b) T H e T2 H2:=by
 obtain⟨n,h⟩:=h
 refine vq n fun m hm=> ?_
 simp only [vc,hx]
 exact h m hm
theorem yx.block {id:Nat} {b:Code} {T:Tm} {H:Hp} {e:AExit} {T2:Tm} {H2:Hp} (h:yx P F hook b T H e T2 H2):yx P F hook (.block id b) T H (match e with
 | .exit i=>bif Nat.beq i id then .normal else .exit i
 |e=>e) T2 H2:=by
 obtain⟨n,h⟩:=h
 refine vq n fun m hm=> ?_
 simp only [vc,h m hm]
 cases e<;>rfl
theorem yx.loop {b:Code} {T:Tm} {H:Hp} {T1:Tm} {H1:Hp} {e:AExit} {T2:Tm} {H2:Hp} (h1:yx P F hook b T H .normal T1 H1) (h2:yx P F hook (.loop b) T1 H1 e T2 H2):yx P F hook (.loop b) T H e T2 H2:=by
 obtain⟨n1,h1⟩:=h1
 obtain⟨n2,h2⟩:=h2
 refine vq (max n1 n2) fun m hm=> ?_
 simp only [vc,h1 m (by omega)]
 exact h2 m (by omega)
theorem yx.loop_out {b:Code} {T:Tm} {H:Hp} {e:AExit} {T2:Tm} {H2:Hp} (h1:yx P F hook b T H e T2 H2) (he:e≠ .normal):yx P F hook (.loop b) T H e T2 H2:=by
 obtain⟨n1,h1⟩:=h1
 refine vq n1 fun m hm=> ?_
 simp only [vc,h1 m hm]
 cases e with
 |normal=>exact absurd rfl he
 |exit i=>rfl
 |ret=>rfl
theorem yx.region {id:Nat} {ops:Array Oper} {T:Tm} {H:Hp} {T2:Tm} {H2:Hp} (h:Uy P F hook ops ops.toList T H T2 H2):yx P F hook (.region id ops false) T H .normal T2 H2:=by
 obtain⟨n,h⟩:=h
 refine vq n fun m hm=> ?_
 simp only [vc,cond_false,h m hm]
theorem Uy.nil (ops:Array Oper) (T:Tm) (H:Hp):Uy P F hook ops [] T H T H:=⟨0,fun _ _=>rfl⟩
theorem Uy.cons {ops:Array Oper} {o:Oper} {l:List Oper} {T:Tm} {H:Hp} {T1:Tm} {H1:Hp} {T2:Tm} {H2:Hp} (h1:sB P F hook ops o T H T1 H1) (h2:Uy P F hook ops l T1 H1 T2 H2):Uy P F hook ops (o::l) T H T2 H2:=by
 obtain⟨n1,h1⟩:=h1
 obtain⟨n2,h2⟩:=h2
 refine⟨max n1 n2,fun m hm=> ?_⟩
 simp only [ZE,h1 m (by omega)]
 exact h2 m (by omega)
theorem sB.val {ops:Array Oper} {o:Oper} {T:Tm} {H:Hp} {v:AVal} {H':Hp} (hg:zJ ops T o=some true) (h:yJ P F T H o=some (.val v H')):sB P F hook ops o T H (ze T o.dst v) H':=
 ⟨0,fun m _=>by simp only [gS,hg,jf,h]⟩
theorem sB.call {ops:Array Oper} {o:Oper} {T:Tm} {H:Hp} {f:FuncId} {args:List AVal} {v:AVal} {H':Hp} (hg:zJ ops T o=some true) (h:yJ P F T H o=some (.call f args)) (hc:Wy P F hook f args H v H'):sB P F hook ops o T H (ze T o.dst v) H':=by
 obtain⟨n,hc⟩:=hc
 exact⟨n,fun m hm=>by simp only [gS,hg,jf,h,hc m hm]⟩
theorem sB.off {ops:Array Oper} {o:Oper} {T:Tm} {H:Hp} (hg:zJ ops T o=some false):sB P F hook ops o T H (ze T o.dst unit) H:=
 ⟨0,fun m _=>by simp only [gS,hg]⟩
theorem Wy.intro {f:FuncId} {fn:Func} {b:Code} {args:List AVal} {H:Hp} {e:AExit} {T1:Tm} {H':Hp} {vs:List AVal} (hk:hook f=none) (hf:P.funcs[f]? =some fn) (hb:fn.body=some b)
 (h:yx P F hook b (YE args 0 (Tm.mk (fn.ntmps/16+1))) H e T1 H') (he:e= .normal∨e= .ret) (hr:ql P T1 H' fn.results.toList=some vs):
 Wy P F hook f args H (match vs with
  | [v]=>v
  |vs=> .tuple vs) H':=by
 obtain⟨n,h⟩:=h
 refine⟨n+1,fun m hm=> ?_⟩
 obtain⟨k,rfl⟩: ∃k,m=k+1:=⟨m-1,by omega⟩
 have e1:(ZH P F hook (k+1)).call f args H=(match hook f with
  |some h=>h args H
  |none=>Q6 P (ZH P F hook k) f args H):=rfl
 rw [e1,hk]
 simp only [Q6,hf,hb,h k (by omega)]
 rcases he with rfl|rfl<;>(simp only [hr];match vs with
  | []=>rfl
  | [_]=>rfl
  |_::_::_=>rfl)
theorem Wy.ok {G:(Nat→Int)→Prop} {B:Nat} {w0:World} (hP:iH P) (hH:WF P F G B w0 hook) {f:FuncId} {g:List AVal→Hp→Option (AVal×Hp)} (h: ∀args H v H',g args H=some (v,H')→Wy P F hook f args H v H'):
 j3 P F G B w0 fun f' args H=>if f'=f then g args H else none:=by
 intro f' args H v H' hh
 simp only at hh
 split at hh
 case isFalse=>cases hh
 rename_i hf
 subst hf
 obtain⟨n,hn⟩:=h args H v H' hh
 exact(QB hP hH n).call f' args H v H' (hn n (Nat.le_refl _))
end
section
variable (P:Program) (F:z9) (hook:yZ)
def jZ (f:FuncId) (args:List AVal) (H:Hp) (Q:AVal→Hp→Prop):Prop:= ∃v H',Wy P F hook f args H v H'∧Q v H'
def jE (c:Code) (T:Tm) (H:Hp) (Q:AExit→Tm→Hp→Prop):Prop:= ∃e T' H',yx P F hook c T H e T' H'∧Q e T' H'
def vH (ops:Array Oper):List Oper→Tm→Hp→(Tm→Hp→Prop)→Prop
 | [],T,H,Q=>Q T H
 |o::l,T,H,Q=>match zJ ops T o with
  |some true=>match yJ P F T H o with
   |some (.val v H')=>vH ops l (ze T o.dst v) H' Q
   |some (.call f as)=>jZ P F hook f as H fun v H'=>vH ops l (ze T o.dst v) H' Q
   |none=>False
  |some false=>vH ops l (ze T o.dst unit) H Q
  |none=>False
def qg:Code→Tm→Hp→(AExit→Tm→Hp→Prop)→Prop
 | .skip,T,H,Q=>Q .normal T H
 | .label _,T,H,Q=>Q .normal T H
 | .region _ ops false,T,H,Q=>vH P F hook ops ops.toList T H fun T H=>Q .normal T H
 | .seq a b,T,H,Q=>qg a T H fun e T H=>match e with
  | .normal=>qg b T H Q
  |e=>Q e T H
 | .cond x a b,T,H,Q=>match opnd T x with
  |some (.bool t)=>(t=true→qg a T H Q)∧(t=false→qg b T H Q)
  |_=>False
 | .block id b,T,H,Q=>qg b T H fun e T H=>match e with
  | .exit i=>bif Nat.beq i id then Q .normal T H else Q (.exit i) T H
  |e=>Q e T H
 | .exit id,T,H,Q=>Q (.exit id) T H
 | .ret,T,H,Q=>Q .ret T H
 |c,T,H,Q=>jE P F hook c T H Q
end
section
variable {P:Program} {F:z9} {hook:yZ}
theorem bU {ops:Array Oper} : ∀ {l:List Oper} {T:Tm} {H:Hp} {Q:Tm→Hp→Prop},vH P F hook ops l T H Q→ ∃T' H',Uy P F hook ops l T H T' H'∧Q T' H':=by
 intro l
 induction l with
 |nil=>intro T H Q h;exact⟨T,H,Uy.nil _ _ _,h⟩
 |cons o l ih=>
  intro T H Q h
  simp only [vH]at h
  split at h
  ·rename_i hw
   split at h
   ·rename_i v H1 ha
    obtain⟨T2,H2,h1,h2⟩:=ih h
    exact⟨T2,H2,Uy.cons (sB.val hw ha) h1,h2⟩
   ·rename_i f args ha
    obtain⟨v,H1,hc,h⟩:=h
    obtain⟨T2,H2,h1,h2⟩:=ih h
    exact⟨T2,H2,Uy.cons (sB.call hw ha hc) h1,h2⟩
   exact h.elim
  ·rename_i hw
   obtain⟨T2,H2,h1,h2⟩:=ih h
   exact⟨T2,H2,Uy.cons (sB.off hw) h1,h2⟩
  exact h.elim
theorem jE.imp {c:Code} {T:Tm} {H:Hp} {Q Q':AExit→Tm→Hp→Prop} (h:jE P F hook c T H Q) (hq: ∀e T H,Q e T H→Q' e T H):jE P F hook c T H Q':=by
 obtain⟨e,T1,H1,h1,h2⟩:=h
 exact⟨e,T1,H1,h1,hq _ _ _ h2⟩
theorem JM: ∀ {c:Code} {T:Tm} {H:Hp} {Q:AExit→Tm→Hp→Prop},qg P F hook c T H Q→jE P F hook c T H Q:=by
 intro c
 induction c with
 |skip=>intro T H Q h;exact⟨_,_,_,yx.skip T H,h⟩
 |label l=>intro T H Q h;exact⟨_,_,_,vq 0 fun _ _=>rfl,h⟩
 |region id ops draw=>
  intro T H Q h
  cases draw with
  |true=>exact h
  |false=>
   obtain⟨T1,H1,h1,h2⟩:=bU h
   exact⟨_,_,_,yx.region h1,h2⟩
 |seq a b iha ihb=>
  intro T H Q h
  obtain⟨e,T1,H1,h1,h2⟩:=iha h
  cases e with
  |normal=>
   obtain⟨e2,T2,H2,h3,h4⟩:=ihb h2
   exact⟨e2,T2,H2,yx.seq h1 h3,h4⟩
  |exit i=>exact⟨_,T1,H1,yx.seq_out h1 nofun,h2⟩
  |ret=>exact⟨_,T1,H1,yx.seq_out h1 nofun,h2⟩
 |cond x a b iha ihb=>
  intro T H Q h
  simp only [qg]at h
  split at h
  ·rename_i t ht
   cases t with
   |true=>
    obtain⟨e,T1,H1,h1,h2⟩:=iha (h.1 rfl)
    exact⟨e,T1,H1,yx.cond ht h1,h2⟩
   |false=>
    obtain⟨e,T1,H1,h1,h2⟩:=ihb (h.2 rfl)
    exact⟨e,T1,H1,yx.cond ht h1,h2⟩
  exact h.elim
 |block id b ih=>
  intro T H Q h
  obtain⟨e,T1,H1,h1,h2⟩:=ih h
  refine⟨_,T1,H1,yx.block h1,?_⟩
  cases e with
  |normal=>exact h2
  |exit i=>
   simp only at h2 ⊢
   cases hb:Nat.beq i id<;>simp only [hb,cond_true,cond_false]at h2 ⊢ <;>exact h2
  |ret=>exact h2
 |exit id=>intro T H Q h;exact⟨_,_,_,yx.exit id T H,h⟩
 |ret=>intro T H Q h;exact⟨_,_,_,yx.ret T H,h⟩
 |loop b ih=>intro T H Q h;exact h
 |rangeFunc f ps a b iha ihb=>intro T H Q h;exact h
 |scope b ih=>intro T H Q h;exact h
 |goto l=>intro T H Q h;exact h
 |refuse w=>intro T H Q h;exact h
theorem jE.loop {b:Code} {T:Tm} {H:Hp} {Q:AExit→Tm→Hp→Prop} (I:Nat→Tm→Hp→Prop) (n:Nat) (h0:I n T H)
 (hs: ∀k T H,I k T H→jE P F hook b T H fun e T' H'=>(e= .normal∧ ∃j,j<k∧I j T' H')∨(e≠ .normal∧Q e T' H')):jE P F hook (.loop b) T H Q:=by
 induction n using Nat.strongRecOn generalizing T H with
 |ind n ih=>
  obtain⟨e,T1,H1,h1,h2⟩:=hs n T H h0
  rcases h2 with⟨rfl,j,hj,hI⟩|⟨hne,hq⟩
  ·obtain⟨e2,T2,H2,h3,h4⟩:=ih j hj hI
   exact⟨e2,T2,H2,yx.loop h1 h3,h4⟩
  exact⟨e,T1,H1,yx.loop_out h1 hne,hq⟩
theorem jZ.intro {f:FuncId} {fn:Func} {b:Code} {args:List AVal} {H:Hp} {Q:AVal→Hp→Prop} (hk:hook f=none) (hf:P.funcs[f]? =some fn) (hb:fn.body=some b)
 (h:qg P F hook b (YE args 0 (Tm.mk (fn.ntmps/16+1))) H fun e T' H'=>(e= .normal∨e= .ret)∧match ql P T' H' fn.results.toList with
  |some [v]=>Q v H'
  |some vs=>Q (.tuple vs) H'
  |none=>False):jZ P F hook f args H Q:=by
 obtain⟨e,T1,H1,h1,he,h2⟩:=JM h
 cases hr:ql P T1 H1 fn.results.toList with
 |none=>rw [hr]at h2;exact h2.elim
 |some vs=>
  refine⟨_,H1,Wy.intro hk hf hb h1 he hr,?_⟩
  rw [hr]at h2
  match vs,h2 with
  | [],h2=>exact h2
  | [_],h2=>exact h2
  |_::_::_,h2=>exact h2
theorem jZ.mono {f:FuncId} {args:List AVal} {H:Hp} {Q Q':AVal→Hp→Prop} (h:jZ P F hook f args H Q) (hq: ∀v H',Q v H'→Q' v H'):jZ P F hook f args H Q':=by
 obtain⟨v,H1,h1,h2⟩:=h
 exact⟨v,H1,h1,hq _ _ h2⟩
theorem jZ.of {f:FuncId} {args:List AVal} {H:Hp} {v:AVal} {H':Hp} (h:jZ P F hook f args H fun v' H''=>v'=v∧H''=H'):Wy P F hook f args H v H':=by
 obtain⟨v1,H1,h1,rfl,rfl⟩:=h
 exact h1
variable {ops:Array Oper} {o:Oper} {l:List Oper} {T:Tm} {H:Hp} {Q:Tm→Hp→Prop}
theorem qQ {v:AVal} {H':Hp} (hw:zJ ops T o=some true) (ha:yJ P F T H o=some (.val v H')) (h:vH P F hook ops l (ze T o.dst v) H' Q):vH P F hook ops (o::l) T H Q:=by
 simp only [vH,hw,ha];exact h
theorem il (hw:zJ ops T o=some false) (h:vH P F hook ops l (ze T o.dst unit) H Q):vH P F hook ops (o::l) T H Q:=by
 simp only [vH,hw];exact h
theorem am {f:FuncId} {as:List AVal} {Q':AVal→Hp→Prop} (hw:zJ ops T o=some true) (ha:yJ P F T H o=some (.call f as)) (hc:jZ P F hook f as H Q') (h: ∀v H',Q' v H'→vH P F hook ops l (ze T o.dst v) H' Q):vH P F hook ops (o::l) T H Q:=by
 simp only [vH,hw,ha];exact hc.mono h
theorem AV {a b:Code} {Q:AExit→Tm→Hp→Prop} (h:qg P F hook a T H fun e T H=>match e with
 | .normal=>qg P F hook b T H Q
 |e=>Q e T H):qg P F hook (.seq a b) T H Q:=h
theorem eP {x:Operand} {a b:Code} {Q:AExit→Tm→Hp→Prop} (hx:opnd T x=some (.bool true)) (h:qg P F hook a T H Q):qg P F hook (.cond x a b) T H Q:=by
 simp only [qg,hx];exact⟨fun _=>h,fun e=>by cases e⟩
theorem cH {x:Operand} {a b:Code} {Q:AExit→Tm→Hp→Prop} (hx:opnd T x=some (.bool false)) (h:qg P F hook b T H Q):qg P F hook (.cond x a b) T H Q:=by
 simp only [qg,hx];exact⟨fun e=>(by cases e),fun _=>h⟩
theorem hO {id:Nat} {b:Code} {Q:AExit→Tm→Hp→Prop} (h:qg P F hook b T H fun e T H=>match e with
 | .exit i=>bif Nat.beq i id then Q .normal T H else Q (.exit i) T H
 |e=>Q e T H):qg P F hook (.block id b) T H Q:=h
theorem Ul: ∀ {l:List Oper} {T:Tm} {H:Hp} {Q Q':Tm→Hp→Prop},vH P F hook ops l T H Q→(∀T H,Q T H→Q' T H)→vH P F hook ops l T H Q':=by
 intro l
 induction l with
 |nil=>intro T H Q Q' h hq;exact hq _ _ h
 |cons o l ih=>
  intro T H Q Q' h hq
  simp only [vH]at h ⊢
  split at h
  ·split at h
   ·exact ih h hq
   ·exact h.mono fun v H' h=>ih h hq
   exact h.elim
  ·exact ih h hq
  exact h.elim
theorem wqCode_mono: ∀ {c:Code} {T:Tm} {H:Hp} {Q Q':AExit→Tm→Hp→Prop},qg P F hook c T H Q→(∀e T H,Q e T H→Q' e T H)→qg P F hook c T H Q':=by
 intro c
 induction c with
 |skip=>intro T H Q Q' h hq;exact hq _ _ _ h
 |label l=>intro T H Q Q' h hq;exact hq _ _ _ h
 |region id ops draw=>
  intro T H Q Q' h hq
  cases draw with
  |true=>exact jE.imp h hq
  |false=>exact Ul h fun T H h=>hq _ _ _ h
 |seq a b iha ihb=>
  intro T H Q Q' h hq
  refine iha h fun e T H h=> ?_
  cases e with
  |normal=>exact ihb h hq
  |exit i=>exact hq _ _ _ h
  |ret=>exact hq _ _ _ h
 |cond x a b iha ihb=>
  intro T H Q Q' h hq
  simp only [qg]at h ⊢
  split at h
  ·exact⟨fun e=>iha (h.1 e) hq,fun e=>ihb (h.2 e) hq⟩
  exact h.elim
 |block id b ih=>
  intro T H Q Q' h hq
  refine ih h fun e T H h=> ?_
  cases e with
  |normal=>exact hq _ _ _ h
  |exit i=>
   simp only at h ⊢
   cases hb:Nat.beq i id<;>simp only [hb,cond_true,cond_false]at h ⊢ <;>exact hq _ _ _ h
  |ret=>exact hq _ _ _ h
 |exit id=>intro T H Q Q' h hq;exact hq _ _ _ h
 |ret=>intro T H Q Q' h hq;exact hq _ _ _ h
 |loop b ih=>intro T H Q Q' h hq;exact jE.imp h hq
 |rangeFunc f ps a b iha ihb=>intro T H Q Q' h hq;exact jE.imp h hq
 |scope b ih=>intro T H Q Q' h hq;exact jE.imp h hq
 |goto l=>intro T H Q Q' h hq;exact jE.imp h hq
 |refuse w=>intro T H Q Q' h hq;exact jE.imp h hq
theorem bN {t:TypeId} {x:Operand} {n:Nat} {fs:Array Field} {f:Field} {sz i off:Nat} (ho:o.op= .fieldAddr t x n) (hu:yO P t=some (.struct fs)) (hf:fs[n]? =some f) (hs:yH P f.type=some (sz+1))
 (hx:opnd T x=some (.ptr (some (i,off)))):yJ P F T H o=some (.val (.ptr (some (i,off+f.offset))) H):=by
 simp only [yJ,ho,uC,hx,hu,hf,hs]
theorem sc {t:TypeId} {x:Operand} {i off:Nat} {v:AVal} (ho:o.op= .load t x) (ht:jB P t=some false) (hx:opnd T x=some (.ptr (some (i,off)))) (hr:H.read1 i off=some v):yJ P F T H o=some (.val v H):=by
 simp only [yJ,ho,WX,Ux,hx,ht,hr,zH.ofVal]
theorem ar {t:TypeId} {x:Operand} {i off n:Nat} {cs:List AVal} (ho:o.op= .load t x) (ht:jB P t=some true) (hs:yH P t=some n) (hx:opnd T x=some (.ptr (some (i,off)))) (hr:H.read i off n=some cs):yJ P F T H o=some (.val (.agg cs) H):=by
 simp only [yJ,ho,WX,Ux,hx,ht,hs,hr,zH.ofVal]
theorem zC {op:BinOp} {t yt:TypeId} {x y:Operand} {a b v:AVal} (ho:o.op= .binOp op t x y yt) (hx:opnd T x=some a) (hy:opnd T y=some b) (hv:wJ P F H op t (tG x||tG y) a b=some v):yJ P F T H o=some (.val v H):=by
 simp only [yJ,ho,Gl,hx,hy,hv,zH.ofVal]
theorem ic {c:Call} {t:TypeId} {ts:List TypeId} {x:Operand} {e:TypeId} {a:Option (Nat×Nat)} {n es:Nat} {cap:Option Nat} (ho:o.op= .call c) (hc:c.callee= .builtin .len) (ht:c.argTypes.toList=t::ts) (ha:c.args.toList= [x])
 (hu:yO P t=some (.slice e)) (hx:opnd T x=some (.slice a n cap es)):yJ P F T H o=some (.val (YM n) H):=by
 simp only [yJ,ho,hc,ht,ha,qf,hx,yU,yI,tO,hu,zH.ofVal]
theorem rN {t:TypeId} {x y:Operand} {e:TypeId} {i off len n size es:Nat} {cap:Option Nat} {k:IntKind} (ho:o.op= .indexAddr t x y) (hu:yO P t=some (.slice e)) (hs:yH P e=some size) (hx:opnd T x=some (.slice (some (i,off)) len cap es))
 (hy:opnd T y=some (.int k (.lit (.ofNat n)))) (hl:n<len):yJ P F T H o=some (.val (.ptr (some (i,off+n*size))) H):=by
 have:Nat.blt n len=true:=by simpa [Nat.blt_eq] using hl
 simp only [yJ,ho,vO,hx,hy,hu,vU,hs,this,cond_true]
theorem ce {t:TypeId} {x y:Operand} {e:TypeId} {i off len n size:Nat} {k:IntKind} (ho:o.op= .indexAddr t x y) (hu:yO P t=some (.array len e)) (hs:yH P e=some size) (hx:opnd T x=some (.ptr (some (i,off))))
 (hy:opnd T y=some (.int k (.lit (.ofNat n)))) (hl:n<len):yJ P F T H o=some (.val (.ptr (some (i,off+n*size))) H):=by
 have:Nat.blt n len=true:=by simpa [Nat.blt_eq] using hl
 simp only [yJ,ho,vO,hx,hy,hu,vU,hs,this,cond_true]
theorem rf {t:TypeId} {x y:Operand} {i off:Nat} {v:AVal} {H':Hp} (ho:o.op= .store t x y) (hs:yH P t=some 1) (hx:opnd T x=some (.ptr (some (i,off)))) (hy:opnd T y=some v) (hc:v.cells= [v]) (hw:H.write1 i off v=some H'):yJ P F T H o=some (.val unit H'):=by
 simp only [yJ,ho,YP,hx,hy,Ub,hs,hc,hw]
theorem QX {t:TypeId} {c:Bool} {k j:IntKind} {x y:Int} (hk:vf k j=true):wJ P F H .lss t c (.int k (.lit x)) (.int j (.lit y))=some (.bool (decide (x<y))):=by
 simp [wJ,hk,uZ,zU.lt,ZQ]
theorem JL {t:TypeId} {c:Bool} {k j:IntKind} {x y:Int} (hk:vf k j=true):wJ P F H .geq t c (.int k (.lit x)) (.int j (.lit y))=some (.bool (decide (y≤x))):=by
 have:(!decide (x<y))=decide (y≤x):=by rw [←decide_not];congr 1;exact propext Int.not_lt
 simp only [wJ,hk,cond_true,uZ,zU.lt,ZQ]
 rw [←this]
 cases decide (x<y)<;>rfl
end
def k7 (H:Hp):Prop:= ∀k x,H.t.get k=some x→k<H.next
theorem k7.put {H:Hp} (h:k7 H) {i:Nat} {x:uj} (hi:H.t.get i=some x) (o:uj):k7 (H.put i o):=by
 intro k y hk
 simp only [Hp.put,Tr.get_set]at hk
 by_cases e:k=i
 ·subst e;exact h k x hi
 rw [if_neg e]at hk;exact h k y hk
class FA (P:Program) (t n:Nat) (off:outParam Nat):Prop where
 h: ∃fs f sz,yO P t=some (.struct fs)∧fs[n]? =some f∧yH P f.type=some (sz+1)∧f.offset=off
class SL (P:Program) (t:Nat) (sz:outParam Nat):Prop where
 h: ∃e,yO P t=some (.slice e)∧yH P e=some sz
class AR (P:Program) (t:Nat) (len sz:outParam Nat):Prop where
 h: ∃e,yO P t=some (.array len e)∧yH P e=some sz
class L1 (P:Program) (t:Nat):Prop where
 h:jB P t=some false
class LN (P:Program) (t:Nat) (n:outParam Nat):Prop where
 h:jB P t=some true∧yH P t=some n
class S1 (P:Program) (t:Nat):Prop where
 h:yH P t=some 1
class SN (P:Program) (t:Nat) (n:outParam Nat):Prop where
 h:yH P t=some n∧n≠1
section
variable {P:Program} {F:z9} {hook:yZ} {ops:Array Oper} {o:Oper} {l:List Oper} {T:Tm} {H:Hp} {Q:Tm→Hp→Prop}
theorem Cs {t:TypeId} {x:Operand} {n off i a:Nat} [hf:FA P t n off] (ho:o.op= .fieldAddr t x n) (hx:opnd T x=some (.ptr (some (i,a)))):yJ P F T H o=some (.val (.ptr (some (i,a+off))) H):=by
 obtain⟨fs,f,sz,h1,h2,h3,h4⟩:=hf.h
 rw [←h4]
 exact bN ho h1 h2 h3 hx
theorem sD {t:TypeId} {x:Operand} {i a:Nat} {v:AVal} [hl:L1 P t] (ho:o.op= .load t x) (hx:opnd T x=some (.ptr (some (i,a)))) (hr:H.read1 i a=some v):yJ P F T H o=some (.val v H):=sc ho hl.h hx hr
theorem lV {t:TypeId} {x:Operand} {i a n:Nat} {cs:List AVal} [hl:LN P t n] (ho:o.op= .load t x) (hx:opnd T x=some (.ptr (some (i,a)))) (hr:H.read i a n=some cs):yJ P F T H o=some (.val (.agg cs) H):=ar ho hl.h.1 hl.h.2 hx hr
theorem oa {t:TypeId} {x y:Operand} {i off len n sz es:Nat} {cap:Option Nat} {k:IntKind} {z:Int} [hs:SL P t sz] (ho:o.op= .indexAddr t x y) (hx:opnd T x=some (.slice (some (i,off)) len cap es))
 (hy:opnd T y=some (.int k (.lit z))) (hz:z=(n:Int)) (hl:n<len):yJ P F T H o=some (.val (.ptr (some (i,off+n*sz))) H):=by
 obtain⟨e,h1,h2⟩:=hs.h
 subst hz
 exact rN ho h1 h2 hx hy hl
theorem BN {t:TypeId} {x y:Operand} {i off len n sz:Nat} {k:IntKind} {z:Int} [hs:AR P t len sz] (ho:o.op= .indexAddr t x y) (hx:opnd T x=some (.ptr (some (i,off))))
 (hy:opnd T y=some (.int k (.lit z))) (hz:z=(n:Int)) (hl:n<len):yJ P F T H o=some (.val (.ptr (some (i,off+n*sz))) H):=by
 obtain⟨e,h1,h2⟩:=hs.h
 subst hz
 exact ce ho h1 h2 hx hy hl
theorem s_len {c:Call} {t:TypeId} {ts:List TypeId} {x:Operand} {sz:Nat} {a:Option (Nat×Nat)} {n es:Nat} {cap:Option Nat} [hs:SL P t sz] (ho:o.op= .call c) (hc:c.callee= .builtin .len) (ht:c.argTypes.toList=t::ts) (ha:c.args.toList= [x])
 (hx:opnd T x=some (.slice a n cap es)):yJ P F T H o=some (.val (YM n) H):=by
 obtain⟨e,h1,_⟩:=hs.h
 exact ic ho hc ht ha h1 hx
theorem BQ {t:TypeId} {x y:Operand} {i off:Nat} {v:AVal} {H':Hp} [hs:S1 P t] (ho:o.op= .store t x y) (hx:opnd T x=some (.ptr (some (i,off)))) (hy:opnd T y=some v) (hc:v.cells= [v]) (hw:H.write1 i off v=some H'):yJ P F T H o=some (.val unit H'):=rf ho hs.h hx hy hc hw
theorem wi {z:Int} (h: -9223372036854775808≤z∧z≤9223372036854775807):QN .i64 z=true:=by
 have h1:G2 z (Qs .i64)=false:=(gy _ _).2 h.1
 have h2:G2 (gR .i64) z=false:=(gy _ _).2 h.2
 simp only [QN,h1,h2,cond_false]
theorem yu {z:Int} (h:0≤z∧z≤18446744073709551615):QN .u64 z=true:=by
 have h1:G2 z (Qs .u64)=false:=(gy _ _).2 h.1
 have h2:G2 (gR .u64) z=false:=(gy _ _).2 h.2
 simp only [QN,h1,h2,cond_false]
theorem bK {t:TypeId} {c:Bool} {k j:IntKind} {x y:Int} (hk:vf k j=true):wJ P F H .eql t c (.int k (.lit x)) (.int j (.lit y))=some (.bool (decide (x=y))):=by
 simp [wJ,hk,uZ,zU.eq,wh]
theorem vI {t:TypeId} {c:Bool} {k j:IntKind} {x y:Int} (hk:vf k j=true):wJ P F H .neq t c (.int k (.lit x)) (.int j (.lit y))=some (.bool (decide (x≠y))):=by
 have:(!decide (x=y))=decide (x≠y):=decide_not.symm
 simp only [wJ,hk,cond_true,uZ,zU.eq,wh]
 rw [←this]
 cases decide (x=y)<;>rfl
theorem BM {t:TypeId} {c:Bool} {k j:IntKind} {x y:Int} (hk:vf k j=true):wJ P F H .gtr t c (.int k (.lit x)) (.int j (.lit y))=some (.bool (decide (y<x))):=by
 simp [wJ,hk,uZ,zU.lt,ZQ]
theorem Bt {t:TypeId} {c:Bool} {k j:IntKind} {x y:Int} (hk:vf k j=true):wJ P F H .leq t c (.int k (.lit x)) (.int j (.lit y))=some (.bool (decide (x≤y))):=by
 have:(!decide (y<x))=decide (x≤y):=by rw [←decide_not];congr 1;exact propext Int.not_lt
 simp only [wJ,hk,cond_true,uZ,zU.lt,ZQ]
 rw [←this]
 cases decide (y<x)<;>rfl
theorem b_num {op:BinOp} {t:TypeId} {c:Bool} {k j:IntKind} {x y r:Int} (hop:(op= .add∧r=x+y)∨(op= .sub∧r=x-y)∨(op= .mul∧r=x*y)) (hk:vf k j=true) (hr:QN k r=true):
 wJ P F H op t c (.int k (.lit x)) (.int j (.lit y))=some (.int k (.lit r)):=by
 rcases hop with⟨rfl,rfl⟩|⟨rfl,rfl⟩|⟨rfl,rfl⟩<;>simp [wJ,hk,uZ,zU.add,zU.sub,zU.mul,zU.wrap,hr]
theorem vj {t:TypeId} {c:Bool} {x y:Int} (hr: -9223372036854775808≤x+y∧x+y≤9223372036854775807):wJ P F H .add t c (.int .i64 (.lit x)) (.int .i64 (.lit y))=some (.int .i64 (.lit (x+y))):=
 b_num (.inl ⟨rfl,rfl⟩) rfl (wi hr)
theorem uG {t:TypeId} {c:Bool} {x y:Int} (hr: -9223372036854775808≤x*y∧x*y≤9223372036854775807):wJ P F H .mul t c (.int .i64 (.lit x)) (.int .i64 (.lit y))=some (.int .i64 (.lit (x*y))):=
 b_num (.inr (.inr ⟨rfl,rfl⟩)) rfl (wi hr)
theorem iT {t:TypeId} {c:Bool} {x y:Int} (hx:0≤x∧x≤9223372036854775807) (hy:0<y):wJ P F H .quo t c (.int .i64 (.lit x)) (.int .i64 (.lit y))=some (.int .i64 (.lit (x/y))):=by
 have h0:gD y 0=false:=by rw [wh];exact decide_eq_false (by omega)
 have e:x.tdiv y=x/y:=Int.tdiv_eq_ediv_of_nonneg hx.1
 have h1:0≤x/y:=Int.ediv_nonneg hx.1 (by omega)
 have h2:x/y≤x:=Int.ediv_le_self y hx.1
 simp [wJ,vf,ZD,uZ,h0,e,zU.wrap,wi (z:=x/y) (by omega)]
theorem bF {t:TypeId} {c:Bool} {x y:Int} (hx:0≤x) (hy:0<y):wJ P F H .rem t c (.int .i64 (.lit x)) (.int .i64 (.lit y))=some (.int .i64 (.lit (x%y))):=by
 have h0:gD y 0=false:=by rw [wh];exact decide_eq_false (by omega)
 have e:x.tmod y=x%y:=Int.tmod_eq_emod_of_nonneg hx
 simp [wJ,vf,ZD,uZ,h0,e]
def bn (H:Hp) (i n:Nat) (f:Nat→AVal):Prop:= ∃c,H.t.get i=some (.cells true c n)∧ ∀j,j<n→c.get j=some (f j)
theorem bn.read {i n:Nat} {f:Nat→AVal} (h:bn H i n f) {j:Nat} (hj:j<n):H.read1 i j=some (f j):=by
 obtain⟨c,h1,h2⟩:=h
 simp only [Hp.read1,h1,h2 j hj]
def vK (f:Nat→AVal) (j:Nat) (v:AVal):Nat→AVal:=fun k=>if k=j then v else f k
theorem bn.write {i n:Nat} {f:Nat→AVal} (h:bn H i n f) {j:Nat} {v:AVal} (hj:j<n) (hv:v.isCell=true): ∃H',H.write1 i j v=some H'∧bn H' i n (vK f j v)∧H'.next=H.next∧(∀k,k≠i→H'.t.get k=H.t.get k)∧(k7 H→k7 H'):=by
 obtain⟨c,h1,h2⟩:=h
 have hb:(Nat.blt j n && v.isCell)=true:=by rw [hv,Bool.and_true];simpa [Nat.blt_eq] using hj
 refine⟨H.put i (.cells true (c.set j v) n),by simp only [Hp.write1,h1,hb,cond_true],⟨c.set j v,by simp only [Hp.put,Tr.get_set,if_pos],fun k hk=> ?_⟩,rfl,fun k hk=>by simp only [Hp.put,Tr.get_set,if_neg hk],fun h=>h.put h1 _⟩
 rw [Tr.get_set]
 unfold vK
 split
 ·rfl
 exact h2 k hk
theorem bn.keep {H':Hp} {i n:Nat} {f:Nat→AVal} (h:bn H i n f) (e:H'.t.get i=H.t.get i):bn H' i n f:=by
 obtain⟨c,h1,h2⟩:=h
 exact⟨c,by rw [e];exact h1,h2⟩
structure jy (S:Nat→Prop) (H H':Hp):Prop where
 next:H.next≤H'.next
 same: ∀k x,¬S k→H.t.get k=some x→H'.t.get k=some x
 ok:k7 H→k7 H'
theorem jy.refl (S:Nat→Prop) (H:Hp):jy S H H:=⟨Nat.le_refl _,fun _ _ _ h=>h,id⟩
theorem jy.trans {S:Nat→Prop} {H H' H'':Hp} (h:jy S H H') (k:jy S H' H''):jy S H H'':=⟨Nat.le_trans h.next k.next,fun i x hi hx=>k.same i x hi (h.same i x hi hx),fun e=>k.ok (h.ok e)⟩
theorem jy.mono {S S':Nat→Prop} {H H':Hp} (h:jy S H H') (hs: ∀k,S k→S' k):jy S' H H':=⟨h.next,fun i x hi hx=>h.same i x (fun e=>hi (hs i e)) hx,h.ok⟩
theorem bn.only {S:Nat→Prop} {H H':Hp} {i n:Nat} {f:Nat→AVal} (h:bn H i n f) (o:jy S H H') (hi: ¬S i):bn H' i n f:=by
 obtain⟨c,h1,h2⟩:=h
 exact⟨c,o.same i _ hi h1,h2⟩
theorem bn.ext {H:Hp} {i n:Nat} {f g:Nat→AVal} (h:bn H i n f) (e: ∀j,j<n→f j=g j):bn H i n g:=by
 obtain⟨c,h1,h2⟩:=h
 exact⟨c,h1,fun j hj=>by rw [h2 j hj,e j hj]⟩
theorem bn.store {H:Hp} {i n:Nat} {f:Nat→AVal} (h:bn H i n f) {j:Nat} {v:AVal} (hj:j<n) (hv:v.isCell=true): ∃H',H.write1 i j v=some H'∧bn H' i n (vK f j v)∧jy (· =i) H H'∧H'.next=H.next:=by
 obtain⟨H',h1,h2,h3,h4,h5⟩:=h.write hj hv
 exact⟨H',h1,h2,⟨by omega,fun k x hk hx=>by rw [h4 k hk];exact hx,h5⟩,h3⟩
end
section
variable (P:Program) (F:z9) (hook:yZ)
def vC (ops:Array Oper):List It→Tm→Hp→(Tm→Hp→Prop)→Prop
 | [],T,H,Q=>Q T H
 |x::l,T,H,Q=>match jO P F ops T H x.o with
  |some (T,H)=>vC ops l T H Q
  |none=>False
def ux (ops:Array Oper) (T:Tm) (H:Hp):List It→Prop
 | []=>True
 |x::l=>wo P F ops T H x.o=true∧ux ops T H l
def gI (ops:Array Oper):List wZ→Tm→Hp→(Tm→Hp→Prop)→Prop
 | [],_,_,_=>False
 |s::ss,T,H,Q=>vC P F ops s.work T H fun T H=>ux P F ops T H s.again∧match s.chain with
  |none=>Q T H
  |some c=>vH P F hook ops [c.o] T H fun T H=>gI ops ss T H Q
end
section
variable {P:Program} {F:z9} {hook:yZ} {ops:Array Oper}
theorem tV: ∀ {l:List It} {T:Tm} {H:Hp} {Q:Tm→Hp→Prop},vC P F ops l T H Q→ ∃T' H',jd P F ops l T H=some (T',H')∧Q T' H':=by
 intro l
 induction l with
 |nil=>intro T H Q h;exact⟨T,H,rfl,h⟩
 |cons x l ih=>
  intro T H Q h
  simp only [vC]at h
  split at h
  ·rename_i T1 H1 hw
   obtain⟨T2,H2,h1,h2⟩:=ih h
   exact⟨T2,H2,by simp only [jd,hw];exact h1,h2⟩
  exact h.elim
theorem pG {T:Tm} {H:Hp} : ∀ {l:List It},ux P F ops T H l→l.all (fun x=>wo P F ops T H x.o)=true:=by
 intro l
 induction l with
 |nil=>intro _;rfl
 |cons x l ih=>intro h;rw [List.all_cons,h.1,ih h.2];rfl
theorem xk: ∀ {ss:List wZ} {T:Tm} {H:Hp} {Q:Tm→Hp→Prop},gI P F hook ops ss T H Q→ ∃T' H',(∃n,∀m,n≤m→wY P F (ZH P F hook m) ops ss T H=some (T',H'))∧Q T' H':=by
 intro ss
 induction ss with
 |nil=>intro T H Q h;exact h.elim
 |cons s ss ih=>
  intro T H Q h
  simp only [gI]at h
  obtain⟨T1,H1,h1,h2,h3⟩:=tV h
  have h2:=pG h2
  cases hc:s.chain with
  |none=>
   rw [hc]at h3
   exact⟨T1,H1,⟨0,fun m _=>by simp only [wY,h1,h2,hc,cond_true]⟩,h3⟩
  |some c=>
   rw [hc]at h3
   obtain⟨T2,H2,⟨n1,g1⟩,g2⟩:=bU h3
   obtain⟨T3,H3,⟨n2,k1⟩,k2⟩:=ih g2
   refine⟨T3,H3,⟨max n1 n2,fun m hm=> ?_⟩,k2⟩
   have g:=g1 m (by omega)
   have hst:gS P F (ZH P F hook m) ops T1 H1 c.o=some (T2,H2):=by
    simp only [ZE]at g
    split at g
    ·rename_i T4 H4 hs;cases g;exact hs
    cases g
   simp only [wY,h1,h2,hc,hst,cond_true]
   exact k1 m (by omega)
theorem eY {id:Nat} {T:Tm} {H:Hp} {Q:AExit→Tm→Hp→Prop} {ss:List wZ} (hp:QG ops=some ss) (h:gI P F hook ops ss T H fun T H=>Q .normal T H):qg P F hook (.region id ops true) T H Q:=by
 obtain⟨T1,H1,⟨n,h1⟩,h2⟩:=xk h
 refine⟨_,T1,H1,?_,h2⟩
 refine vq n fun m hm=> ?_
 simp only [vc,cond_true,YY,hp,h1 m hm]
def CS (ops:Array Oper) (i m:Nat):It:=⟨i,ops.getD i ⟨none,.move (.tmp 0),0, "",#[],none⟩,m⟩
def ou (ops:Array Oper) (ms:List Nat) (l:List Nat):List It:=l.map fun i=>CS ops i (ms.getD i 0)
def JW (ops:Array Oper) (ms:List Nat) (l:List (List Nat×List Nat×Option Nat)):List wZ:=l.map fun s=>⟨ou ops ms s.1,ou ops ms s.2.1,s.2.2.map fun i=>CS ops i (ms.getD i 0)⟩
theorem c6 (ms:List Nat) (pl:List (List Nat×List Nat×Option Nat)) {id:Nat} {T:Tm} {H:Hp} {Q:AExit→Tm→Hp→Prop} (hp:QG ops=some (JW ops ms pl)) (h:gI P F hook ops (JW ops ms pl) T H fun T H=>Q .normal T H):qg P F hook (.region id ops true) T H Q:=eY hp h
variable {x:It} {l:List It} {T:Tm} {H:Hp} {Q:Tm→Hp→Prop}
theorem rB {v:AVal} (hw:zJ ops T x.o=some true) (ha:yJ P F T H x.o=some (.val v H)) (h:vC P F ops l (ze T x.o.dst v) H Q):vC P F ops (x::l) T H Q:=by
 have:jO P F ops T H x.o=some (ze T x.o.dst v,H):=by
  simp only [jO,hw,jf,ha]
  cases qU x.o.op<;>rfl
 simp only [vC,this]
 exact h
theorem kL {v:AVal} {H':Hp} (hq:qU x.o.op=true) (hw:zJ ops T x.o=some true) (ha:yJ P F T H x.o=some (.val v H')) (h:vC P F ops l (ze T x.o.dst v) H' Q):vC P F ops (x::l) T H Q:=by
 have:jO P F ops T H x.o=some (ze T x.o.dst v,H'):=by
  simp only [jO,hw,jf,ha,hq,cond_true]
 simp only [vC,this]
 exact h
theorem B9 (hw:zJ ops T x.o=some false) (h:vC P F ops l (ze T x.o.dst unit) H Q):vC P F ops (x::l) T H Q:=by
 have:jO P F ops T H x.o=some (ze T x.o.dst unit,H):=by
  simp only [jO,hw]
 simp only [vC,this]
 exact h
theorem lU {v u:AVal} {H':Hp} {d:Tmp} (hw:zJ ops T x.o=some true) (ha:yJ P F T H x.o=some (.val v H')) (hd:x.o.dst=some d) (hu:Tm.get d T=some u) (he:Yw u v=true) (h:ux P F ops T H l):ux P F ops T H (x::l):=by
 refine⟨?_,h⟩
 simp only [wo,hw,jf,ha,hd,hu,he]
theorem AT (hw:zJ ops T x.o=some false) (h:ux P F ops T H l):ux P F ops T H (x::l):=by
 refine⟨?_,h⟩
 simp only [wo,hw]
theorem Am:ux P F ops T H []:=trivial
theorem fB (b:Bool):Yw (.bool b) (.bool b)=true:=by cases b<;>rfl
theorem GL {s:wZ} {ss:List wZ} (h:vC P F ops s.work T H fun T H=>ux P F ops T H s.again∧match s.chain with
 |none=>Q T H
 |some c=>vH P F hook ops [c.o] T H fun T H=>gI P F hook ops ss T H Q):gI P F hook ops (s::ss) T H Q:=h
end
def zY (f:Nat→AVal):Nat→Nat→List AVal
 |_,0=> []
 |o,n+1=>f o::zY f (o+1) n
theorem zo (f:Nat→AVal): ∀n o,(zY f o n).length=n:=by
 intro n
 induction n with
 |zero=>intro o;rfl
 |succ n ih=>intro o;simp [zY,ih]
theorem zq (f:Nat→AVal): ∀n o i,i<n→(zY f o n)[i]? =some (f (o+i)):=by
 intro n
 induction n with
 |zero=>intro o i h;omega
 |succ n ih=>
  intro o i h
  cases i with
  |zero=>simp [zY]
  |succ i=>simp only [zY,List.getElem?_cons_succ];rw [ih _ _ (by omega)];congr 2;omega
theorem vV {c:Tr AVal} {f:Nat→AVal} {m:Nat} (h: ∀j,j<m→c.get j=some (f j)): ∀n o,o+n≤m→gN c o n=some (zY f o n):=by
 intro n
 induction n with
 |zero=>intro o _;rfl
 |succ n ih=>
  intro o ho
  rw [Q5,h o (by omega)]
  simp only
  rw [ih (o+1) (by omega)]
  rfl
def vL (f:Nat→AVal) (o:Nat) (vs:List AVal):Nat→AVal:=fun k=>if o≤k then(vs[k-o]?).getD (f k)else f k
section
variable {P:Program} {F:z9} {hook:yZ} {ops:Array Oper} {o:Oper} {T:Tm} {H:Hp}
theorem od {t:TypeId} {x y:Operand} {i off n:Nat} {v:AVal} {H':Hp} [hs:SN P t n] (ho:o.op= .store t x y) (hx:opnd T x=some (.ptr (some (i,off)))) (hy:opnd T y=some v) (hc:v.cells.length=n) (hw:H.write i off v.cells=some H'):yJ P F T H o=some (.val unit H'):=by
 have hb:Nat.beq v.cells.length n=true:=by rw [hc];exact Nat.beq_refl n
 simp only [yJ,ho,YP,hx,hy,Ub]
 rw [hs.h.1]
 have hne:=hs.h.2
 match n,hne,hb with
 |0,_,hb=>simp only [hb,cond_true,hw]
 |1,hne,_=>exact absurd rfl hne
 |n+2,_,hb=>simp only [hb,cond_true,hw]
end
class MI (P:Program) (t:Nat) (zv:outParam AVal):Prop where
 h: ∃kt et,yO P t=some (.map kt et)∧yO P kt=some (.int .i64)∧qk P et=some zv
def fT (l:List (Int×AVal)) (z:Int):Option AVal:=match l with
 | []=>none
 |p::l=>if p.1=z then some p.2 else fT l z
def ins (l:List (Int×AVal)) (z:Int) (v:AVal):List (Int×AVal):=match l with
 | []=> [(z,v)]
 |p::l=>if p.1=z then(z,v)::l else p::ins l z v
def del (l:List (Int×AVal)) (z:Int):List (Int×AVal):=match l with
 | []=> []
 |p::l=>if p.1=z then l else p::del l z
inductive re:List vD→List (Int×AVal)→Prop
 |nil:re [] []
 |cons (e:vD) (z:Int) (v:AVal) (es l) (hk:e.key= .int .i64 (.lit z)) (hv:e.val=v) (h:re es l):re (e::es) ((z,v)::l)
def Up (H:Hp) (id:Nat) (l:List (Int×AVal)):Prop:= ∃es clock,H.t.get id=some (.map es clock)∧re es l
section
variable {P:Program} {F:z9} {hook:yZ} {ops:Array Oper} {o:Oper} {T:Tm} {H:Hp}
theorem ed {kt:TypeId} (hk:yO P kt=some (.int .i64)) (a b:Int):Yb P F H 3 kt (.int .i64 (.lit a)) (.int .i64 (.lit b))=some (decide (a=b)):=by
 simp [Yb,hk,vf,ZD,zU.eq,wh]
theorem Wf {kt:TypeId} (hk:yO P kt=some (.int .i64)) (z:Int): ∀ {es:List vD} {l:List (Int×AVal)},re es l→ ∀i,(∃j e v,uO (Yb P F H 3 kt) (.int .i64 (.lit z)) es i=some (some (i+j,e))∧e.key= .int .i64 (.lit z)∧e.val=v∧fT l z=some v∧es[j]? =some e∧(∀w b,re (es.set j ⟨.int .i64 (.lit z),w,b⟩) (ins l z w))∧re (es.eraseIdx j) (del l z))∨
 (uO (Yb P F H 3 kt) (.int .i64 (.lit z)) es i=some none∧fT l z=none∧(∀w b,re (es++ [⟨.int .i64 (.lit z),w,b⟩]) (ins l z w))∧del l z=l):=by
 intro es l h
 induction h with
 |nil=>intro i;exact .inr ⟨rfl,rfl,fun w b=> .cons _ z w [] [] rfl rfl .nil,rfl⟩
 |cons e y v es l hkey hval h ih=>
  intro i
  have hf:uO (Yb P F H 3 kt) (.int .i64 (.lit z)) (e::es) i=(match Yb P F H 3 kt (.int .i64 (.lit z)) e.key with
   |some true=>some (some (i,e))
   |some false=>uO (Yb P F H 3 kt) (.int .i64 (.lit z)) es (i+1)
   |none=>none):=rfl
  rw [hkey,ed hk]at hf
  by_cases hz:z=y
  ·subst hz
   rw [decide_eq_true rfl]at hf
   refine .inl ⟨0,e,v,hf,hkey,hval,by simp [fT],rfl,fun w b=> ?_,?_⟩
   ·have:ins ((z,v)::l) z w=(z,w)::l:=by simp [ins]
    rw [this]
    exact .cons _ z w es l rfl rfl h
   have:del ((z,v)::l) z=l:=by simp [del]
   rw [this];exact h
  have hz': ¬y=z:=fun e=>hz e.symm
  rw [decide_eq_false hz]at hf
  rcases ih (i+1)with⟨j,e2,v2,h1,h2,h3,h4,h5,h6,h7⟩|⟨h1,h2,h3,h4⟩
  ·refine .inl ⟨j+1,e2,v2,by rw [hf];show uO _ _ es (i+1)=_;rw [h1];congr 3;omega,h2,h3,by simp only [fT,if_neg hz'];exact h4,by simpa using h5,fun w b=> ?_,?_⟩
   ·have:ins ((y,v)::l) z w=(y,v)::ins l z w:=by simp [ins,hz']
    rw [this]
    exact .cons e y v _ _ hkey hval (h6 w b)
   have:del ((y,v)::l) z=(y,v)::del l z:=by simp [del,hz']
   rw [this]
   exact .cons e y v _ _ hkey hval h7
  refine .inr ⟨by rw [hf];exact h1,by simp only [fT,if_neg hz'];exact h2,fun w b=> ?_,by simp only [del,if_neg hz',h4]⟩
  have:ins ((y,v)::l) z w=(y,v)::ins l z w:=by simp [ins,hz']
  rw [this]
  exact .cons e y v _ _ hkey hval (h3 w b)
theorem gK {kt:TypeId} (hk:yO P kt=some (.int .i64)) (z:Int):wM P kt (.int .i64 (.lit z))=true:=by simp [wM,hk]
theorem GC {t:TypeId} {x k:Operand} {ok:Bool} {id:Nat} {z:Int} {l:List (Int×AVal)} {zv:AVal} [hM:MI P t zv] (ho:o.op= .lookup t x k ok) (hx:opnd T x=some (.map (some id))) (hk:opnd T k=some (.int .i64 (.lit z))) (hm:Up H id l):
 yJ P F T H o=some (.val (bif ok then(match fT l z with
  |some v=> .tuple [v,.bool true]
  |none=> .tuple [zv,.bool false])else(fT l z).getD zv) H):=by
 obtain⟨kt,et,h1,h2,h3⟩:=hM.h
 obtain⟨es,clock,h4,h5⟩:=hm
 have h6:H.mapAt id=some (es,clock):=by simp only [Hp.mapAt,h4]
 simp only [yJ,ho,Zt,hx,hk,kR,h1,gK h2,cond_true,h3,h6]
 rcases Wf (P:=P) (F:=F) (H:=H) h2 z h5 0 with⟨j,e,v,g1,g2,g3,g4,_⟩|⟨g1,g2,_⟩
 ·rw [g1,g4]
  simp only [g3]
  cases ok<;>rfl
 rw [g1,g2]
 cases ok<;>rfl
theorem bl {t:TypeId} {m k x:Operand} {id:Nat} {z:Int} {v:AVal} {l:List (Int×AVal)} {zv:AVal} [hM:MI P t zv] (hm:Up H id l): ∃H',(∀ {o:Oper} {T:Tm},o.op= .mapUpdate t m k x→opnd T m=some (.map (some id))→opnd T k=some (.int .i64 (.lit z))→opnd T x=some v→yJ P F T H o=some (.val unit H'))∧
 Up H' id (ins l z v)∧jy (· =id) H H'∧H'.next=H.next:=by
 obtain⟨kt,et,h1,h2,h3⟩:=hM.h
 obtain⟨es,clock,h4,h5⟩:=hm
 have h6:H.mapAt id=some (es,clock):=by simp only [Hp.mapAt,h4]
 have fin: ∀q,jy (· =id) H (H.put id q):=fun q=>⟨Nat.le_refl _,fun k x hk hx=>by simp only [Hp.put,Tr.get_set,if_neg hk];exact hx,fun h=>h.put h4 _⟩
 rcases Wf (P:=P) (F:=F) (H:=H) h2 z h5 0 with⟨j,e,w,g1,g2,g3,g4,g5,g6,g7⟩|⟨g1,g2,g3,g4⟩
 ·refine⟨H.put id (.map (es.set j ⟨.int .i64 (.lit z),v,e.born⟩) clock),fun {o T} ho hm hk hx=> ?_,⟨_,clock,by show(Tr.set _ _ _).get _=_;rw [Tr.get_set,if_pos rfl],g6 v e.born⟩,fin _,rfl⟩
  have hb:j9 (.int .i64 (.lit z)) e.key=true:=by rw [g2];simp [j9,vf,ZD,wh]
  rw [Nat.zero_add]at g1
  simp only [yJ,ho,vg,hm,hk,hx,Ys,h1,gK h2,cond_true,h6,g1,hb]
 refine⟨H.put id (.map (es++ [⟨.int .i64 (.lit z),v,clock⟩]) (clock+1)),fun {o T} ho hm hk hx=> ?_,⟨_,clock+1,by show(Tr.set _ _ _).get _=_;rw [Tr.get_set,if_pos rfl],g3 v clock⟩,fin _,rfl⟩
 simp only [yJ,ho,vg,hm,hk,hx,Ys,h1,gK h2,cond_true,h6,g1]
theorem xC {t:TypeId} {m k:Operand} {id:Nat} {z:Int} {l:List (Int×AVal)} {zv:AVal} [hM:MI P t zv] (hm:Up H id l): ∃H',(∀ {o:Oper} {T:Tm} {c:Call} {ts:List TypeId},o.op= .call c→c.callee= .builtin .delete→c.argTypes.toList=t::ts→c.args.toList= [m,k]→opnd T m=some (.map (some id))→opnd T k=some (.int .i64 (.lit z))→yJ P F T H o=some (.val unit H'))∧
 Up H' id (del l z)∧jy (· =id) H H'∧H'.next=H.next:=by
 obtain⟨kt,et,h1,h2,h3⟩:=hM.h
 obtain⟨es,clock,h4,h5⟩:=hm
 have h6:H.mapAt id=some (es,clock):=by simp only [Hp.mapAt,h4]
 have fin: ∀q,jy (· =id) H (H.put id q):=fun q=>⟨Nat.le_refl _,fun k x hk hx=>by simp only [Hp.put,Tr.get_set,if_neg hk];exact hx,fun h=>h.put h4 _⟩
 rcases Wf (P:=P) (F:=F) (H:=H) h2 z h5 0 with⟨j,e,w,g1,g2,g3,g4,g5,g6,g7⟩|⟨g1,g2,g3,g4⟩
 ·refine⟨H.put id (.map (es.eraseIdx j) clock),fun {o T c ts} ho hc ht ha hm hk=> ?_,⟨_,clock,by show(Tr.set _ _ _).get _=_;rw [Tr.get_set,if_pos rfl],g7⟩,fin _,rfl⟩
  rw [Nat.zero_add]at g1
  simp only [yJ,ho,hc,ht,ha,qf,hm,hk,yU,yI,QW,h1,gK h2,cond_true,h6,g1]
 refine⟨H.put id (.map es clock),fun {o T c ts} ho hc ht ha hm hk=> ?_,⟨_,clock,by show(Tr.set _ _ _).get _=_;rw [Tr.get_set,if_pos rfl],by rw [g4];exact h5⟩,fin _,rfl⟩
 simp only [yJ,ho,hc,ht,ha,qf,hm,hk,yU,yI,QW,h1,gK h2,cond_true,h6,g1]
theorem re.len {es:List vD} {l:List (Int×AVal)} (h:re es l):es.length=l.length:=by
 induction h with
 |nil=>rfl
 |cons _ _ _ _ _ _ _ _ ih=>simp [ih]
theorem Aa {c:Call} {t:TypeId} {ts:List TypeId} {x:Operand} {id:Nat} {l:List (Int×AVal)} {zv:AVal} [hM:MI P t zv] (ho:o.op= .call c) (hc:c.callee= .builtin .len) (ht:c.argTypes.toList=t::ts) (ha:c.args.toList= [x]) (hx:opnd T x=some (.map (some id))) (hm:Up H id l):
 yJ P F T H o=some (.val (YM l.length) H):=by
 obtain⟨kt,et,h1,h2,h3⟩:=hM.h
 obtain⟨es,clock,h4,h5⟩:=hm
 have h6:H.mapAt id=some (es,clock):=by simp only [Hp.mapAt,h4]
 simp only [yJ,ho,hc,ht,ha,qf,hx,yU,yI,tO,h1,h6,zH.ofVal,h5.len]
theorem Up.only {S:Nat→Prop} {H H':Hp} {id:Nat} {l:List (Int×AVal)} (h:Up H id l) (o:jy S H H') (hi: ¬S id):Up H' id l:=by
 obtain⟨es,c,h1,h2⟩:=h
 exact⟨es,c,o.same id _ hi h1,h2⟩
end
theorem Tm.opened {T:Tm} {k:Nat} (h:T.len=k+1): ∃a0 a1 a2 a3 a4 a5 a6 a7 a8 a9 a10 a11 a12 a13 a14 a15 nx,T= .node a0 a1 a2 a3 a4 a5 a6 a7 a8 a9 a10 a11 a12 a13 a14 a15 nx∧nx.len=k:=by
 cases T with
 |nil=>cases h
 |node a0 a1 a2 a3 a4 a5 a6 a7 a8 a9 a10 a11 a12 a13 a14 a15 nx=>exact⟨a0,a1,a2,a3,a4,a5,a6,a7,a8,a9,a10,a11,a12,a13,a14,a15,nx,rfl,by simpa [Tm.len] using h⟩
theorem Tm.len0 {T:Tm} (h:T.len=0):T= .nil:=by
 cases T with
 |nil=>rfl
 |node=>simp [Tm.len]at h
class ZV (P:Program) (t:Nat) (v:outParam AVal):Prop where
 h:qk P t=some v
class SB (P:Program) (t:Nat) (pl:outParam (List (Nat×Nat))):Prop where
 h: ∃fs,yO P t=some (.struct fs)∧YB P fs.toList=some pl
section
variable {P:Program} {F:z9} {ops:Array Oper} {o:Oper} {T:Tm} {H:Hp}
theorem UT {t:TypeId} {parts:Array (Nat×Operand)} {pl:List (Nat×Nat)} {zc cs:List AVal} {l:List (Nat×AVal)} [hs:SB P t pl] [hz:ZV P t (.agg zc)] (ho:o.op= .build t parts) (hp:wT T parts.toList=some l) (hf:ZB (fun i=>pl[i]?) zc l=some cs):
 yJ P F T H o=some (.val (.agg cs) H):=by
 obtain⟨fs,h1,h2⟩:=hs.h
 have hz':=hz.h
 simp only [yJ,ho,Zb,hz',hp,h1,AVal.isTuple,cond_false,h2,AVal.cells,hf]
theorem GB {t:TypeId} {parts:Array (Nat×Operand)} {len sz:Nat} {zc cs:List AVal} {l:List (Nat×AVal)} [hs:AR P t len sz] [hz:ZV P t (.agg zc)] (ho:o.op= .build t parts) (hp:wT T parts.toList=some l) (hf:ZB (fun i=>some (i*sz,sz)) zc l=some cs):
 yJ P F T H o=some (.val (.agg cs) H):=by
 obtain⟨e,h1,h2⟩:=hs.h
 have hz':=hz.h
 simp only [yJ,ho,Zb,hz',hp,h1,AVal.isTuple,cond_false,h2,AVal.cells,hf]
theorem mv {t:TypeId} {v:AVal} [hz:ZV P t v] (ho:o.op= .alloc t) (ht:v.isTuple=false):yJ P F T H o=some (.val (.ptr (some (H.next,0))) (wC H v.cells)):=by
 simp only [yJ,ho,vt,hz.h,ht,cond_false]
theorem ow {t:TypeId} {x:Operand} {v:AVal} (ho:o.op= .box t x) (hx:opnd T x=some v) (ht:v.isTuple=false):yJ P F T H o=some (.val (.ptr (some (H.next,0))) (wC H v.cells)):=by
 simp only [yJ,ho,vt,hx,ht,cond_false]
end
class IC (P:Program) (s d:Nat) (k:outParam IntKind):Prop where
 h: ∃j,yO P s=some (.int j)∧yO P d=some (.int k)
section
variable {P:Program} {F:z9} {ops:Array Oper} {o:Oper} {T:Tm} {H:Hp}
theorem qT {s d:TypeId} {x:Operand} {j k:IntKind} {z:Int} [hc:IC P s d k] (ho:o.op= .convert s d x) (hx:opnd T x=some (.int j (.lit z))) (hz:QN k z=true):yJ P F T H o=some (.val (.int k (.lit z)) H):=by
 obtain⟨i,h1,h2⟩:=hc.h
 simp only [yJ,ho,G6,hx,c5,h1,h2,zU.wrap,hz,cond_true,zH.ofVal]
theorem vb {op:BinOp} {t:TypeId} {c:Bool} {a b r:Nat} (hop:YU op a b=some r) (ha:a≤18446744073709551615) (hb:b≤18446744073709551615):
 wJ P F H op t c (.int .u64 (.lit (a:Int))) (.int .u64 (.lit (b:Int)))=some (.int .u64 (.lit (r:Int))):=by
 have h1:QN .u64 (Int.ofNat a)=true:=yu ⟨by simp,by show(a:Int)≤_;omega⟩
 have h2:QN .u64 (Int.ofNat b)=true:=yu ⟨by simp,by show(b:Int)≤_;omega⟩
 have h3:QN .u64 (a:Int)=true:=h1
 have h4:QN .u64 (b:Int)=true:=h2
 show wJ P F H op t c (.int .u64 (.lit (Int.ofNat a))) (.int .u64 (.lit (Int.ofNat b)))=_
 cases op<;>simp only [YU]at hop<;>(first|(cases hop;done)|(cases hop;simp [wJ,vf,ZD,uZ,h3,h4,YU]))
theorem JJ {t:TypeId} {c:Bool} {j:IntKind} {a b:Nat} (hb:b≤64) (hr:a*2^b≤18446744073709551615):
 wJ P F H .shl t c (.int .u64 (.lit (a:Int))) (.int j (.lit (b:Int)))=some (.int .u64 (.lit ((a*2^b:Nat):Int))):=by
 have h1:Nat.ble b 64=true:=Nat.ble_eq_true_of_le hb
 have h2:Nat.min b (IntKind.u64).bits=b:=Nat.min_eq_left hb
 have h3:QN .u64 (Int.ofNat (a*2^b))=true:=yu ⟨Int.natCast_nonneg _,by show((a*2^b:Nat):Int)≤_;omega⟩
 show jc F .shl .u64 (.lit (Int.ofNat a)) (.lit (Int.ofNat b))=_
 simp only [jc,h1,cond_true,h2,zU.wrap,h3]
 rfl
theorem b9 {t:TypeId} {c:Bool} {k j:IntKind} {a b:Nat} (hb:b≤64) (hk:b≤k.bits):
 wJ P F H .shr t c (.int k (.lit (a:Int))) (.int j (.lit (b:Int)))=some (.int k (.lit ((a/2^b:Nat):Int))):=by
 have h1:Nat.ble b 64=true:=Nat.ble_eq_true_of_le hb
 have h2:Nat.min b k.bits=b:=Nat.min_eq_left hk
 show jc F .shr k (.lit (Int.ofNat a)) (.lit (Int.ofNat b))=_
 simp only [jc,h1,cond_true,h2]
 rfl
end
section
variable {P:Program} {F:z9} {hook:yZ} {T:Tm} {H:Hp}
theorem jZ.introR {f:FuncId} {fn:Func} {b:Code} {args:List AVal} {Q:AVal→Hp→Prop} (hk:hook f=none) (hf:P.funcs[f]? =some fn) (hb:fn.body=some b)
 (h:qg P F hook b (YE args 0 (Tm.mk (fn.ntmps/16+1))) H fun e T' H'=>(e= .normal∨e= .ret)∧ ∃vs,ql P T' H' fn.results.toList=some vs∧Q (match vs with
  | [v]=>v
  |vs=> .tuple vs) H'):jZ P F hook f args H Q:=by
 refine jZ.intro hk hf hb (wqCode_mono h fun e T' H' h=> ?_)
 obtain⟨h1,vs,h2,h3⟩:=h
 refine⟨h1,?_⟩
 rw [h2]
 match vs,h3 with
 | [],h3=>exact h3
 | [_],h3=>exact h3
 |_::_::_,h3=>exact h3
theorem za {t:Tmp} {v:AVal} (h:Tm.get t T=some v):ZL P T H (.tmp t)=some v:=h
theorem y8 {a:Tmp} {t:TypeId} {i off n:Nat} {cs:List AVal} [hl:LN P t n] (h:Tm.get a T=some (.ptr (some (i,off)))) (hr:H.read i off n=some cs):ZL P T H (.cell a t)=some (.agg cs):=by
 simp only [ZL,h,Ux,hl.h.1,hl.h.2,hr]
end
class AP (P:Program) (t:Nat) (sz:outParam Nat):Prop where
 h: ∃e by' z,yO P t=some (.slice e)∧yH P e=some sz∧qC P e=some by'∧by'≤yN∧qk P e=some z∧z.cells.length=sz
class BS (P:Program) (t:Nat) (sz:outParam Nat) (z:outParam AVal):Prop where
 h: ∃e,yO P t=some (.slice e)∧yH P e=some sz∧qk P e=some z∧z.cells.length=sz∧z.isTuple=false
section
variable {P:Program} {F:z9} {ops:Array Oper} {o:Oper} {T:Tm} {H:Hp}
theorem JD {t:TypeId} {len sz:Nat} {z:AVal} {parts:Array (Nat×Operand)} {cs:List AVal} {l:List (Nat×AVal)} [hs:BS P t sz z] (ho:o.op= .buildSlice t len parts) (hp:wT T parts.toList=some l) (hl:len*sz≤65536)
 (hf:ZB (fun i=>some (i*sz,sz)) (yA z.cells len) l=some cs):yJ P F T H o=some (.val (.slice (some (H.next,0)) len (some len) sz) (wC H cs)):=by
 obtain⟨e,h1,h2,h3,h4,h5⟩:=hs.h
 have b1:Nat.beq z.cells.length sz=true:=by rw [h4];exact Nat.beq_refl sz
 have b2:Nat.ble (len*sz) 65536=true:=Nat.ble_eq_true_of_le hl
 simp only [yJ,ho,wg,h1,hp,h2,h3,b1,b2,h5,Bool.not_false,Bool.and_true,cond_true,hf]
end
section
variable {P:Program} {F:z9} {hook:yZ} {ops:Array Oper} {o:Oper} {l:List Oper} {T:Tm} {H:Hp} {Q:Tm→Hp→Prop}
theorem ug {t:TypeId} {x y:Operand} {i off len es:Nat} {cap:Option Nat} {k:IntKind} {z:Int} [hs:SL P t 1] (ho:o.op= .indexAddr t x y) (hx:opnd T x=some (.slice (some (i,off)) len cap es))
 (hy:opnd T y=some (.int k (.lit z))) (hz:0≤z) (hl:z<(len:Nat)):yJ P F T H o=some (.val (.ptr (some (i,z.toNat+off))) H):=by
 have:=oa (P:=P) (F:=F) (H:=H) (n:=z.toNat) ho hx hy (by omega) (by omega)
 rw [this,Nat.mul_one,Nat.add_comm]
theorem vQ {t:TypeId} {x y:Operand} {i off len es sz:Nat} {cap:Option Nat} {k:IntKind} {z:Int} [hs:SL P t sz] (ho:o.op= .indexAddr t x y) (hx:opnd T x=some (.slice (some (i,off)) len cap es))
 (hy:opnd T y=some (.int k (.lit z))) (hz:0≤z) (hl:z<(len:Nat)):yJ P F T H o=some (.val (.ptr (some (i,z.toNat*sz+off))) H):=by
 have:=oa (P:=P) (F:=F) (H:=H) (n:=z.toNat) ho hx hy (by omega) (by omega)
 rw [this,Nat.add_comm]
theorem zh {t:TypeId} {x y:Operand} {i off len:Nat} {k:IntKind} {z:Int} [hs:AR P t len 1] (ho:o.op= .indexAddr t x y) (hx:opnd T x=some (.ptr (some (i,off))))
 (hy:opnd T y=some (.int k (.lit z))) (hz:0≤z) (hl:z<(len:Nat)):yJ P F T H o=some (.val (.ptr (some (i,z.toNat+off))) H):=by
 have:=BN (P:=P) (F:=F) (H:=H) (n:=z.toNat) ho hx hy (by omega) (by omega)
 rw [this,Nat.mul_one,Nat.add_comm]
theorem mn {t:TypeId} {c:Bool} {x y:Int} (hr: -9223372036854775808≤x-y∧x-y≤9223372036854775807):wJ P F H .sub t c (.int .i64 (.lit x)) (.int .i64 (.lit y))=some (.int .i64 (.lit (x-y))):=
 b_num (.inr (.inl ⟨rfl,rfl⟩)) rfl (wi hr)
end
section
variable {P:Program} {T:Tm} {H:Hp}
theorem q7:ql P T H []=some []:=rfl
theorem zi {r:ResultVar} {rs:List ResultVar} {v:AVal} {vs:List AVal} (h:ZL P T H r=some v) (k:ql P T H rs=some vs):ql P T H (r::rs)=some (v::vs):=by simp only [ql,h,k]
end
section
variable {P:Program} {F:z9} {hook:yZ} {ops:Array Oper} {x:It} {l:List It} {T:Tm} {H:Hp} {Q:Tm→Hp→Prop}
end
section
variable {P:Program} {F:z9} {hook:yZ} {ops:Array Oper} {o:Oper} {l:List Oper} {T:Tm} {H:Hp} {Q:Tm→Hp→Prop}
variable {ops:Array Oper} {x:It} {l:List It}
end
class AE (P:Program) (t:Nat) (len:outParam Nat):Prop where
 h: ∃e,yO P t=some (.array len e)∧jB P e=some false∧yH P e=some 1
theorem sS {P:Program} {F:z9} {o:Oper} {T:Tm} {H:Hp} {t:TypeId} {x y:Operand} {cs:List AVal} {len:Nat} {k:IntKind} {z:Int} {v:AVal} [ha:AE P t len] (ho:o.op= .index t x y) (hx:opnd T x=some (.agg cs)) (hy:opnd T y=some (.int k (.lit z))) (hz:0≤z) (hl:z<(len:Nat)) (hv:cs[z.toNat]? =some v):
 yJ P F T H o=some (.val v H):=by
 obtain⟨e,h1,h2,h3⟩:=ha.h
 obtain⟨n,rfl⟩: ∃n:Nat,z=n:=⟨z.toNat,by omega⟩
 have:Nat.blt n len=true:=by rw [Nat.blt_eq];omega
 simp only [yJ,ho,Yr,hx,hy,h1,vU,h3,this,cond_true,jP,h2,Nat.mul_one]
 have hv':cs[n]? =some v:=hv
 rw [hv'];rfl
theorem wD {P:Program} {F:z9} {o:Oper} {T:Tm} {H:Hp} {c:Call} {t:TypeId} {ts:List TypeId} {x:Operand} {sz:Nat} {a:Option (Nat×Nat)} {n es:Nat} {cap:Option Nat} [hs:SL P t sz] (ho:o.op= .call c) (hc:c.callee= .builtin .len) (ht:c.argTypes.toList=t::ts) (ha:c.args.toList= [x])
 (hx:opnd T x=some (.slice a n cap es)):yJ P F T H o=some (.val (.int .i64 (.lit ((n:Nat):Int))) H):=s_len ho hc ht ha hx
def Tm.ofFun (g:Nat→Option AVal):Nat→Tm
 |0=> .nil
 |k+1=> .node (g 0) (g 1) (g 2) (g 3) (g 4) (g 5) (g 6) (g 7) (g 8) (g 9) (g 10) (g 11) (g 12) (g 13) (g 14) (g 15) (Tm.ofFun (fun i=>g (i+16)) k)
theorem Tm.shape: ∀(k:Nat) (T:Tm),T.len=k→ ∃g,T=Tm.ofFun g k:=by
 intro k
 induction k with
 |zero=>intro T h;exact⟨fun _=>none,Tm.len0 h⟩
 |succ k ih=>
  intro T h
  obtain⟨a0,a1,a2,a3,a4,a5,a6,a7,a8,a9,a10,a11,a12,a13,a14,a15,nx,rfl,h1⟩:=Tm.opened h
  obtain⟨g,rfl⟩:=ih nx h1
  exact⟨fun i=>match i with
   |0=>a0|1=>a1|2=>a2|3=>a3|4=>a4|5=>a5|6=>a6|7=>a7|8=>a8|9=>a9|10=>a10|11=>a11|12=>a12|13=>a13|14=>a14|15=>a15
   |n+16=>g n,rfl⟩
theorem Tm.sk_self (d:QC) (v:AVal): ∀(k:Nat) (T:Tm),Tm.gk d k T=some v→Tm.sk d v k T=T:=by
 intro k
 induction k with
 |zero=>
  intro T h
  cases T with
  |nil=>exact Tm.s_nil d v
  |node=>cases d<;>(cases h;rfl)
 |succ k ih=>
  intro T h
  cases T with
  |nil=>rfl
  |node a0 a1 a2 a3 a4 a5 a6 a7 a8 a9 a10 a11 a12 a13 a14 a15 nx=>
   show Tm.node a0 a1 a2 a3 a4 a5 a6 a7 a8 a9 a10 a11 a12 a13 a14 a15 (Tm.sk d v k nx)=_
   rw [ih nx h]
theorem Tm.put_self {i:Nat} {v:AVal} {T:Tm} (h:Tm.get i T=some v):Tm.put i v T=T:=Tm.sk_self _ v _ T h
def kW (p:Int×Int):AVal:= .agg [.int .i64 (.lit p.1),.int .i64 (.lit p.2)]
class MW (P:Program) (t:Nat):Prop where
 h: ∃kt et,yO P t=some (.map kt et)∧(∀p,wM P kt (kW p)=true)∧ ∀F H p q,Yb P F H 3 kt (kW p) (kW q)=some (decide (p=q))
def dp (H:Hp) (id:Nat) (ks:List (Int×Int)):Prop:= ∃es clock,H.t.get id=some (.map es clock)∧es.map (·.key)=ks.map kW
def VP (ks:List (Int×Int)) (k:Int×Int):List (Int×Int):=if k ∈ ks then ks else ks++ [k]
theorem n7 (p:Int×Int):j9 (kW p) (kW p)=true:=by
 simp [j9,kW,Y2,vf,ZD,wh,Vd]
section
variable {P:Program} {F:z9} {hook:yZ} {ops:Array Oper} {o:Oper} {l:List Oper} {T:Tm} {H:Hp} {Q:Tm→Hp→Prop}
theorem ly {kt:TypeId} (he: ∀p q,Yb P F H 3 kt (kW p) (kW q)=some (decide (p=q))) (k:Int×Int): ∀(ks:List (Int×Int)) (es:List vD),es.map (·.key)=ks.map kW→ ∀i,
 (k ∈ ks∧ ∃j e,uO (Yb P F H 3 kt) (kW k) es i=some (some (i+j,e))∧e.key=kW k∧es[j]? =some e)∨(k ∉ ks∧uO (Yb P F H 3 kt) (kW k) es i=some none):=by
 intro ks
 induction ks with
 |nil=>
  intro es h i
  cases es with
  |nil=>exact .inr ⟨by simp,rfl⟩
  |cons=>simp at h
 |cons q ks ih=>
  intro es h i
  cases es with
  |nil=>simp at h
  |cons e es=>
   simp only [List.map_cons,List.cons.injEq]at h
   have hf:uO (Yb P F H 3 kt) (kW k) (e::es) i=(match Yb P F H 3 kt (kW k) e.key with
    |some true=>some (some (i,e))
    |some false=>uO (Yb P F H 3 kt) (kW k) es (i+1)
    |none=>none):=rfl
   rw [h.1,he]at hf
   by_cases hq:k=q
   ·rw [decide_eq_true hq]at hf
    exact .inl ⟨by rw [hq];simp,0,e,hf,by rw [h.1,hq],rfl⟩
   rw [decide_eq_false hq]at hf
   rcases ih es h.2 (i+1)with⟨h1,j,e2,h2,h3,h4⟩|⟨h1,h2⟩
   ·exact .inl ⟨by simp [h1],j+1,e2,by rw [hf];show uO _ _ es (i+1)=_;rw [h2];congr 3;omega,h3,by simpa using h4⟩
   exact .inr ⟨by simp [hq,h1],by rw [hf];exact h2⟩
theorem pI {t:TypeId} {m k x:Operand} {id:Nat} {p:Int×Int} {v:AVal} {ks:List (Int×Int)} [hM:MW P t] (hm:dp H id ks) (ho:o.op= .mapUpdate t m k x) (hw:zJ ops T o=some true) (h1:opnd T m=some (.map (some id))) (h2:opnd T k=some (kW p)) (h3:opnd T x=some v)
 (kk: ∀H',dp H' id (VP ks p)→jy (· =id) H H'→H'.next=H.next→vH P F hook ops l (ze T o.dst unit) H' Q):vH P F hook ops (o::l) T H Q:=by
 obtain⟨kt,et,g1,g2,g3⟩:=hM.h
 obtain⟨es,clock,h4,h5⟩:=hm
 have h6:H.mapAt id=some (es,clock):=by simp only [Hp.mapAt,h4]
 have fin: ∀q,jy (· =id) H (H.put id q):=fun q=>⟨Nat.le_refl _,fun k x hk hx=>by simp only [Hp.put,Tr.get_set,if_neg hk];exact hx,fun h=>h.put h4 _⟩
 rcases ly (P:=P) (F:=F) (H:=H) (g3 F H) p ks es h5 0 with⟨hi,j,e,a1,a2,a3⟩|⟨hi,a1⟩
 ·rw [Nat.zero_add]at a1
  have hb:j9 (kW p) e.key=true:=by rw [a2];exact n7 p
  refine qQ hw (v:=unit) (H':=H.put id (.map (es.set j ⟨kW p,v,e.born⟩) clock)) ?_ (kk _ ⟨_,clock,by show(Tr.set _ _ _).get _=_;rw [Tr.get_set,if_pos rfl],?_⟩ (fin _) rfl)
  ·simp only [yJ,ho,vg,h1,h2,h3,Ys,g1,g2,cond_true,h6,a1,hb]
  unfold VP
  rw [if_pos hi,←h5]
  apply List.ext_getElem?
  intro n
  simp only [List.getElem?_map,List.getElem?_set]
  by_cases hn:j=n
  ·subst hn
   have hl:j<es.length:=(List.getElem?_eq_some_iff.1 a3).1
   rw [if_pos rfl,if_pos hl,a3];simp [a2]
  rw [if_neg hn]
 refine qQ hw (v:=unit) (H':=H.put id (.map (es++ [⟨kW p,v,clock⟩]) (clock+1))) ?_ (kk _ ⟨_,clock+1,by show(Tr.set _ _ _).get _=_;rw [Tr.get_set,if_pos rfl],?_⟩ (fin _) rfl)
 ·simp only [yJ,ho,vg,h1,h2,h3,Ys,g1,g2,cond_true,h6,a1]
 unfold VP
 rw [if_neg hi];simp [h5]
theorem s_lenW {c:Call} {t:TypeId} {ts:List TypeId} {x:Operand} {id:Nat} {ks:List (Int×Int)} [hM:MW P t] (hm:dp H id ks) (ho:o.op= .call c) (hc:c.callee= .builtin .len) (ht:c.argTypes.toList=t::ts) (ha:c.args.toList= [x]) (hx:opnd T x=some (.map (some id))):
 yJ P F T H o=some (.val (.int .i64 (.lit ((ks.length:Nat):Int))) H):=by
 obtain⟨kt,et,g1,_⟩:=hM.h
 obtain⟨es,clock,h4,h5⟩:=hm
 have h6:H.mapAt id=some (es,clock):=by simp only [Hp.mapAt,h4]
 have h7:es.length=ks.length:=by have:=congrArg List.length h5;simpa using this
 simp only [yJ,ho,hc,ht,ha,qf,hx,yU,yI,tO,g1,h6,zH.ofVal,h7];rfl
theorem dp.only {S:Nat→Prop} {H H':Hp} {id:Nat} {ks:List (Int×Int)} (h:dp H id ks) (o:jy S H H') (hi: ¬S id):dp H' id ks:=by
 obtain⟨es,c,h1,h2⟩:=h
 exact⟨es,c,o.same id _ hi h1,h2⟩
class MT (P:Program) (t:Nat):Prop where
 h: ∃kt et,yO P t=some (.map kt et)
end
abbrev yc:=Nat→Option uj
abbrev SP:=yc→Prop
def yc.le (a h:yc):Prop:= ∀k x,a k=some x→h k=some x
def yc.off (a b:yc):Prop:= ∀k,a k=none∨b k=none
def yd:List SP→yc→Prop
 | [],_=>True
 |p::L,h=> ∃a b:yc,a.off b∧a.le h∧b.le h∧p a∧yd L b
theorem yc.le.trans {a b c:yc} (h:a.le b) (k:b.le c):a.le c:=fun i x e=>k i x (h i x e)
theorem yd.mono {L:List SP} {h h':yc} (s:yd L h) (l:h.le h'):yd L h':=by
 cases L with
 |nil=>trivial
 |cons p L=>obtain⟨a,b,h1,h2,h3,h4,h5⟩:=s;exact⟨a,b,h1,h2.trans l,h3.trans l,h4,h5⟩
theorem yd.tail {p:SP} {L:List SP} {h:yc} (s:yd (p::L) h):yd L h:=by
 obtain⟨a,b,h1,h2,h3,h4,h5⟩:=s;exact h5.mono h3
def yc.or (a b:yc):yc:=fun k=>match a k with
 |some x=>some x
 |none=>b k
theorem yc.or_l (a b:yc):a.le (a.or b):=fun k x e=>by simp only [yc.or,e]
theorem yc.or_r {a b:yc} (h:a.off b):b.le (a.or b):=fun k x e=>by
 rcases h k with h|h
 ·simp only [yc.or,h,e]
 rw [h]at e;cases e
theorem yc.or_le {a b h:yc} (ha:a.le h) (hb:b.le h):(a.or b).le h:=fun k x e=>by
 simp only [yc.or]at e
 cases hk:a k with
 |some y=>rw [hk]at e;cases e;exact ha k _ hk
 |none=>rw [hk]at e;exact hb k x e
theorem yc.off_or {a b c:yc} (h:a.off b) (k:a.off c):a.off (b.or c):=fun i=>by
 rcases h i with h|h
 ·exact .inl h
 rcases k i with k|k
 ·exact .inl k
 exact .inr (by simp only [yc.or,h,k])
theorem yc.off.symm {a b:yc} (h:a.off b):b.off a:=fun k=>(h k).symm
theorem yc.off.le {a b c:yc} (h:a.off b) (k:c.le b):a.off c:=fun i=>by
 rcases h i with h|h
 ·exact .inl h
 cases hc:c i with
 |none=>exact .inr rfl
 |some x=>rw [k i x hc]at h;cases h
theorem yd.swap {p q:SP} {L:List SP} {h:yc} (s:yd (p::q::L) h):yd (q::p::L) h:=by
 obtain⟨a,b,h1,h2,h3,h4,c,d,k1,k2,k3,k4,k5⟩:=s
 exact⟨c,a.or d,(yc.off_or (h1.le k2).symm k1),k2.trans h3,yc.or_le h2 (k3.trans h3),k4,a,d,h1.le k3,yc.or_l _ _,yc.or_r (h1.le k3),h4,k5⟩
theorem yd.cons {p q:SP} {L M:List SP} {h:yc} (s:yd (p::L) h) (hp: ∀a,p a→q a) (hL: ∀b,yd L b→yd M b):yd (q::M) h:=by
 obtain⟨a,b,h1,h2,h3,h4,h5⟩:=s;exact⟨a,b,h1,h2,h3,hp a h4,hL b h5⟩
theorem yd.append {L M:List SP} : ∀ {h:yc},yd (L++M) h→ ∃a b:yc,a.off b∧a.le h∧b.le h∧yd L a∧yd M b:=by
 induction L with
 |nil=>intro h s;exact⟨fun _=>none,h,fun _=> .inl rfl,(fun k x e=>nomatch e),(fun k x e=>e),trivial,s⟩
 |cons p L ih=>
  intro h s
  obtain⟨a,b,h1,h2,h3,h4,h5⟩:=s
  obtain⟨c,d,k1,k2,k3,k4,k5⟩:=ih h5
  exact⟨a.or c,d,(yc.off_or (h1.le k3).symm k1.symm).symm,yc.or_le h2 (k2.trans h3),k3.trans h3,⟨a,c,h1.le k2,yc.or_l _ _,yc.or_r (h1.le k2),h4,k4⟩,k5⟩
theorem yd.join {L M:List SP} : ∀ {a b h:yc},a.off b→a.le h→b.le h→yd L a→yd M b→yd (L++M) h:=by
 induction L with
 |nil=>intro a b h h1 h2 h3 _ s;exact s.mono h3
 |cons p L ih=>
  intro a b h h1 h2 h3 s k
  obtain⟨c,d,k1,k2,k3,k4,k5⟩:=s
  exact⟨c,d.or b,yc.off_or k1 (h1.symm.le k2).symm,k2.trans h2,yc.or_le (k3.trans h2) h3,k4,ih (h1.symm.le k3).symm (yc.or_l _ _) (yc.or_r (h1.symm.le k3).symm) k5 k⟩
def ent {κ α:Type} (K:κ→α→SP) (a:κ) (x:α):SP:=K a x
def By (L:List SP):SP:=yd L
theorem ZA {L M:List SP} {h:yc} (s:yd (By L::M) h):yd (L++M) h:=by
 obtain⟨a,b,h1,h2,h3,h4,h5⟩:=s;exact .join h1 h2 h3 h4 h5
theorem qL {L M:List SP} {h:yc} (s:yd (L++M) h):yd (By L::M) h:=by
 obtain⟨a,b,h1,h2,h3,h4,h5⟩:=s.append;exact⟨a,b,h1,h2,h3,h4,h5⟩
class Tk {κ α:Type} (L:List SP) (K:κ→α→SP) (a:κ) (x:outParam α) (R:outParam (List SP)):Prop where
 h: ∀f,yd L f→yd (ent K a x::R) f
 b: ∀f,yd (ent K a x::R) f→yd L f
instance D0 {κ α:Type} (K:κ→α→SP) (a:κ) (x:α) (L:List SP):Tk (ent K a x::L) K a x L:=⟨fun _ s=>s,fun _ s=>s⟩
instance C4 {κ α:Type} (p:SP) (L:List SP) (K:κ→α→SP) (a:κ) (x:α) (R:List SP) [t:Tk L K a x R]:Tk (p::L) K a x (p::R):=
 ⟨fun _ s=>(s.cons (fun _ e=>e) t.h).swap,fun _ s=>s.swap.cons (fun _ e=>e) t.b⟩
class Sub (L M:List SP):Prop where
 h: ∀f,yd L f→yd M f
theorem Sub.refl (L:List SP):Sub L L:=⟨fun _ s=>s⟩
theorem Sub.nil (L:List SP):Sub L []:=⟨fun _ _=>trivial⟩
theorem Sub.trans {L M N:List SP} (h:Sub L M) (k:Sub M N):Sub L N:=⟨fun f s=>k.h f (h.h f s)⟩
theorem Sub.drop {p:SP} {L M:List SP} (h:Sub L M):Sub (p::L) M:=⟨fun f s=>h.h f s.tail⟩
theorem Sub.keep {p:SP} {L M:List SP} (h:Sub L M):Sub (p::L) (p::M):=⟨fun _ s=>s.cons (fun _ e=>e) h.h⟩
theorem Sub.get {κ α:Type} {L M R:List SP} {K:κ→α→SP} {a:κ} {x y:α} [t:Tk L K a x R] (e:x=y) (h:Sub R M):Sub L (ent K a y::M):=⟨fun f s=>by
 subst e;exact(t.h f s).cons (fun _ e=>e) h.h⟩
theorem Sub.imp {κ α:Type} {L M R:List SP} {K:κ→α→SP} {a:κ} {x:α} [t:Tk L K a x R] {q:SP} (e: ∀f,K a x f→q f) (h:Sub R M):Sub L (q::M):=⟨fun f s=>(t.h f s).cons e h.h⟩
structure Holds (L:List SP) (H:Hp):Prop where
 ok:k7 H
 s:yd L fun k=>H.t.get k
theorem Holds.sub {L M:List SP} {H:Hp} (h:Holds L H) (s:Sub L M):Holds M H:=⟨h.ok,s.h _ h.s⟩
def z8 (i:Nat) (cs:List AVal):SP:=fun h=> ∃c w,h i=some (.cells true c w)∧cs.length≤w∧ ∀j,j<cs.length→c.get j=cs[j]?
def zI (i:Nat) (x:Nat×(Nat→AVal)):SP:=fun h=> ∃c w,h i=some (.cells true c w)∧x.1≤w∧ ∀j,j<x.1→c.get j=some (x.2 j)
def GZ (i:Nat) (l:List (Int×AVal)):SP:=fun h=> ∃es clock,h i=some (.map es clock)∧re es l
def U8 (i:Nat) (ks:List (Int×Int)):SP:=fun h=> ∃es clock,h i=some (.map es clock)∧es.map (·.key)=ks.map kW
def yh (i:Nat) (x:Nat×List AVal):SP:=fun h=> ∃s r,h i=some (.chan x.1 x.2 s r)
inductive xw (h:yc):AVal→Nat→List AVal→Prop
 |nil (e es:Nat):xw h (.slice none 0 (some 0) e) es []
 |emp (i off es:Nat):xw h (.slice (some (i,off)) 0 (some 0) es) es []
 |own (i off len n es:Nat) (f:Nat→AVal) (cs:List AVal) (hr:zI i (n,f) h) (hn:off+len*es≤n) (hc:cs=zY f off (len*es)):xw h (.slice (some (i,off)) len none es) es cs
 |part (i off len cap n es:Nat) (f:Nat→AVal) (cs:List AVal) (hr:zI i (n,f) h) (hn:off+cap*es≤n) (hl:len≤cap) (hc:cs=zY f off (len*es)):xw h (.slice (some (i,off)) len (some cap) es) es cs
theorem xw.mono {h h':yc} (l:h.le h') {v:AVal} {es:Nat} {cs:List AVal} (s:xw h v es cs):xw h' v es cs:=by
 cases s with
 |nil e es=>exact .nil e es
 |emp i off es=>exact .emp i off es
 |own i off len n es f cs hr hn hc=>obtain⟨c,w,h1,h2⟩:=hr;exact .own i off len n es f cs ⟨c,w,l _ _ h1,h2⟩ hn hc
 |part i off len cap n es f cs hr hn hl hc=>obtain⟨c,w,h1,h2⟩:=hr;exact .part i off len cap n es f cs ⟨c,w,l _ _ h1,h2⟩ hn hl hc
def ul (cs:List AVal) (j:Nat):AVal:=(cs[j]?).getD unit
theorem wG {i:Nat} {cs:List AVal} {f:Nat→AVal} (e: ∀j,j<cs.length→cs[j]? =some (f j)): ∀h,z8 i cs h→zI i (cs.length,f) h:=by
 rintro h ⟨c,w,h1,h3,h2⟩
 exact⟨c,w,h1,h3,fun j hj=>by rw [h2 j hj,e j hj]⟩
theorem J6 {i n:Nat} {cs:List AVal} {f:Nat→AVal} (hn:n=cs.length) (e: ∀j,j<cs.length→cs[j]? =some (f j)): ∀h,zI i (n,f) h→z8 i cs h:=by
 subst hn
 rintro h ⟨c,w,h1,h3,h2⟩
 exact⟨c,w,h1,h3,fun j hj=>by rw [h2 j hj,e j hj]⟩
theorem wK {i n:Nat} {f g:Nat→AVal} (e: ∀j,j<n→f j=g j): ∀h,zI i (n,f) h→zI i (n,g) h:=by
 rintro h ⟨c,w,h1,h3,h2⟩
 exact⟨c,w,h1,h3,fun j hj=>(h2 j hj).trans (congrArg some (e j hj))⟩
theorem yd.frow {i n:Nat} {f:Nat→AVal} {R:List SP} {H:Hp} (s:yd (ent zI i (n,f)::R) fun k=>H.t.get k): ∃c w,H.t.get i=some (.cells true c w)∧n≤w∧ ∀j,j<n→c.get j=some (f j):=by
 obtain⟨a,b,h1,h2,h3,⟨c,w,h4,h7,h5⟩,h6⟩:=s
 exact⟨c,w,h2 _ _ h4,h7,h5⟩
theorem yd.rd {i n:Nat} {f:Nat→AVal} {R:List SP} {H:Hp} (s:yd (ent zI i (n,f)::R) fun k=>H.t.get k) {j:Nat} (hj:j<n):H.read1 i j=some (f j):=by
 obtain⟨c,w,h1,h2,h3⟩:=s.frow
 simp only [Hp.read1,h1,h3 j hj]
theorem yd.rdN {i m:Nat} {f:Nat→AVal} {R:List SP} {H:Hp} (s:yd (ent zI i (m,f)::R) fun k=>H.t.get k) {o n:Nat} (ho:o+n≤m):H.read i o n=some (zY f o n):=by
 obtain⟨c,w,h1,h2,h3⟩:=s.frow
 simp only [Hp.read,h1]
 exact vV h3 n o ho
theorem ZU {cs:List AVal} {j:Nat} (h:j<cs.length):cs[j]? =some (ul cs j):=by
 unfold ul;rw [List.getElem?_eq_getElem h];rfl
theorem yd.row {i:Nat} {cs:List AVal} {R:List SP} {h:yc} (s:yd (ent z8 i cs::R) h):yd (ent zI i (cs.length,ul cs)::R) h:=
 s.cons (q:=ent zI i (cs.length,ul cs)) (wG fun j hj=>ZU hj) fun _ e=>e
theorem yd.isSome {κ α:Type} {K:κ→α→SP} {a:κ} {x:α} {i:Nat} {R:List SP} {h:yc} (s:yd (ent K a x::R) h) (hk: ∀f,K a x f→ ∃y,f i=some y) {o:uj} {y:α} (hn: ∀f:yc,f i=some o→K a y f):
 ∀h':yc,h' i=some o→(∀k,k≠i→ ∀z,h k=some z→h' k=some z)→yd (ent K a y::R) h':=by
 intro h' h1 h2
 obtain⟨a,b,k1,k2,k3,k4,k5⟩:=s
 obtain⟨z,hz⟩:=hk _ k4
 have hb:b i=none:=(k1 i).resolve_left (by rw [hz];nofun)
 refine⟨fun k=>if k=i then some o else none,b,fun k=> ?_,fun k w e=> ?_,fun k w e=> ?_,hn _ (by simp),k5⟩
 ·by_cases e:k=i
  ·subst e;exact .inr hb
  exact .inl (by simp [e])
 ·by_cases e2:k=i
  ·subst e2;simp at e;rw [h1,e]
  simp [e2]at e
 by_cases e2:k=i
 ·subst e2;rw [hb]at e;cases e
 exact h2 k e2 w (k3 k w e)
theorem Holds.alloc {κ α:Type} {K:κ→α→SP} {a:κ} {x:α} {L:List SP} {H:Hp} (h:Holds L H) {o:uj} (hn: ∀f:yc,f H.next=some o→K a x f):Holds (ent K a x::L) (H.alloc o):=by
 refine⟨fun k y hk=> ?_,fun k=>if k=H.next then some o else none,fun k=>H.t.get k,fun k=> ?_,fun k w e=> ?_,fun k w e=> ?_,hn _ (by simp),h.s⟩
 ·have hk':(H.t.set H.next o).get k=some y:=hk
  rw [Tr.get_set]at hk'
  show k<H.next+1
  by_cases e:k=H.next
  ·omega
  rw [if_neg e]at hk';have:=h.ok k y hk';omega
 ·by_cases e:k=H.next
  ·refine .inr ?_
   show H.t.get k=none
   cases hk:H.t.get k with
   |none=>rfl
   |some y=>have:=h.ok k y hk;omega
  exact .inl (by simp [e])
 ·show(H.t.set H.next o).get k=some w
  rw [Tr.get_set]
  by_cases e2:k=H.next
  ·rw [if_pos e2];simpa [e2] using e
  simp [e2]at e
 show(H.t.set H.next o).get k=some w
 have:=h.ok k w e
 rw [Tr.get_set,if_neg (by omega)];exact e
theorem Holds.put {κ α:Type} {K:κ→α→SP} {a:κ} {x y:α} {R:List SP} {H:Hp} {i:Nat} {o o':uj} (h:Holds (ent K a x::R) H) (hi:H.t.get i=some o') (hk: ∀f,K a x f→ ∃y,f i=some y) (hn: ∀f:yc,f i=some o→K a y f):Holds (ent K a y::R) (H.put i o):=
 ⟨h.ok.put hi o,h.s.isSome hk hn _ (by show(H.t.set i o).get i=_;rw [Tr.get_set,if_pos rfl]) fun k hk z hz=>by show(H.t.set i o).get k=_;rw [Tr.get_set,if_neg hk];exact hz⟩
section
variable (P:Program) (F:z9) (hook:yZ)
def SW (f:FuncId) (as:List AVal) (L:List SP) (Q:AVal→List SP→Prop):Prop:= ∀H,Holds L H→jZ P F hook f as H fun v H'=> ∃L',Q v L'∧Holds L' H'
def WO (ops:Array Oper) (l:List Oper) (T:Tm) (L:List SP) (Q:Tm→List SP→Prop):Prop:= ∀H,Holds L H→vH P F hook ops l T H fun T' H'=> ∃L',Q T' L'∧Holds L' H'
def WC (c:Code) (T:Tm) (L:List SP) (Q:AExit→Tm→List SP→Prop):Prop:= ∀H,Holds L H→qg P F hook c T H fun e T' H'=> ∃L',Q e T' L'∧Holds L' H'
def WS (ops:Array Oper) (ss:List wZ) (T:Tm) (L:List SP) (Q:Tm→List SP→Prop):Prop:= ∀H,Holds L H→gI P F hook ops ss T H fun T' H'=> ∃L',Q T' L'∧Holds L' H'
def WK (ops:Array Oper) (l:List It) (T:Tm) (L:List SP) (Q:Tm→List SP→Prop):Prop:= ∀H,Holds L H→vC P F ops l T H fun T' H'=> ∃L',Q T' L'∧Holds L' H'
def WA (ops:Array Oper) (l:List It) (T:Tm) (L:List SP):Prop:= ∀H,Holds L H→ux P F ops T H l
def Cy (T:Tm) (L:List SP) (rs:List ResultVar) (Q:AVal→List SP→Prop):Prop:= ∃vs,(∀H,Holds L H→ql P T H rs=some vs)∧ ∃L',Q (match vs with
 | [v]=>v
 |vs=> .tuple vs) L'∧Sub L L'
end
section
variable {P:Program} {F:z9} {hook:yZ} {ops:Array Oper} {o:Oper} {l:List Oper} {T:Tm} {L R:List SP} {Q:Tm→List SP→Prop}
theorem bA: ∀ {l:List It} {T:Tm} {H:Hp} {Q Q':Tm→Hp→Prop},vC P F ops l T H Q→(∀T H,Q T H→Q' T H)→vC P F ops l T H Q':=by
 intro l
 induction l with
 |nil=>intro T H Q Q' h hq;exact hq _ _ h
 |cons x l ih=>
  intro T H Q Q' h hq
  simp only [vC]at h ⊢
  split at h
  ·exact ih h hq
  exact h.elim
theorem SW.intro {f:FuncId} {fn:Func} {b:Code} {as:List AVal} {Q:AVal→List SP→Prop} (hk:hook f=none) (hf:P.funcs[f]? =some fn) (hb:fn.body=some b)
 (h:WC P F hook b (YE as 0 (Tm.mk (fn.ntmps/16+1))) L fun e T' L'=>(e= .normal∨e= .ret)∧Cy P T' L' fn.results.toList Q):SW P F hook f as L Q:=by
 intro H hH
 refine jZ.introR hk hf hb (wqCode_mono (h H hH) fun e T' H' hq=> ?_)
 obtain⟨L',⟨he,vs,h1,L2,h2,h3⟩,hL⟩:=hq
 exact⟨he,vs,h1 H' hL,L2,h2,hL.sub h3⟩
theorem SW.mono {f:FuncId} {as:List AVal} {Q Q':AVal→List SP→Prop} (h:SW P F hook f as L Q) (hq: ∀v L',Q v L'→Q' v L'):SW P F hook f as L Q':=
 fun H hH=>(h H hH).mono fun _ _ ⟨L',a,b⟩=>⟨L',hq _ _ a,b⟩
theorem SW.sub {f:FuncId} {as:List AVal} {M:List SP} {Q:AVal→List SP→Prop} (h:SW P F hook f as M Q) (s:Sub L M):SW P F hook f as L Q:=
 fun H hH=>h H (hH.sub s)
theorem SW.view {f:FuncId} {as:List AVal} {J:List SP→Prop} {Q:AVal→List SP→Prop} (hu: ∀h,yd L h→ ∃L',J L'∧yd L' h) (k: ∀L',J L'→SW P F hook f as L' Q):SW P F hook f as L Q:=by
 intro H hH
 obtain⟨L',h1,h2⟩:=hu _ hH.s
 exact k L' h1 H ⟨hH.ok,h2⟩
theorem c_seq {a b:Code} {Q:AExit→Tm→List SP→Prop} (h:WC P F hook a T L fun e T L=>match e with
 | .normal=>WC P F hook b T L Q
 |e=>Q e T L):WC P F hook (.seq a b) T L Q:=by
 intro H hH
 refine AV (wqCode_mono (h H hH) fun e T' H' hq=> ?_)
 obtain⟨L',h1,h2⟩:=hq
 cases e with
 |normal=>exact h1 H' h2
 |exit i=>exact⟨L',h1,h2⟩
 |ret=>exact⟨L',h1,h2⟩
theorem uU {id:Nat} {Q:AExit→Tm→List SP→Prop} (h:WO P F hook ops ops.toList T L fun T L=>Q .normal T L):WC P F hook (.region id ops false) T L Q:=fun H hH=>h H hH
theorem Jz {x:Operand} {a b:Code} {Q:AExit→Tm→List SP→Prop} (hx:opnd T x=some (.bool true)) (h:WC P F hook a T L Q):WC P F hook (.cond x a b) T L Q:=fun H hH=>eP hx (h H hH)
theorem Vf {x:Operand} {a b:Code} {Q:AExit→Tm→List SP→Prop} (hx:opnd T x=some (.bool false)) (h:WC P F hook b T L Q):WC P F hook (.cond x a b) T L Q:=fun H hH=>cH hx (h H hH)
theorem kV {Q:AExit→Tm→List SP→Prop} (h:Q .normal T L):WC P F hook .skip T L Q:=fun _ hH=>⟨L,h,hH⟩
theorem B1 {id:Nat} {Q:AExit→Tm→List SP→Prop} (h:Q (.exit id) T L):WC P F hook (.exit id) T L Q:=fun _ hH=>⟨L,h,hH⟩
theorem UV {Q:AExit→Tm→List SP→Prop} (h:Q .ret T L):WC P F hook .ret T L Q:=fun _ hH=>⟨L,h,hH⟩
theorem ah {id:Nat} {b:Code} {Q:AExit→Tm→List SP→Prop} (h:WC P F hook b T L fun e T L=>match e with
 | .exit i=>bif Nat.beq i id then Q .normal T L else Q (.exit i) T L
 |e=>Q e T L):WC P F hook (.block id b) T L Q:=by
 intro H hH
 refine hO (wqCode_mono (h H hH) fun e T' H' hq=> ?_)
 obtain⟨L',h1,h2⟩:=hq
 cases e with
 |normal=>exact⟨L',h1,h2⟩
 |exit i=>
  simp only at h1 ⊢
  cases hb:Nat.beq i id<;>simp only [hb,cond_true,cond_false]at h1 ⊢ <;>exact⟨L',h1,h2⟩
 |ret=>exact⟨L',h1,h2⟩
theorem zl {b:Code} {Q:AExit→Tm→List SP→Prop} (I:Nat→Tm→List SP→Prop) (n:Nat) (h0:I n T L)
 (hs: ∀k T L,I k T L→WC P F hook b T L fun e T' L'=>(e= .normal∧ ∃j,j<k∧I j T' L')∨(e≠ .normal∧Q e T' L')):WC P F hook (.loop b) T L Q:=by
 intro H hH
 refine jE.loop (fun k T H=> ∃L,I k T L∧Holds L H) n ⟨L,h0,hH⟩ fun k T H hI=> ?_
 obtain⟨L,hI,hL⟩:=hI
 refine(JM (hs k T L hI H hL)).imp fun e T' H' hq=> ?_
 obtain⟨L',h1|h1,h2⟩:=hq
 ·obtain⟨he,j,hj,hI⟩:=h1
  exact .inl ⟨he,j,hj,L',hI,h2⟩
 exact .inr ⟨h1.1,L',h1.2,h2⟩
theorem kN {c:Code} {Q Q':AExit→Tm→List SP→Prop} (h:WC P F hook c T L Q) (hq: ∀e T L,Q e T L→Q' e T L):WC P F hook c T L Q':=
 fun H hH=>wqCode_mono (h H hH) fun _ _ _ ⟨L',a,b⟩=>⟨L',hq _ _ _ a,b⟩
theorem fk {a b:Code} {Q:AExit→Tm→List SP→Prop} (I:Tm→List SP→Prop) (h1:WC P F hook a T L fun e T' L'=>match e with
 | .normal=>I T' L'
 |e=>Q e T' L') (h2: ∀T' L',I T' L'→WC P F hook b T' L' Q):WC P F hook (.seq a b) T L Q:=
 c_seq (kN h1 fun e T' L' h=>by cases e<;>first|exact h2 _ _ h|exact h)
theorem AU {c:Code} {J:List SP→Prop} {Q:AExit→Tm→List SP→Prop} (hu: ∀h,yd L h→ ∃L',J L'∧yd L' h) (k: ∀L',J L'→WC P F hook c T L' Q):WC P F hook c T L Q:=by
 intro H hH
 obtain⟨L',h1,h2⟩:=hu _ hH.s
 exact k L' h1 H ⟨hH.ok,h2⟩
theorem zu {c:Code} {M:List SP} {Q:AExit→Tm→List SP→Prop} (s:Sub L M) (k:WC P F hook c T M Q):WC P F hook c T L Q:=fun H hH=>k H (hH.sub s)
theorem zO (ms:List Nat) (pl:List (List Nat×List Nat×Option Nat)) {id:Nat} {Q:AExit→Tm→List SP→Prop} (hp:QG ops=some (JW ops ms pl)) (h:WS P F hook ops (JW ops ms pl) T L fun T L=>Q .normal T L):WC P F hook (.region id ops true) T L Q:=
 fun H hH=>c6 ms pl hp (h H hH)
theorem z4 {s:wZ} {ss:List wZ} (h:WK P F ops s.work T L fun T L=>WA P F ops s.again T L∧match s.chain with
 |none=>Q T L
 |some c=>WO P F hook ops [c.o] T L fun T L=>WS P F hook ops ss T L Q):WS P F hook ops (s::ss) T L Q:=by
 intro H hH
 refine GL (bA (h H hH) fun T' H' hq=> ?_)
 obtain⟨L',⟨h1,h2⟩,h3⟩:=hq
 refine⟨h1 H' h3,?_⟩
 cases hc:s.chain with
 |none=>rw [hc]at h2;exact⟨L',h2,h3⟩
 |some c=>
  rw [hc]at h2
  refine Ul (h2 H' h3) fun T2 H2 hq=> ?_
  obtain⟨L2,h4,h5⟩:=hq
  exact h4 H2 h5
theorem zF (h:Q T L):WO P F hook ops [] T L Q:=fun _ hH=>⟨L,h,hH⟩
theorem zf {v:AVal} (hw:zJ ops T o=some true) (ha: ∀H,yJ P F T H o=some (.val v H)) (h:WO P F hook ops l (ze T o.dst v) L Q):WO P F hook ops (o::l) T L Q:=fun H hH=>qQ hw (ha H) (h H hH)
theorem gW (hw:zJ ops T o=some false) (h:WO P F hook ops l (ze T o.dst unit) L Q):WO P F hook ops (o::l) T L Q:=fun H hH=>il hw (h H hH)
theorem yo {v:AVal} (hw:zJ ops T o=some true) (ha: ∀H,Holds L H→yJ P F T H o=some (.val v H)) (h:WO P F hook ops l (ze T o.dst v) L Q):WO P F hook ops (o::l) T L Q:=fun H hH=>qQ hw (ha H hH) (h H hH)
theorem o_view {J:List SP→Prop} (hu: ∀h,yd L h→ ∃L',J L'∧yd L' h) (k: ∀L',J L'→WO P F hook ops l T L' Q):WO P F hook ops l T L Q:=by
 intro H hH
 obtain⟨L',h1,h2⟩:=hu _ hH.s
 exact k L' h1 H ⟨hH.ok,h2⟩
theorem zR {M:List SP} (s:Sub L M) (k:WO P F hook ops l T M Q):WO P F hook ops l T L Q:=fun H hH=>k H (hH.sub s)
theorem uL {p:Prop} (hu: ∀h,yd L h→p) (k:p→WO P F hook ops l T L Q):WO P F hook ops l T L Q:=fun H hH=>k (hu _ hH.s) H hH
theorem Holds.tk {κ α:Type} {K:κ→α→SP} {a:κ} {x:α} {H:Hp} [t:Tk L K a x R] (h:Holds L H):Holds (ent K a x::R) H:=⟨h.ok,t.h _ h.s⟩
theorem mU {i a:Nat} {cs:List AVal} {v:AVal} {H:Hp} [t:Tk L z8 i cs R] (hv:cs[a]? =some v) (h:Holds L H):H.read1 i a=some v:=by
 have hl:a<cs.length:=(List.getElem?_eq_some_iff.1 hv).1
 rw [(h.tk (K:=z8)).s.row.rd hl]
 unfold ul;rw [hv];rfl
theorem yS {i a n:Nat} {cs vs:List AVal} {H:Hp} [t:Tk L z8 i cs R] (hv:(cs.drop a).take n=vs) (hl:a+n≤cs.length) (h:Holds L H):H.read i a n=some vs:=by
 rw [(h.tk (K:=z8)).s.row.rdN hl,←hv]
 congr 1
 apply List.ext_getElem?
 intro j
 by_cases hj:j<n
 ·rw [zq _ _ _ _ hj,List.getElem?_take_of_lt hj,List.getElem?_drop,ZU (by omega)]
 rw [List.getElem?_eq_none (by rw [zo];omega),List.getElem?_eq_none (by simp;omega)]
theorem io {i a n:Nat} {f:Nat→AVal} {v:AVal} {H:Hp} [t:Tk L zI i (n,f) R] (hl:a<n) (hv:f a=v) (h:Holds L H):H.read1 i a=some v:=by
 rw [(h.tk (K:=zI)).s.rd hl,hv]
theorem aq {i a n m:Nat} {f:Nat→AVal} {vs:List AVal} {H:Hp} [t:Tk L zI i (m,f) R] (hl:a+n≤m) (hv:zY f a n=vs) (h:Holds L H):H.read i a n=some vs:=by
 rw [(h.tk (K:=zI)).s.rdN hl,hv]
def cV:List AVal→Nat→AVal→Option (List AVal)
 | [],_,_=>none
 |_::cs,0,v=>some (v::cs)
 |c::cs,n+1,v=>match cV cs n v with
  |some ds=>some (c::ds)
  |none=>none
theorem tn {v:AVal} : ∀ {cs ds:List AVal} {a:Nat},cV cs a v=some ds→a<cs.length∧ds.length=cs.length∧ ∀j,j<cs.length→ds[j]? =some (vK (ul cs) a v j):=by
 intro cs
 induction cs with
 |nil=>intro ds a h;cases h
 |cons c cs ih=>
  intro ds a h
  cases a with
  |zero=>
   cases h
   refine⟨by simp,rfl,fun j hj=> ?_⟩
   cases j with
   |zero=>rfl
   |succ j=>simp only [List.length_cons]at hj;simp [vK,ul,List.getElem?_eq_getElem (show j<cs.length by omega)]
  |succ a=>
   simp only [cV]at h
   split at h
   ·rename_i es he
    cases h
    obtain⟨h1,h2,h3⟩:=ih he
    refine⟨by simp;omega,by simp [h2],fun j hj=> ?_⟩
    cases j with
    |zero=>simp [vK,ul]
    |succ j=>
     have:=h3 j (by simpa using hj)
     simp only [List.getElem?_cons_succ,this,vK,ul,Nat.add_right_cancel_iff]
   cases h
theorem Holds.st {i a n:Nat} {f:Nat→AVal} {v:AVal} {H:Hp} (h:Holds (ent zI i (n,f)::R) H) (ha:a<n) (hv:v.isCell=true): ∃H',H.write1 i a v=some H'∧Holds (ent zI i (n,vK f a v)::R) H':=by
 obtain⟨p,q,h1,h2,h3,⟨c,w,h4,h7,h5⟩,h6⟩:=h.s
 have hi:H.t.get i=some (.cells true c w):=h2 _ _ h4
 have h7:n≤w:=h7
 have hb:(Nat.blt a w && v.isCell)=true:=by rw [hv,Bool.and_true];simpa [Nat.blt_eq] using Nat.lt_of_lt_of_le ha h7
 refine⟨H.put i (.cells true (c.set a v) w),by simp only [Hp.write1,hi,hb,cond_true],h.put (y:=(n,vK f a v)) hi (fun g hg=>by obtain⟨c,w,h,_⟩:=hg;exact⟨_,h⟩) fun g hg=>⟨c.set a v,w,hg,h7,fun j hj=> ?_⟩⟩
 show(c.set a v).get j=some (if j=a then v else f j)
 rw [Tr.get_set]
 by_cases e:j=a
 ·rw [if_pos e,if_pos e]
 rw [if_neg e,if_neg e];exact h5 j hj
theorem Holds.stN {i a n:Nat} {f:Nat→AVal} {vs:List AVal} {H:Hp} (h:Holds (ent zI i (n,f)::R) H) (ha:a+vs.length≤n) (hv:yL vs=true): ∃H',H.write i a vs=some H'∧Holds (ent zI i (n,vL f a vs)::R) H':=by
 obtain⟨p,q,h1,h2,h3,⟨c,w,h4,h7,h5⟩,h6⟩:=h.s
 have hi:H.t.get i=some (.cells true c w):=h2 _ _ h4
 have h7:n≤w:=h7
 have hb:(Nat.ble (a+vs.length) w && yL vs)=true:=by rw [hv,Bool.and_true];exact Nat.ble_eq_true_of_le (Nat.le_trans ha h7)
 refine⟨H.put i (.cells true (ud c a vs) w),by simp only [Hp.write,hi,hb,cond_true],h.put (y:=(n,vL f a vs)) hi (fun g hg=>by obtain⟨c,w,h,_⟩:=hg;exact⟨_,h⟩) fun g hg=>⟨_,w,hg,h7,fun j hj=> ?_⟩⟩
 show(ud c a vs).get j=some (vL f a vs j)
 rw [jk]
 unfold vL
 by_cases h3:a≤j∧j<a+vs.length
 ·rw [if_pos h3,if_pos h3.1,List.getElem?_eq_getElem (show j-a<vs.length by omega)];rfl
 rw [if_neg h3,h5 j hj]
 by_cases h4:a≤j
 ·rw [if_pos h4,List.getElem?_eq_none (by omega)];rfl
 rw [if_neg h4]
theorem Holds.toF {i:Nat} {cs:List AVal} {H:Hp} (h:Holds (ent z8 i cs::R) H):Holds (ent zI i (cs.length,ul cs)::R) H:=⟨h.ok,h.s.row⟩
theorem DV {t:TypeId} {x y:Operand} {i a:Nat} {v:AVal} {cs ds:List AVal} [S1 P t] [tk:Tk L z8 i cs R] (hw:zJ ops T o=some true) (ho:o.op= .store t x y) (hx:opnd T x=some (.ptr (some (i,a)))) (hy:opnd T y=some v) (hc:v.cells= [v]) (hv:v.isCell=true) (hs:cV cs a v=some ds)
 (k:WO P F hook ops l (ze T o.dst unit) (ent z8 i ds::R) Q):WO P F hook ops (o::l) T L Q:=by
 intro H hH
 obtain⟨h1,h2,h3⟩:=tn hs
 obtain⟨H',g1,g2⟩:=(Holds.toF ⟨hH.ok,tk.h _ hH.s⟩).st h1 hv
 exact qQ hw (BQ ho hx hy hc g1) (k H' ⟨g2.ok,g2.s.cons (J6 h2.symm fun j hj=>h3 j (by omega)) fun _ e=>e⟩)
theorem BZ {t:TypeId} {x y:Operand} {i a n:Nat} {v:AVal} {f:Nat→AVal} [S1 P t] [tk:Tk L zI i (n,f) R] (hw:zJ ops T o=some true) (ho:o.op= .store t x y) (hx:opnd T x=some (.ptr (some (i,a)))) (hy:opnd T y=some v) (hc:v.cells= [v]) (hv:v.isCell=true) (hl:a<n)
 (k:WO P F hook ops l (ze T o.dst unit) (ent zI i (n,vK f a v)::R) Q):WO P F hook ops (o::l) T L Q:=by
 intro H hH
 obtain⟨H',g1,g2⟩:=(Holds.st (R:=R) ⟨hH.ok,tk.h _ hH.s⟩ hl hv)
 exact qQ hw (BQ ho hx hy hc g1) (k H' g2)
def G8:List AVal→Nat→List AVal→Option (List AVal)
 |cs,0,[]=>some cs
 | [],0,_::_=>none
 |_::cs,0,v::vs=>match G8 cs 0 vs with
  |some ds=>some (v::ds)
  |none=>none
 | [],_+1,_=>none
 |c::cs,n+1,vs=>match G8 cs n vs with
  |some ds=>some (c::ds)
  |none=>none
theorem dx: ∀ {cs ds vs:List AVal} {a:Nat},G8 cs a vs=some ds→a+vs.length≤cs.length∧ds.length=cs.length∧ ∀j,j<cs.length→ds[j]? =some (vL (ul cs) a vs j):=by
 intro cs
 induction cs with
 |nil=>
  intro ds vs a h
  cases a<;>cases vs<;>cases h
  exact⟨by simp,rfl,fun j hj=>by simp at hj⟩
 |cons c cs ih=>
  intro ds vs a h
  cases a with
  |zero=>
   cases vs with
   |nil=>
    cases h
    refine⟨by simp,rfl,fun j hj=> ?_⟩
    rw [ZU hj];simp [vL]
   |cons v vs=>
    simp only [G8]at h
    split at h
    ·rename_i es he
     cases h
     obtain⟨h1,h2,h3⟩:=ih he
     refine⟨by simp at h1 ⊢;omega,by simp [h2],fun j hj=> ?_⟩
     cases j with
     |zero=>simp [vL]
     |succ j=>
      have:=h3 j (by simpa using hj)
      simp only [List.getElem?_cons_succ,this,vL,ul,Nat.zero_le,if_pos,Nat.sub_zero]
    cases h
  |succ a=>
   simp only [G8]at h
   split at h
   ·rename_i es he
    cases h
    obtain⟨h1,h2,h3⟩:=ih he
    refine⟨by simp;omega,by simp [h2],fun j hj=> ?_⟩
    cases j with
    |zero=>simp [vL,ul]
    |succ j=>
     have:=h3 j (by simpa using hj)
     simp only [List.getElem?_cons_succ,this,vL,ul,Nat.add_le_add_iff_right,Nat.add_sub_add_right]
   cases h
theorem Cn {t:TypeId} {x y:Operand} {i a n:Nat} {v:AVal} {cs ds:List AVal} [SN P t n] [tk:Tk L z8 i cs R] (hw:zJ ops T o=some true) (ho:o.op= .store t x y) (hx:opnd T x=some (.ptr (some (i,a)))) (hy:opnd T y=some v) (hc:v.cells.length=n) (hv:yL v.cells=true) (hs:G8 cs a v.cells=some ds)
 (k:WO P F hook ops l (ze T o.dst unit) (ent z8 i ds::R) Q):WO P F hook ops (o::l) T L Q:=by
 intro H hH
 obtain⟨h1,h2,h3⟩:=dx hs
 obtain⟨H',g1,g2⟩:=(Holds.toF ⟨hH.ok,tk.h _ hH.s⟩).stN h1 hv
 exact qQ hw (od ho hx hy hc g1) (k H' ⟨g2.ok,g2.s.cons (J6 h2.symm fun j hj=>h3 j (by omega)) fun _ e=>e⟩)
theorem QD {t:TypeId} {x y:Operand} {i a n m:Nat} {v:AVal} {f:Nat→AVal} [SN P t n] [tk:Tk L zI i (m,f) R] (hw:zJ ops T o=some true) (ho:o.op= .store t x y) (hx:opnd T x=some (.ptr (some (i,a)))) (hy:opnd T y=some v) (hc:v.cells.length=n) (hv:yL v.cells=true) (hl:a+n≤m)
 (k:WO P F hook ops l (ze T o.dst unit) (ent zI i (m,vL f a v.cells)::R) Q):WO P F hook ops (o::l) T L Q:=by
 intro H hH
 obtain⟨H',g1,g2⟩:=(Holds.stN (R:=R) ⟨hH.ok,tk.h _ hH.s⟩ (a:=a) (vs:=v.cells) (by omega) hv)
 exact qQ hw (od ho hx hy hc g1) (k H' g2)
theorem Holds.new {H:Hp} (h:Holds L H) (cs:List AVal):Holds (ent z8 H.next cs::L) (wC H cs):=by
 refine h.alloc fun f hf=>⟨Tr.ofList cs 0 .nil,_,hf,Nat.le_refl _,fun j hj=> ?_⟩
 rw [Tr.get_ofList,if_pos (by omega),Nat.sub_zero]
theorem yW {t:TypeId} {x:Operand} {v:AVal} (hw:zJ ops T o=some true) (ho:o.op= .box t x) (hx:opnd T x=some v) (ht:v.isTuple=false) (k: ∀i,WO P F hook ops l (ze T o.dst (.ptr (some (i,0)))) (ent z8 i v.cells::L) Q):WO P F hook ops (o::l) T L Q:=
 fun H hH=>qQ hw (ow ho hx ht) (k _ _ (hH.new _))
theorem zd {t:TypeId} {v:AVal} [hz:ZV P t v] (hw:zJ ops T o=some true) (ho:o.op= .alloc t) (ht:v.isTuple=false) (k: ∀i,WO P F hook ops l (ze T o.dst (.ptr (some (i,0)))) (ent z8 i v.cells::L) Q):WO P F hook ops (o::l) T L Q:=
 fun H hH=>qQ hw (mv ho ht) (k _ _ (hH.new _))
theorem zT {t:TypeId} {len sz:Nat} {z:AVal} {parts:Array (Nat×Operand)} {cs:List AVal} {pl:List (Nat×AVal)} [hs:BS P t sz z] (hw:zJ ops T o=some true) (ho:o.op= .buildSlice t len parts) (hp:wT T parts.toList=some pl) (hl:len*sz≤65536)
 (hf:ZB (fun i=>some (i*sz,sz)) (yA z.cells len) pl=some cs) (k: ∀i,WO P F hook ops l (ze T o.dst (.slice (some (i,0)) len (some len) sz)) (ent z8 i cs::L) Q):WO P F hook ops (o::l) T L Q:=
 fun H hH=>qQ hw (JD ho hp hl hf) (k _ _ (hH.new _))
theorem Gh {t:TypeId} [hM:MT P t] (hw:zJ ops T o=some true) (ho:o.op= .makeMap t none) (k: ∀i,WO P F hook ops l (ze T o.dst (.map (some i))) (ent GZ i []::L) Q):WO P F hook ops (o::l) T L Q:=by
 intro H hH
 obtain⟨kt,et,h1⟩:=hM.h
 exact qQ hw (v:= .map (some H.next)) (H':=H.alloc (.map [] 0)) (by simp only [yJ,ho,uI,h1];rfl) (k _ _ (hH.alloc fun f hf=>⟨[],0,hf,.nil⟩))
theorem pM {t:TypeId} [hM:MT P t] (hw:zJ ops T o=some true) (ho:o.op= .makeMap t none) (k: ∀i,WO P F hook ops l (ze T o.dst (.map (some i))) (ent U8 i []::L) Q):WO P F hook ops (o::l) T L Q:=by
 intro H hH
 obtain⟨kt,et,h1⟩:=hM.h
 exact qQ hw (v:= .map (some H.next)) (H':=H.alloc (.map [] 0)) (by simp only [yJ,ho,uI,h1];rfl) (k _ _ (hH.alloc fun f hf=>⟨[],0,hf,rfl⟩))
theorem o_call {f:FuncId} {as:List AVal} {Q':AVal→List SP→Prop} (hc:SW P F hook f as L Q') (hw:zJ ops T o=some true) (ha: ∀H,yJ P F T H o=some (.call f as)) (k: ∀v L',Q' v L'→WO P F hook ops l (ze T o.dst v) L' Q):WO P F hook ops (o::l) T L Q:=
 fun H hH=>am hw (ha H) (hc H hH) fun v H' ⟨L',h1,h2⟩=>k v L' h1 H' h2
theorem yG {f:FuncId} {as:List AVal} {κ1 α1:Type} {K1:κ1→α1→SP} {a1:κ1} {x1:α1} {Q':AVal→List SP→Prop} [t1:Tk L K1 a1 x1 R] (hc:SW P F hook f as (ent K1 a1 x1::R) Q') (hw:zJ ops T o=some true) (ha: ∀H,yJ P F T H o=some (.call f as)) (k: ∀v L',Q' v L'→WO P F hook ops l (ze T o.dst v) L' Q):WO P F hook ops (o::l) T L Q:=
 o_call (fun H hH=>hc H hH.tk) hw ha k
theorem Holds.tk2 {κ α κ2 α2:Type} {K:κ→α→SP} {a:κ} {x:α} {K2:κ2→α2→SP} {a2:κ2} {x2:α2} {R2:List SP} {H:Hp} [t:Tk L K a x R] [t2:Tk R K2 a2 x2 R2] (h:Holds L H):Holds (ent K a x::ent K2 a2 x2::R2) H:=⟨h.ok,(t.h _ h.s).cons (fun _ e=>e) t2.h⟩
theorem Yc {f:FuncId} {as:List AVal} {κ1 α1:Type} {K1:κ1→α1→SP} {a1:κ1} {x1:α1} {κ2 α2:Type} {K2:κ2→α2→SP} {a2:κ2} {x2:α2} {R2:List SP} {Q':AVal→List SP→Prop} [t1:Tk L K1 a1 x1 R] [t2:Tk R K2 a2 x2 R2] (hc:SW P F hook f as (ent K1 a1 x1::ent K2 a2 x2::R2) Q')
 (hw:zJ ops T o=some true) (ha: ∀H,yJ P F T H o=some (.call f as)) (k: ∀v L',Q' v L'→WO P F hook ops l (ze T o.dst v) L' Q):WO P F hook ops (o::l) T L Q:=
 o_call (fun H hH=>hc H hH.tk2) hw ha k
theorem Holds.tk3 {κ α κ2 α2 κ3 α3:Type} {K:κ→α→SP} {a:κ} {x:α} {K2:κ2→α2→SP} {a2:κ2} {x2:α2} {R2:List SP} {K3:κ3→α3→SP} {a3:κ3} {x3:α3} {R3:List SP} {H:Hp} [t:Tk L K a x R] [t2:Tk R K2 a2 x2 R2] [t3:Tk R2 K3 a3 x3 R3] (h:Holds L H):Holds (ent K a x::ent K2 a2 x2::ent K3 a3 x3::R3) H:=
 ⟨h.ok,(t.h _ h.s).cons (fun _ e=>e) fun _ e=>(t2.h _ e).cons (fun _ e=>e) t3.h⟩
theorem oS {f:FuncId} {as:List AVal} {κ1 α1:Type} {K1:κ1→α1→SP} {a1:κ1} {x1:α1} {κ2 α2:Type} {K2:κ2→α2→SP} {a2:κ2} {x2:α2} {R2:List SP} {κ3 α3:Type} {K3:κ3→α3→SP} {a3:κ3} {x3:α3} {R3:List SP} {Q':AVal→List SP→Prop} [t1:Tk L K1 a1 x1 R] [t2:Tk R K2 a2 x2 R2] [t3:Tk R2 K3 a3 x3 R3]
 (hc:SW P F hook f as (ent K1 a1 x1::ent K2 a2 x2::ent K3 a3 x3::R3) Q') (hw:zJ ops T o=some true) (ha: ∀H,yJ P F T H o=some (.call f as)) (k: ∀v L',Q' v L'→WO P F hook ops l (ze T o.dst v) L' Q):WO P F hook ops (o::l) T L Q:=
 o_call (fun H hH=>hc H hH.tk3) hw ha k
theorem Holds.tk4 {κ α κ2 α2 κ3 α3 κ4 α4:Type} {K:κ→α→SP} {a:κ} {x:α} {K2:κ2→α2→SP} {a2:κ2} {x2:α2} {R2:List SP} {K3:κ3→α3→SP} {a3:κ3} {x3:α3} {R3:List SP} {K4:κ4→α4→SP} {a4:κ4} {x4:α4} {R4:List SP} {H:Hp} [t:Tk L K a x R] [t2:Tk R K2 a2 x2 R2] [t3:Tk R2 K3 a3 x3 R3] [t4:Tk R3 K4 a4 x4 R4] (h:Holds L H):Holds (ent K a x::ent K2 a2 x2::ent K3 a3 x3::ent K4 a4 x4::R4) H:=
 ⟨h.ok,(t.h _ h.s).cons (fun _ e=>e) fun _ e=>(t2.h _ e).cons (fun _ e=>e) fun _ e=>(t3.h _ e).cons (fun _ e=>e) t4.h⟩
theorem je {f:FuncId} {as:List AVal} {κ1 α1:Type} {K1:κ1→α1→SP} {a1:κ1} {x1:α1} {κ2 α2:Type} {K2:κ2→α2→SP} {a2:κ2} {x2:α2} {R2:List SP} {κ3 α3:Type} {K3:κ3→α3→SP} {a3:κ3} {x3:α3} {R3:List SP} {κ4 α4:Type} {K4:κ4→α4→SP} {a4:κ4} {x4:α4} {R4:List SP} {Q':AVal→List SP→Prop} [t1:Tk L K1 a1 x1 R] [t2:Tk R K2 a2 x2 R2] [t3:Tk R2 K3 a3 x3 R3] [t4:Tk R3 K4 a4 x4 R4]
 (hc:SW P F hook f as (ent K1 a1 x1::ent K2 a2 x2::ent K3 a3 x3::ent K4 a4 x4::R4) Q') (hw:zJ ops T o=some true) (ha: ∀H,yJ P F T H o=some (.call f as)) (k: ∀v L',Q' v L'→WO P F hook ops l (ze T o.dst v) L' Q):WO P F hook ops (o::l) T L Q:=
 o_call (fun H hH=>hc H hH.tk4) hw ha k
variable {x:It} {m:List It}
theorem z5 (h:Q T L):WK P F ops [] T L Q:=fun _ hH=>⟨L,h,hH⟩
theorem vN {v:AVal} (hw:zJ ops T x.o=some true) (ha: ∀H,yJ P F T H x.o=some (.val v H)) (h:WK P F ops m (ze T x.o.dst v) L Q):WK P F ops (x::m) T L Q:=fun H hH=>rB hw (ha H) (h H hH)
theorem uW {v:AVal} (hw:zJ ops T x.o=some true) (ha: ∀H,Holds L H→yJ P F T H x.o=some (.val v H)) (h:WK P F ops m (ze T x.o.dst v) L Q):WK P F ops (x::m) T L Q:=fun H hH=>rB hw (ha H hH) (h H hH)
theorem C9 (hw:zJ ops T x.o=some false) (h:WK P F ops m (ze T x.o.dst unit) L Q):WK P F ops (x::m) T L Q:=fun H hH=>B9 hw (h H hH)
theorem ky {t:TypeId} {y:Operand} {v:AVal} (hw:zJ ops T x.o=some true) (ho:x.o.op= .box t y) (hx:opnd T y=some v) (ht:v.isTuple=false) (k: ∀i,WK P F ops m (ze T x.o.dst (.ptr (some (i,0)))) (ent z8 i v.cells::L) Q):WK P F ops (x::m) T L Q:=
 fun H hH=>kL (by rw [ho];rfl) hw (ow ho hx ht) (k _ _ (hH.new _))
theorem Vv {t:TypeId} {v:AVal} [hz:ZV P t v] (hw:zJ ops T x.o=some true) (ho:x.o.op= .alloc t) (ht:v.isTuple=false) (k: ∀i,WK P F ops m (ze T x.o.dst (.ptr (some (i,0)))) (ent z8 i v.cells::L) Q):WK P F ops (x::m) T L Q:=
 fun H hH=>kL (by rw [ho];rfl) hw (mv ho ht) (k _ _ (hH.new _))
theorem va {t:TypeId} {len sz:Nat} {z:AVal} {parts:Array (Nat×Operand)} {cs:List AVal} {pl:List (Nat×AVal)} [hs:BS P t sz z] (hw:zJ ops T x.o=some true) (ho:x.o.op= .buildSlice t len parts) (hp:wT T parts.toList=some pl) (hl:len*sz≤65536)
 (hf:ZB (fun i=>some (i*sz,sz)) (yA z.cells len) pl=some cs) (k: ∀i,WK P F ops m (ze T x.o.dst (.slice (some (i,0)) len (some len) sz)) (ent z8 i cs::L) Q):WK P F ops (x::m) T L Q:=
 fun H hH=>kL (by rw [ho];rfl) hw (JD ho hp hl hf) (k _ _ (hH.new _))
theorem z6:WA P F ops [] T L:=fun _ _=>Am
theorem vF {v u:AVal} {d:Tmp} (hw:zJ ops T x.o=some true) (ha: ∀H,yJ P F T H x.o=some (.val v H)) (hd:x.o.dst=some d) (hu:Tm.get d T=some u) (he:Yw u v=true) (h:WA P F ops m T L):WA P F ops (x::m) T L:=fun H hH=>lU hw (ha H) hd hu he (h H hH)
theorem wV {v u:AVal} {d:Tmp} (hw:zJ ops T x.o=some true) (ha: ∀H,Holds L H→yJ P F T H x.o=some (.val v H)) (hd:x.o.dst=some d) (hu:Tm.get d T=some u) (he:Yw u v=true) (h:WA P F ops m T L):WA P F ops (x::m) T L:=fun H hH=>lU hw (ha H hH) hd hu he (h H hH)
theorem zx (hw:zJ ops T x.o=some false) (h:WA P F ops m T L):WA P F ops (x::m) T L:=fun H hH=>AT hw (h H hH)
end
def zP {α:Type} (en:α→List AVal) (es:Nat) (v:AVal) (xs:List α):SP:=fun h=>xw h v es (xs.flatMap en)∧(∀x,(en x).length=es)∧0<es
def o5:AVal→Nat
 | .slice (some (i,_)) _ _ _=>i
 |_=>0
def oK:AVal→Nat
 | .slice (some (_,o)) _ _ _=>o
 |_=>0
def mQ:AVal→Nat
 | .slice _ n _ _=>n
 |_=>0
theorem xw.n {h:yc} {es:Nat} {v:AVal} {cs:List AVal} (s:xw h v es cs):cs.length=mQ v*es:=by
 cases s with
 |nil e es=>simp [mQ]
 |emp i off es=>simp [mQ]
 |own i off len n es f cs hr hn hc=>rw [hc,zo];rfl
 |part i off len cap n es f cs hr hn hl hc=>rw [hc,zo];rfl
section
variable {α:Type} {en:α→List AVal} {es:Nat} {xs:List α}
theorem qW (he: ∀x,(en x).length=es) (xs:List α):(xs.flatMap en).length=xs.length*es:=by
 induction xs with
 |nil=>simp
 |cons x xs ih=>simp [ih,he,Nat.add_mul,Nat.add_comm]
theorem j0 (he: ∀x,(en x).length=es): ∀(xs:List α) (k j:Nat) (x:α),xs[k]? =some x→j<es→(xs.flatMap en)[k*es+j]? =(en x)[j]? :=by
 intro xs
 induction xs with
 |nil=>intro k j x h;simp at h
 |cons y xs ih=>
  intro k j x h hj
  rw [List.flatMap_cons]
  cases k with
  |zero=>simp at h;subst h;rw [Nat.zero_mul,Nat.zero_add,List.getElem?_append_left (by rw [he];exact hj)]
  |succ k=>
   rw [Nat.add_mul,List.getElem?_append_right (by rw [he];omega),he,←ih k j x (by simpa using h) hj]
   congr 1;omega
theorem uN {v:AVal} {h:yc} (s:zP en es v xs h):mQ v=xs.length:=by
 obtain⟨h1,h2,h3⟩:=s
 have:=h1.n
 rw [qW h2]at this
 exact(Nat.eq_of_mul_eq_mul_right h3 this).symm
theorem xw.shape {h:yc} {v:AVal} {cs:List AVal} (s:xw h v es cs): ∃a n c e,v= .slice a n c e:=by
 cases s with
 |nil e es=>exact⟨_,_,_,_,rfl⟩
 |emp i off es=>exact⟨_,_,_,_,rfl⟩
 |own i off len n es f cs hr hn hc=>exact⟨_,_,_,_,rfl⟩
 |part i off len cap n es f cs hr hn hl hc=>exact⟨_,_,_,_,rfl⟩
theorem gp {v:AVal} {h:yc} (s:zP en es v xs h): ∃a c e,v= .slice a xs.length c e:=by
 obtain⟨a,n,c,e,rfl⟩:=s.1.shape
 have:=uN s
 exact⟨a,c,e,by rw [←this];rfl⟩
theorem Qb {h h':yc} (l:h.le h') {v:AVal} (s:zP en es v xs h):zP en es v xs h':=⟨s.1.mono l,s.2⟩
theorem xw.row {h:yc} {v:AVal} {cs:List AVal} (s:xw h v es cs) (hn:cs≠ []): ∃i off len c n f,v= .slice (some (i,off)) len c es∧zI i (n,f) h∧off+len*es≤n∧cs=zY f off (len*es):=by
 cases s with
 |nil e es=>exact absurd rfl hn
 |emp i off es=>exact absurd rfl hn
 |own i off len n es f cs hr hn hc=>exact⟨i,off,len,none,n,f,rfl,hr,hn,hc⟩
 |part i off len cap n es f cs hr hn hl hc=>exact⟨i,off,len,some cap,n,f,rfl,hr,by have:=Nat.mul_le_mul_right es hl;omega,hc⟩
end
class GH {α:outParam Type} (L:List SP) (v:AVal) (en:outParam (α→List AVal)) (es:outParam Nat) (xs:outParam (List α)) (R:outParam (List SP)):Prop where
 h: ∀f,yd L f→yd (ent (zP en es) v xs::R) f
 b: ∀f,yd (ent (zP en es) v xs::R) f→yd L f
instance Bc {α:Type} (en:α→List AVal) (es:Nat) (v:AVal) (xs:List α) (L:List SP):GH (ent (zP en es) v xs::L) v en es xs L:=⟨fun _ s=>s,fun _ s=>s⟩
instance BH {α:Type} (p:SP) (L:List SP) (v:AVal) (en:α→List AVal) (es:Nat) (xs:List α) (R:List SP) [t:GH L v en es xs R]:GH (p::L) v en es xs (p::R):=
 ⟨fun _ s=>(s.cons (fun _ e=>e) t.h).swap,fun _ s=>s.swap.cons (fun _ e=>e) t.b⟩
section
variable {P:Program} {F:z9} {hook:yZ} {ops:Array Oper} {o:Oper} {l:List Oper} {T:Tm} {L R:List SP} {Q:Tm→List SP→Prop} {H:Hp}
variable {α:Type} {en:α→List AVal} {es:Nat} {xs:List α} {v:AVal}
theorem Zp {t:TypeId} {y:Operand} {i a:Nat} {v:AVal} {cs:List AVal} [L1 P t] [Tk L z8 i cs R] (ho:o.op= .load t y) (hx:opnd T y=some (.ptr (some (i,a)))) (hv:cs[a]? =some v) (h:Holds L H):yJ P F T H o=some (.val v H):=sD ho hx (mU hv h)
theorem VE {t:TypeId} {y:Operand} {i a n:Nat} {v:AVal} {f:Nat→AVal} [L1 P t] [Tk L zI i (n,f) R] (ho:o.op= .load t y) (hx:opnd T y=some (.ptr (some (i,a)))) (hl:a<n) (hv:f a=v) (h:Holds L H):yJ P F T H o=some (.val v H):=sD ho hx (io hl hv h)
theorem rD {t:TypeId} {y:Operand} {i a n:Nat} {vs:List AVal} {cs:List AVal} [LN P t n] [Tk L z8 i cs R] (ho:o.op= .load t y) (hx:opnd T y=some (.ptr (some (i,a)))) (hv:(cs.drop a).take n=vs) (hl:a+n≤cs.length) (h:Holds L H):yJ P F T H o=some (.val (.agg vs) H):=lV ho hx (yS hv hl h)
theorem wF {t:TypeId} {y:Operand} {i a n m:Nat} {vs:List AVal} {f:Nat→AVal} [LN P t n] [Tk L zI i (m,f) R] (ho:o.op= .load t y) (hx:opnd T y=some (.ptr (some (i,a)))) (hl:a+n≤m) (hv:zY f a n=vs) (h:Holds L H):yJ P F T H o=some (.val (.agg vs) H):=lV ho hx (aq hl hv h)
theorem Holds.el [t:GH L v en es xs R] (h:Holds L H):zP en es v xs fun k=>H.t.get k:=by
 obtain⟨a,b,h1,h2,h3,h4,h5⟩:=t.h _ h.s
 exact Qb h2 h4
theorem y0 {c:Call} {t:TypeId} {ts:List TypeId} {x:Operand} {sz:Nat} [hs:SL P t sz] [GH L v en es xs R] (ho:o.op= .call c) (hc:c.callee= .builtin .len) (ht:c.argTypes.toList=t::ts) (ha:c.args.toList= [x]) (hx:opnd T x=some v) (h:Holds L H):
 yJ P F T H o=some (.val (.int .i64 (.lit ((xs.length:Nat):Int))) H):=by
 obtain⟨a,c,e,rfl⟩:=gp (h.el (en:=en) (es:=es) (v:=v) (xs:=xs))
 exact wD ho hc ht ha hx
theorem yM {t:TypeId} {x y:Operand} {k:IntKind} {z:Int} {sz:Nat} [hs:SL P t sz] [GH L v en es xs R] (ho:o.op= .indexAddr t x y) (hx:opnd T x=some v) (hy:opnd T y=some (.int k (.lit z))) (hz:0≤z) (hl:z<(xs.length:Nat)) (h:Holds L H):
 yJ P F T H o=some (.val (.ptr (some (o5 v,z.toNat*sz+oK v))) H):=by
 have he:=h.el (en:=en) (es:=es) (v:=v) (xs:=xs)
 have hlen:=uN he
 obtain⟨i,off,len,c,n,f,rfl,_⟩:=he.1.row (fun e=>by
  have:=qW he.2.1 xs
  rw [e]at this
  have h0:xs.length*es=0:=this.symm
  rcases Nat.mul_eq_zero.1 h0 with h0|h0
  ·omega
  have:=he.2.2;omega)
 have hlen':len=xs.length:=hlen
 exact vQ ho hx hy hz (by omega)
theorem Af [GH L v en es xs R] {k j a:Nat} {x:α} {w:AVal} (ha:a=k*es+oK v+j) (hk:xs[k]? =some x) (hj:(en x)[j]? =some w) (h:Holds L H):H.read1 (o5 v) a=some w:=by
 have he:=h.el (en:=en) (es:=es) (v:=v) (xs:=xs)
 have hlen:=uN he
 have hkl:=(List.getElem?_eq_some_iff.1 hk).1
 have hjl:j<es:=by have:=(List.getElem?_eq_some_iff.1 hj).1;rw [he.2.1]at this;exact this
 have hm:k*es+j<xs.length*es:=by
  have:(k+1)*es≤xs.length*es:=Nat.mul_le_mul_right es hkl
  rw [Nat.add_mul]at this;omega
 obtain⟨i,off,len,c,n,f,rfl,⟨r,w',h1,hw',h2⟩,h3,h4⟩:=he.1.row (fun e=>by
  have:=qW he.2.1 xs
  rw [e]at this
  simp at this;omega)
 have hlen':len=xs.length:=hlen
 subst hlen'
 have h5:=j0 he.2.1 xs k j x hk hjl
 rw [h4,zq _ _ _ _ hm,hj]at h5
 have h6:H.t.get i=some (.cells true r w'):=h1
 have e:a=off+(k*es+j):=by subst ha;show k*es+off+j=_;omega
 show H.read1 i a=some w
 unfold Hp.read1
 rw [h6,e]
 simp only
 rw [h2 _ (by omega)]
 exact h5
theorem sr [GH L v en es xs R] {k a:Nat} {x:α} (ha:a=k*es+oK v) (hk:xs[k]? =some x) (h:Holds L H):H.read (o5 v) a es=some (en x):=by
 have he:=h.el (en:=en) (es:=es) (v:=v) (xs:=xs)
 have hlen:=uN he
 have hkl:=(List.getElem?_eq_some_iff.1 hk).1
 have hm:k*es+es≤xs.length*es:=by
  have:(k+1)*es≤xs.length*es:=Nat.mul_le_mul_right es hkl
  rw [Nat.add_mul]at this;omega
 obtain⟨i,off,len,c,n,f,rfl,⟨r,w',h1,hw',h2⟩,h3,h4⟩:=he.1.row (fun e=>by
  have:=qW he.2.1 xs
  rw [e]at this
  simp at this;have:=he.2.2;omega)
 have hlen':len=xs.length:=hlen
 subst hlen'
 have h6:H.t.get i=some (.cells true r w'):=h1
 have e:a=off+k*es:=by subst ha;show k*es+off=_;omega
 show H.read i a es=_
 have hr:H.read i (off+k*es) es=some (zY f (off+k*es) es):=by
  simp only [Hp.read,h6]
  exact vV h2 _ _ (by omega)
 rw [e,hr]
 congr 1
 apply List.ext_getElem?
 intro j
 by_cases hj:j<es
 ·rw [zq _ _ _ _ hj,←j0 he.2.1 xs k j x hk hj,h4,zq _ _ _ _ (by omega),Nat.add_assoc]
 rw [List.getElem?_eq_none (by rw [zo];omega),List.getElem?_eq_none (by rw [he.2.1];omega)]
theorem qo {t:TypeId} {y:Operand} {k j a:Nat} {x:α} {w:AVal} [L1 P t] [GH L v en es xs R] (ho:o.op= .load t y) (hx:opnd T y=some (.ptr (some (o5 v,a)))) (ha:a=k*es+oK v+j) (hk:xs[k]? =some x) (hj:(en x)[j]? =some w) (h:Holds L H):yJ P F T H o=some (.val w H):=sD ho hx (Af ha hk hj h)
theorem Wo {t:TypeId} {y:Operand} {k a:Nat} {x:α} [LN P t es] [GH L v en es xs R] (ho:o.op= .load t y) (hx:opnd T y=some (.ptr (some (o5 v,a)))) (ha:a=k*es+oK v) (hk:xs[k]? =some x) (h:Holds L H):yJ P F T H o=some (.val (.agg (en x)) H):=lV ho hx (sr ha hk h)
end
def dv (l:List (Int×Int)):List (Int×AVal):=l.map fun p=>(p.1,.int .i64 (.lit p.2))
def ym (l:List (Int×Int)) (z:Int):Option Int:=match l with
 | []=>none
 |p::l=>if p.1=z then some p.2 else ym l z
def insi (l:List (Int×Int)) (z v:Int):List (Int×Int):=match l with
 | []=> [(z,v)]
 |p::l=>if p.1=z then(z,v)::l else p::insi l z v
def Zy (l:List (Int×Int)) (z:Int):List (Int×Int):=match l with
 | []=> []
 |p::l=>if p.1=z then l else p::Zy l z
theorem mC (l:List (Int×Int)) (z:Int):fT (dv l) z=(ym l z).map fun x=> .int .i64 (.lit x):=by
 induction l with
 |nil=>rfl
 |cons p l ih=>simp only [dv,List.map_cons,fT,ym]at ih ⊢;split<;>simp [ih]
theorem e6 (l:List (Int×Int)) (z v:Int):ins (dv l) z (.int .i64 (.lit v))=dv (insi l z v):=by
 induction l with
 |nil=>rfl
 |cons p l ih=>simp only [dv,List.map_cons,ins,insi]at ih ⊢;split<;>simp [ih]
theorem oB (l:List (Int×Int)) (z:Int):del (dv l) z=dv (Zy l z):=by
 induction l with
 |nil=>rfl
 |cons p l ih=>simp only [dv,List.map_cons,del,Zy]at ih ⊢;split<;>simp [ih]
theorem xH (l:List (Int×Int)) (z v y:Int):ym (insi l z v) y=if y=z then some v else ym l y:=by
 induction l with
 |nil=>simp only [insi,ym];split<;>split<;>first|rfl|(exfalso;omega)
 |cons p l ih=>
  simp only [insi]
  by_cases e:p.1=z
  ·rw [if_pos e];simp only [ym]
   by_cases e2:z=y
   ·rw [if_pos e2,if_pos e2.symm]
   rw [if_neg e2,if_neg (fun h=>e2 h.symm),if_neg (by omega)]
  rw [if_neg e];simp only [ym,ih]
  by_cases e2:p.1=y
  ·rw [if_pos e2,if_neg (by omega),if_pos e2]
  rw [if_neg e2,if_neg e2]
def gP (i:Nat) (l:List (Int×Int)):SP:=GZ i (dv l)
section
variable {P:Program} {F:z9} {hook:yZ} {ops:Array Oper} {o:Oper} {l:List Oper} {T:Tm} {L R:List SP} {Q:Tm→List SP→Prop} {H:Hp}
theorem Holds.mp {i:Nat} {m:List (Int×AVal)} (h:Holds (ent GZ i m::R) H):Up H i m:=by
 obtain⟨a,b,h1,h2,h3,⟨es,c,h4,h5⟩,h6⟩:=h.s
 exact⟨es,c,h2 _ _ h4,h5⟩
theorem ua {t:TypeId} {x k:Operand} {i:Nat} {z:Int} {m:List (Int×Int)} [hM:MI P t (.int .i64 (.lit 0))] [tk:Tk L gP i m R] (ho:o.op= .lookup t x k false) (hx:opnd T x=some (.map (some i))) (hk:opnd T k=some (.int .i64 (.lit z))) (h:Holds L H):yJ P F T H o=some (.val (.int .i64 (.lit ((ym m z).getD 0))) H):=by
 rw [GC ho hx hk (Holds.mp (R:=R) (m:=dv m) ⟨h.ok,tk.h _ h.s⟩),cond_false,mC]
 cases ym m z<;>rfl
theorem jh {t:TypeId} {x k:Operand} {i:Nat} {z:Int} {m:List (Int×Int)} [hM:MI P t (.int .i64 (.lit 0))] [tk:Tk L gP i m R] (ho:o.op= .lookup t x k true) (hx:opnd T x=some (.map (some i))) (hk:opnd T k=some (.int .i64 (.lit z))) (h:Holds L H):yJ P F T H o=some (.val (.tuple [.int .i64 (.lit ((ym m z).getD 0)),.bool (ym m z).isSome]) H):=by
 rw [GC ho hx hk (Holds.mp (R:=R) (m:=dv m) ⟨h.ok,tk.h _ h.s⟩),cond_true,mC]
 cases ym m z<;>rfl
theorem ej {c:Call} {t:TypeId} {ts:List TypeId} {x:Operand} {i:Nat} {m:List (Int×Int)} [hM:MI P t (.int .i64 (.lit 0))] [tk:Tk L gP i m R] (ho:o.op= .call c) (hc:c.callee= .builtin .len) (ht:c.argTypes.toList=t::ts) (ha:c.args.toList= [x]) (hx:opnd T x=some (.map (some i))) (h:Holds L H):yJ P F T H o=some (.val (.int .i64 (.lit ((m.length:Nat):Int))) H):=by
 rw [Aa ho hc ht ha hx (Holds.mp (R:=R) (m:=dv m) ⟨h.ok,tk.h _ h.s⟩)]
 unfold dv;rw [List.length_map];rfl
theorem Holds.mput {i:Nat} {m m':List (Int×AVal)} {H':Hp} (h:Holds (ent GZ i m::R) H) (h1:Up H' i m') (h2:jy (· =i) H H'):Holds (ent GZ i m'::R) H':=by
 obtain⟨es,c,g1,g2⟩:=h1
 refine⟨h2.ok h.ok,h.s.isSome (i:=i) (fun f hf=> ?_) (o:= .map es c) (fun f hf=>⟨es,c,hf,g2⟩) _ g1 fun k hk z hz=>h2.same k z hk hz⟩
 obtain⟨es',c',k1,_⟩:=hf
 exact⟨_,k1⟩
theorem ge {t:TypeId} {m k x:Operand} {i:Nat} {z y:Int} {es:List (Int×Int)} [hM:MI P t (.int .i64 (.lit 0))] [tk:Tk L gP i es R] (hw:zJ ops T o=some true) (ho:o.op= .mapUpdate t m k x) (h1:opnd T m=some (.map (some i))) (h2:opnd T k=some (.int .i64 (.lit z))) (h3:opnd T x=some (.int .i64 (.lit y)))
 (kk:WO P F hook ops l (ze T o.dst unit) (ent gP i (insi es z y)::R) Q):WO P F hook ops (o::l) T L Q:=by
 intro H hH
 have h0:Holds (ent GZ i (dv es)::R) H:=⟨hH.ok,tk.h _ hH.s⟩
 obtain⟨H',g1,g2,g3,_⟩:=bl (P:=P) (F:=F) (m:=m) (k:=k) (x:=x) (z:=z) (v:= .int .i64 (.lit y)) (hM:=hM) h0.mp
 rw [e6]at g2
 exact qQ hw (g1 ho h1 h2 h3) (kk H' (h0.mput g2 g3))
theorem kA {t:TypeId} {c:Call} {ts:List TypeId} {m k:Operand} {i:Nat} {z:Int} {es:List (Int×Int)} [hM:MI P t (.int .i64 (.lit 0))] [tk:Tk L gP i es R] (hw:zJ ops T o=some true) (ho:o.op= .call c) (hc:c.callee= .builtin .delete) (ht:c.argTypes.toList=t::ts) (ha:c.args.toList= [m,k]) (h1:opnd T m=some (.map (some i))) (h2:opnd T k=some (.int .i64 (.lit z)))
 (kk:WO P F hook ops l (ze T o.dst unit) (ent gP i (Zy es z)::R) Q):WO P F hook ops (o::l) T L Q:=by
 intro H hH
 have h0:Holds (ent GZ i (dv es)::R) H:=⟨hH.ok,tk.h _ hH.s⟩
 obtain⟨H',g1,g2,g3,_⟩:=xC (P:=P) (F:=F) (m:=m) (k:=k) (z:=z) (hM:=hM) h0.mp
 rw [oB]at g2
 exact qQ hw (g1 ho hc ht ha h1 h2) (kk H' (h0.mput g2 g3))
theorem Holds.mw {i:Nat} {ks:List (Int×Int)} (h:Holds (ent U8 i ks::R) H):dp H i ks:=by
 obtain⟨a,b,h1,h2,h3,⟨es,c,h4,h5⟩,h6⟩:=h.s
 exact⟨es,c,h2 _ _ h4,h5⟩
theorem Jk {t:TypeId} {m k x:Operand} {i:Nat} {p:Int×Int} {v:AVal} {ks:List (Int×Int)} [hM:MW P t] [tk:Tk L U8 i ks R] (hw:zJ ops T o=some true) (ho:o.op= .mapUpdate t m k x) (h1:opnd T m=some (.map (some i))) (h2:opnd T k=some (kW p)) (h3:opnd T x=some v)
 (kk:WO P F hook ops l (ze T o.dst unit) (ent U8 i (VP ks p)::R) Q):WO P F hook ops (o::l) T L Q:=by
 intro H hH
 have h0:Holds (ent U8 i ks::R) H:=⟨hH.ok,tk.h _ hH.s⟩
 refine pI (hM:=hM) h0.mw ho hw h1 h2 h3 fun H' g1 g2 g3=>kk H' ?_
 obtain⟨es,c,q1,q2⟩:=g1
 refine⟨g2.ok hH.ok,h0.s.isSome (i:=i) (fun f hf=> ?_) (o:= .map es c) (fun f hf=>⟨es,c,hf,q2⟩) _ q1 fun k hk z hz=>g2.same k z hk hz⟩
 obtain⟨es',c',k1,_⟩:=hf
 exact⟨_,k1⟩
theorem iz {c:Call} {t:TypeId} {ts:List TypeId} {x:Operand} {i:Nat} {ks:List (Int×Int)} [hM:MW P t] [tk:Tk L U8 i ks R] (ho:o.op= .call c) (hc:c.callee= .builtin .len) (ht:c.argTypes.toList=t::ts) (ha:c.args.toList= [x]) (hx:opnd T x=some (.map (some i))) (h:Holds L H):yJ P F T H o=some (.val (.int .i64 (.lit ((ks.length:Nat):Int))) H):=
 s_lenW (Holds.mw (R:=R) ⟨h.ok,tk.h _ h.s⟩) ho hc ht ha hx
end
section
variable {L R:List SP} {H:Hp} {α:Type} {en:α→List AVal} {es:Nat} {xs ys:List α} {v w:AVal}
theorem Holds.tail {p:SP} (h:Holds (p::R) H):Holds R H:=⟨h.ok,h.s.tail⟩
theorem Holds.del {p:SP} {i:Nat} (h:Holds (p::R) H) (hp: ∀f,p f→ ∃y,f i=some y):Holds R ⟨H.t.del i,H.next⟩:=by
 obtain⟨a,b,h1,h2,h3,h4,h5⟩:=h.s
 obtain⟨y,hy⟩:=hp a h4
 have hb:b i=none:=(h1 i).resolve_left (by rw [hy];nofun)
 refine⟨fun k x hk=> ?_,h5.mono fun k x hk=> ?_⟩
 ·have hk':(H.t.del i).get k=some x:=hk
  rw [Tr.get_del]at hk'
  split at hk'
  ·cases hk'
  exact h.ok k x hk'
 show(H.t.del i).get k=some x
 rw [Tr.get_del,if_neg (fun e=>by subst e;rw [hb]at hk;cases hk)]
 exact h3 k x hk
theorem ZJ (cs:List AVal):zY (ul cs) 0 cs.length=cs:=by
 apply List.ext_getElem?
 intro i
 by_cases hi:i<cs.length
 ·rw [zq _ _ _ _ hi,Nat.zero_add,ZU hi]
 rw [List.getElem?_eq_none (by rw [zo];omega),List.getElem?_eq_none (by omega)]
theorem Holds.newEl (h:Holds R H) (he: ∀x,(en x).length=es) (h0:0<es) {cs:List AVal} (hc:cs=xs.flatMap en):Holds (ent (zP en es) (.slice (some (H.next,0)) xs.length none es) xs::R) (wC H cs):=by
 have hl:cs.length=xs.length*es:=by rw [hc,qW he]
 have:=h.new cs
 refine⟨this.ok,this.s.cons (fun f hf=> ?_) fun _ e=>e⟩
 obtain⟨c,w,h1,h3,h2⟩:=hf
 refine⟨.own H.next 0 xs.length cs.length es (ul cs) _ ⟨c,w,h1,h3,fun j hj=>by rw [h2 j hj,ZU hj]⟩ (by omega) ?_,he,h0⟩
 rw [←hl,ZJ,hc]
theorem Ye (h:zP en es v xs fun k=>H.t.get k):dW v=some xs.length∧ji H es xs.length v=some (xs.flatMap en):=by
 have hl:=uN h
 obtain⟨h1,h2,h3⟩:=h
 generalize hcs:xs.flatMap en=cs at h1
 have hcl:cs.length=xs.length*es:=by rw [←hcs,qW h2]
 have zero:xs.length=0→ ∀a c e,v= .slice a 0 c e→dW v=some xs.length∧ji H es xs.length v=some cs:=by
  rintro h0 a c e rfl
  have:cs= []:=List.eq_nil_of_length_eq_zero (by rw [hcl,h0,Nat.zero_mul])
  rw [h0,this]
  cases a<;>exact⟨rfl,rfl⟩
 by_cases h0:xs.length=0
 ·obtain⟨a,n,c,e,rfl⟩:=h1.shape
  have hl:n=xs.length:=hl
  exact zero h0 a c e (by rw [hl,h0])
 obtain⟨i,off,len,c,n,f,rfl,⟨r,w,g1,g5,g2⟩,g3,g4⟩:=h1.row (fun e=>by rw [e]at hcl;have:=Nat.mul_pos (Nat.pos_of_ne_zero h0) h3;simp at hcl;omega)
 have hl:len=xs.length:=hl
 subst hl
 have hr:H.read i off (xs.length*es)=some (zY f off (xs.length*es)):=by
  have g1:H.t.get i=_:=g1
  simp only [Hp.read,g1]
  exact vV g2 _ _ g3
 have hb:Nat.ble xs.length xs.length=true:=Nat.ble_eq_true_of_le (Nat.le_refl _)
 have hz:Nat.beq xs.length 0=false:=by
  cases h:Nat.beq xs.length 0 with
  |false=>rfl
  |true=>exact absurd (Nat.eq_of_beq_eq_true h) h0
 refine⟨rfl,?_⟩
 simp only [ji,hb,hz,cond_true,cond_false]
 rw [hr,g4]
theorem Zc (f:Nat→AVal) (off n m:Nat) (vs:List AVal) (hm:vs.length=m):zY (vL f (off+n) vs) off (n+m)=zY f off n++vs:=by
 apply List.ext_getElem?
 intro i
 by_cases hi:i<n+m
 ·rw [zq _ _ _ _ hi]
  by_cases h2:i<n
  ·rw [List.getElem?_append_left (by rw [zo];exact h2),zq _ _ _ _ h2]
   unfold vL
   rw [if_neg (by omega)]
  rw [List.getElem?_append_right (by rw [zo];omega),zo]
  unfold vL
  rw [if_pos (by omega),show off+i-(off+n)=i-n by omega,List.getElem?_eq_getElem (by omega)];rfl
 rw [List.getElem?_eq_none (by rw [zo];omega),List.getElem?_eq_none (by rw [List.length_append,zo];omega)]
theorem xw.owned {h:yc} {i off len e es:Nat} {cs:List AVal} (s:xw h (.slice (some (i,off)) len none e) es cs): ∃y,h i=some y:=by
 cases s with
 |own i off len n _ f _ hr hn hc=>obtain⟨c,w,h1,_⟩:=hr;exact⟨_,h1⟩
theorem Qu {P:Program} {F:z9} {t xt:TypeId} {a b:Operand} [ha:AP P t es] [hb:AP P xt es] (h:Holds (ent (zP en es) v xs::R) H) (hw:dW w=some ys.length∧ji H es ys.length w=some (ys.flatMap en)) (hn:ys≠ []) (hlen:xs.length+ys.length≤1048576) (hcell:yL (ys.flatMap en)=true):
 ∃i q c H',(∀ {o:Oper} {T:Tm} {c':Call} {ts:List TypeId},o.op= .call c'→c'.callee= .builtin .append→c'.argTypes.toList=t::xt::ts→c'.args.toList= [a,b]→opnd T a=some v→opnd T b=some w→yJ P F T H o=some (.val (.slice (some (i,q)) (xs.length+ys.length) c es) H'))∧
  Holds (ent (zP en es) (.slice (some (i,q)) (xs.length+ys.length) c es) (xs++ys)::R) H'∧((∀p l k e,v≠ .slice (some p) l (some k) e)→q=0∧c=none):=by
 obtain⟨e,by',z,h1,h2,h3,h4,h5,h6⟩:=ha.h
 obtain⟨e2,_,_,k1,_⟩:=hb.h
 obtain⟨g1,g3⟩:=hw
 have hn1:1≤ys.length:=by cases ys with
  |nil=>exact absurd rfl hn
  |cons=>simp
 have hn0:Nat.beq ys.length 0=false:=by
  cases h:Nat.beq ys.length 0 with
  |false=>rfl
  |true=>have:=Nat.eq_of_beq_eq_true h;omega
 have b1:Nat.beq z.cells.length es=true:=by rw [h6];exact Nat.beq_refl es
 have b2:Nat.ble (xs.length+ys.length) yN=true:=Nat.ble_eq_true_of_le hlen
 have b3:Nat.ble by' yN=true:=Nat.ble_eq_true_of_le h4
 have bes:Nat.beq es es=true:=Nat.beq_refl es
 obtain⟨p,q,q1,q2,q3,⟨he,hen,hes⟩,q5⟩:=h.s
 have hl:=uN (en:=en) (xs:=xs) ⟨he,hen,hes⟩
 have hcat:(xs++ys).flatMap en=xs.flatMap en++ys.flatMap en:=List.flatMap_append
 have hyl:=qW hen ys
 have hxl:=qW hen xs
 have fresh: ∀H1:Hp,Holds R H1→H1.next=H.next→Holds (ent (zP en es) (.slice (some (H.next,0)) (xs.length+ys.length) none es) (xs++ys)::R) (wC H1 (xs.flatMap en++ys.flatMap en)):=by
  intro H1 hH1 hnx
  have:=hH1.newEl (xs:=xs++ys) hen hes hcat.symm
  rw [List.length_append,hnx]at this
  exact this
 generalize hcs:xs.flatMap en=cs at he fresh hcat hxl
 have empty:xs.length=0→xs= []∧cs= []:=fun h0=>by
  have:xs= []:=List.eq_nil_of_length_eq_zero h0
  subst this;exact⟨rfl,by rw [←hcs];rfl⟩
 cases he with
 |nil e0=>
  have hl:0=xs.length:=hl
  obtain⟨rfl,-⟩:=empty hl.symm
  refine⟨H.next,0,none,_,fun {o T c' ts} ho hc ht hargs hx hy=> ?_,fresh H h.tail rfl,fun _=>⟨rfl,rfl⟩⟩
  simp only [yJ,ho,hc,ht,hargs,qf,hx,hy,yU,yI,vG,h1,k1,h2,h3,h5,g1,b1,b3,Bool.and_true,cond_true,g3,hn0,cond_false,List.length_nil]at b2 ⊢
  simp only [b2,Bool.true_and,cond_true,List.nil_append]
 |emp i off=>
  have hl:0=xs.length:=hl
  obtain⟨rfl,-⟩:=empty hl.symm
  refine⟨H.next,0,none,_,fun {o T c' ts} ho hc ht hargs hx hy=> ?_,fresh H h.tail rfl,fun _=>⟨rfl,rfl⟩⟩
  have b6:Nat.ble (0+ys.length) 0=false:=by
   cases h:Nat.ble (0+ys.length) 0 with
   |false=>rfl
   |true=>have:=Nat.le_of_ble_eq_true h;omega
  have b7:Nat.beq 0 0=true:=rfl
  simp only [yJ,ho,hc,ht,hargs,qf,hx,hy,yU,yI,vG,h1,k1,h2,h3,h5,g1,b1,b3,Bool.and_true,cond_true,g3,hn0,cond_false,b6,b7,List.length_nil]at b2 ⊢
  simp only [b2,Bool.true_and,cond_true,List.nil_append]
 |own i off len n _ f _ hr hn2 hc=>
  have hl:len=xs.length:=hl
  subst hl
  obtain⟨r,wd,r1,r3,r2⟩:=hr
  have r3:n≤wd:=r3
  have hi:H.t.get i=some (.cells true r wd):=q2 _ _ r1
  have hrow:H.rowW i=some wd:=by simp only [Hp.rowW,hi]
  have hread:H.read i off (xs.length*es)=some (zY f off (xs.length*es)):=by
   simp only [Hp.read,hi]
   exact vV r2 _ _ hn2
  rw [←hc]at hread
  have b5:Nat.ble (off+xs.length*es) wd=true:=Nat.ble_eq_true_of_le (by omega)
  refine⟨H.next,0,none,_,fun {o T c' ts} ho hc ht hargs hx hy=> ?_,fresh ⟨H.t.del i,H.next⟩ (h.del fun f hf=> ?_) rfl,fun _=>⟨rfl,rfl⟩⟩
  ·simp only [yJ,ho,hc,ht,hargs,qf,hx,hy,yU,yI,vG,h1,k1,h2,h3,h5,g1,b1,b2,b3,Bool.and_true,cond_true,g3,hn0,cond_false,bes,hrow,b5,hread]
  exact hf.1.owned
 |part i off len cap n _ f _ hr hn2 hle hc=>
  have hl:len=xs.length:=hl
  subst hl
  have hr0:=hr
  obtain⟨r,wd,r1,r3,r2⟩:=hr
  have hi:H.t.get i=some (.cells true r wd):=q2 _ _ r1
  have hce:xs.length*es≤cap*es:=Nat.mul_le_mul_right es hle
  have hread:H.read i off (xs.length*es)=some (zY f off (xs.length*es)):=by
   simp only [Hp.read,hi]
   exact vV r2 _ _ (by show off+xs.length*es≤n;omega)
  rw [←hc]at hread
  cases hroom:Nat.ble (xs.length+ys.length) cap with
  |true=>
   have hroom':=Nat.le_of_ble_eq_true hroom
   have hfit:(xs.length+ys.length)*es≤cap*es:=Nat.mul_le_mul_right es hroom'
   rw [Nat.add_mul]at hfit
   have hF:Holds (ent zI i (n,f)::R) H:=⟨h.ok,p,q,q1,q2,q3,hr0,q5⟩
   obtain⟨H',w1,w2⟩:=hF.stN (a:=off+xs.length*es) (vs:=ys.flatMap en) (by omega) hcell
   refine⟨i,off,some cap,H',fun {o T c' ts} ho hc ht hargs hx hy=> ?_,⟨w2.ok,w2.s.cons (fun g hg=>⟨.part i off _ cap n es (vL f (off+xs.length*es) (ys.flatMap en)) _ hg (by omega) hroom' ?_,hen,hes⟩) fun _ e=>e⟩,fun h=>absurd rfl (h _ _ _ _)⟩
   ·simp only [yJ,ho,hc,ht,hargs,qf,hx,hy,yU,yI,vG,h1,k1,h2,h3,h5,g1,b1,b2,b3,Bool.and_true,cond_true,g3,hn0,cond_false,hroom,w1]
   rw [hcat,Nat.add_mul,Zc f off (xs.length*es) (ys.length*es) _ hyl,←hc]
  |false=>
   cases hl0:Nat.beq xs.length 0 with
   |true=>
    obtain⟨rfl,rfl⟩:=empty (Nat.eq_of_beq_eq_true hl0)
    refine⟨H.next,0,none,_,fun {o T c' ts} ho hc ht hargs hx hy=> ?_,fresh H h.tail rfl,fun _=>⟨rfl,rfl⟩⟩
    simp only [yJ,ho,hc,ht,hargs,qf,hx,hy,yU,yI,vG,h1,k1,h2,h3,h5,g1,b1,b2,b3,Bool.and_true,cond_true,g3,hn0,cond_false,hroom,hl0,List.nil_append]
   |false=>
    refine⟨H.next,0,none,_,fun {o T c' ts} ho hc ht hargs hx hy=> ?_,fresh H h.tail rfl,fun _=>⟨rfl,rfl⟩⟩
    simp only [yJ,ho,hc,ht,hargs,qf,hx,hy,yU,yI,vG,h1,k1,h2,h3,h5,g1,b1,b2,b3,Bool.and_true,cond_true,g3,hn0,cond_false,hroom,hl0,hread]
end
section
variable {P:Program} {F:z9} {hook:yZ} {ops:Array Oper} {o:Oper} {l:List Oper} {T:Tm} {L R R2:List SP} {Q:Tm→List SP→Prop} {H:Hp}
variable {α:Type} {en:α→List AVal} {es:Nat} {xs ys:List α} {v w:AVal}
theorem gV {c:Call} {ts:List TypeId} {t xt:TypeId} {a b:Operand} {id n:Nat} {ds:List AVal} [AP P t es] [AP P xt es] [t1:GH L v en es xs R] [t2:Tk R z8 id ds R2] (hw:zJ ops T o=some true) (ho:o.op= .call c) (hc:c.callee= .builtin .append) (ht:c.argTypes.toList=t::xt::ts) (ha:c.args.toList= [a,b]) (hx:opnd T a=some v) (hy:opnd T b=some (.slice (some (id,0)) n (some n) es))
 (ys:List α) (hd:ds=ys.flatMap en) (hn:ys.length=n) (h0:ys≠ []) (hlen:xs.length+n≤1048576) (hcell:yL ds=true)
 (k: ∀i q c,WO P F hook ops l (ze T o.dst (.slice (some (i,q)) (xs.length+n) c es)) (ent (zP en es) (.slice (some (i,q)) (xs.length+n) c es) (xs++ys)::R) Q):WO P F hook ops (o::l) T L Q:=by
 intro H hH
 have hH1:Holds (ent (zP en es) v xs::R) H:=⟨hH.ok,t1.h _ hH.s⟩
 have hen:(∀x,(en x).length=es)∧0<es:=by obtain⟨_,_,_,_,_,h,_⟩:=hH1.s;exact h.2
 have hr:Holds (ent z8 id ds::R2) H:=⟨hH.ok,t2.h _ hH1.s.tail⟩
 subst hn hd
 have hz:Nat.beq ys.length 0=false:=by
  cases h:Nat.beq ys.length 0 with
  |false=>rfl
  |true=>exact absurd (List.eq_nil_of_length_eq_zero (Nat.eq_of_beq_eq_true h)) h0
 have hb:Nat.ble ys.length ys.length=true:=Nat.ble_eq_true_of_le (Nat.le_refl _)
 have hrd:=hr.s.row.rdN (o:=0) (n:=(ys.flatMap en).length) (by omega)
 rw [ZJ,qW hen.1]at hrd
 obtain⟨i,q,cap,H',g1,g2,g3⟩:=Qu (P:=P) (F:=F) (t:=t) (xt:=xt) (a:=a) (b:=b) hH1 (w:= .slice (some (id,0)) ys.length (some ys.length) es) (ys:=ys) ⟨rfl,by simp only [ji,hz,hb,cond_true,cond_false];exact hrd⟩ h0 hlen hcell
 exact qQ hw (g1 ho hc ht ha hx hy) (k i q cap H' g2)
theorem kU {c:Call} {ts:List TypeId} {t xt:TypeId} {a b:Operand} {id n:Nat} {ds:List AVal} [AP P t es] [AP P xt es] [t1:GH L v en es xs R] [t2:Tk R z8 id ds R2] (hw:zJ ops T o=some true) (ho:o.op= .call c) (hc:c.callee= .builtin .append) (ht:c.argTypes.toList=t::xt::ts) (ha:c.args.toList= [a,b]) (hx:opnd T a=some v) (hy:opnd T b=some (.slice (some (id,0)) n (some n) es))
 (ys:List α) (hd:ds=ys.flatMap en) (hn:ys.length=n) (h0:ys≠ []) (hnc: ∀p l k e,v≠ .slice (some p) l (some k) e) (hlen:xs.length+n≤1048576) (hcell:yL ds=true)
 (k: ∀i,WO P F hook ops l (ze T o.dst (.slice (some (i,0)) (xs.length+n) none es)) (ent (zP en es) (.slice (some (i,0)) (xs.length+n) none es) (xs++ys)::R) Q):WO P F hook ops (o::l) T L Q:=by
 intro H hH
 have hH1:Holds (ent (zP en es) v xs::R) H:=⟨hH.ok,t1.h _ hH.s⟩
 have hen:(∀x,(en x).length=es)∧0<es:=by obtain⟨_,_,_,_,_,h,_⟩:=hH1.s;exact h.2
 have hr:Holds (ent z8 id ds::R2) H:=⟨hH.ok,t2.h _ hH1.s.tail⟩
 subst hn hd
 have hz:Nat.beq ys.length 0=false:=by
  cases h:Nat.beq ys.length 0 with
  |false=>rfl
  |true=>exact absurd (List.eq_nil_of_length_eq_zero (Nat.eq_of_beq_eq_true h)) h0
 have hb:Nat.ble ys.length ys.length=true:=Nat.ble_eq_true_of_le (Nat.le_refl _)
 have hrd:=hr.s.row.rdN (o:=0) (n:=(ys.flatMap en).length) (by omega)
 rw [ZJ,qW hen.1]at hrd
 obtain⟨i,q,cap,H',g1,g2,g3⟩:=Qu (P:=P) (F:=F) (t:=t) (xt:=xt) (a:=a) (b:=b) hH1 (w:= .slice (some (id,0)) ys.length (some ys.length) es) (ys:=ys) ⟨rfl,by simp only [ji,hz,hb,cond_true,cond_false];exact hrd⟩ h0 hlen hcell
 obtain⟨rfl,rfl⟩:=g3 hnc
 exact qQ hw (g1 ho hc ht ha hx hy) (k i H' g2)
theorem kG {c:Call} {ts:List TypeId} {t xt:TypeId} {a b:Operand} [AP P t es] [AP P xt es] [t1:GH L v en es xs R] [t2:GH R w en es ys R2] (hw:zJ ops T o=some true) (ho:o.op= .call c) (hc:c.callee= .builtin .append) (ht:c.argTypes.toList=t::xt::ts) (ha:c.args.toList= [a,b]) (hx:opnd T a=some v) (hy:opnd T b=some w)
 (hlen:xs.length+ys.length≤1048576) (hcell: ∀y,yL (en y)=true)
 (k: ∀a c e,WO P F hook ops l (ze T o.dst (.slice a (xs.length+ys.length) c e)) (ent (zP en es) (.slice a (xs.length+ys.length) c e) (xs++ys)::R) Q):WO P F hook ops (o::l) T L Q:=by
 intro H hH
 have hH1:Holds (ent (zP en es) v xs::R) H:=⟨hH.ok,t1.h _ hH.s⟩
 have hr:Holds (ent (zP en es) w ys::R2) H:=⟨hH.ok,t2.h _ hH1.s.tail⟩
 have hel:zP en es w ys fun k=>H.t.get k:=by
  obtain⟨a,b,h1,h2,h3,h4,h5⟩:=hr.s
  exact Qb h2 h4
 by_cases h0:ys= []
 ·subst h0
  have hel0:zP en es v xs fun k=>H.t.get k:=by
   obtain⟨a,b,h1,h2,h3,h4,h5⟩:=hH1.s
   exact Qb h2 h4
  obtain⟨p,q,e,rfl⟩:=gp hel0
  obtain⟨e1,by',z,h1,h2,h3,h4,h5,h6⟩:=(inferInstance:AP P t es).h
  obtain⟨e2,_,_,k1,_⟩:=(inferInstance:AP P xt es).h
  obtain⟨g1,g3⟩:=Ye hel
  have b1:Nat.beq z.cells.length es=true:=by rw [h6];exact Nat.beq_refl es
  have b2:Nat.ble (xs.length+0) yN=true:=Nat.ble_eq_true_of_le (by show xs.length+0≤1048576;simpa using hlen)
  have b3:Nat.ble by' yN=true:=Nat.ble_eq_true_of_le h4
  have b4:Nat.beq 0 0=true:=rfl
  have kk:=k p q e H (by simpa using hH1)
  refine qQ hw (v:= .slice p xs.length q e) ?_ kk
  rw [List.length_nil]at g1 g3
  cases p with
  |none=>simp only [yJ,ho,hc,ht,ha,qf,hx,hy,yU,yI,vG,h1,k1,h2,h3,h5,g1,b1,b2,b3,Bool.and_true,cond_true,g3,b4]
  |some p=>cases q<;>simp only [yJ,ho,hc,ht,ha,qf,hx,hy,yU,yI,vG,h1,k1,h2,h3,h5,g1,b1,b2,b3,Bool.and_true,cond_true,g3,b4]
 obtain⟨i,q,cap,H',g1,g2,g3⟩:=Qu (P:=P) (F:=F) (t:=t) (xt:=xt) (a:=a) (b:=b) hH1 (Ye hel) h0 hlen ((wL _).2 fun u hu=>by
  obtain⟨y,_,hy⟩:=List.mem_flatMap.1 hu
  exact(wL _).1 (hcell y) u hy)
 exact qQ hw (g1 ho hc ht ha hx hy) (k _ _ _ H' g2)
end
section
variable {P:Program} {F:z9} {hook:yZ} {ops:Array Oper} {l:List Oper} {m:List It} {T:Tm} {d:Option Tmp} {L:List SP} {Q:Tm→List SP→Prop}
theorem z0 {p:Prop} [Decidable p] (ht:p→WO P F hook ops l (ze T d (.bool true)) L Q) (hf: ¬p→WO P F hook ops l (ze T d (.bool false)) L Q):WO P F hook ops l (ze T d (.bool (decide p))) L Q:=by
 by_cases hp:p
 ·rw [decide_eq_true hp];exact ht hp
 rw [decide_eq_false hp];exact hf hp
theorem zN {b:Bool} (ht:b=true→WO P F hook ops l (ze T d (.bool true)) L Q) (hf:b=false→WO P F hook ops l (ze T d (.bool false)) L Q):WO P F hook ops l (ze T d (.bool b)) L Q:=by
 cases b with
 |true=>exact ht rfl
 |false=>exact hf rfl
theorem qJ {p:Prop} [Decidable p] (ht:p→WK P F ops m (ze T d (.bool true)) L Q) (hf: ¬p→WK P F ops m (ze T d (.bool false)) L Q):WK P F ops m (ze T d (.bool (decide p))) L Q:=by
 by_cases hp:p
 ·rw [decide_eq_true hp];exact ht hp
 rw [decide_eq_false hp];exact hf hp
theorem uT {b:Bool} (ht:b=true→WK P F ops m (ze T d (.bool true)) L Q) (hf:b=false→WK P F ops m (ze T d (.bool false)) L Q):WK P F ops m (ze T d (.bool b)) L Q:=by
 cases b with
 |true=>exact ht rfl
 |false=>exact hf rfl
theorem GM {p:Prop} [Decidable p] (hp:p) (k:WO P F hook ops l (ze T d (.bool true)) L Q):WO P F hook ops l (ze T d (.bool (decide p))) L Q:=by rw [decide_eq_true hp];exact k
theorem qM {p:Prop} [Decidable p] (hp: ¬p) (k:WO P F hook ops l (ze T d (.bool false)) L Q):WO P F hook ops l (ze T d (.bool (decide p))) L Q:=by rw [decide_eq_false hp];exact k
theorem DS {p:Prop} [Decidable p] (hp:p) (k:WK P F ops m (ze T d (.bool true)) L Q):WK P F ops m (ze T d (.bool (decide p))) L Q:=by rw [decide_eq_true hp];exact k
theorem yn {v w:AVal} (e:v=w) (k:WO P F hook ops l (ze T d w) L Q):WO P F hook ops l (ze T d v) L Q:=by subst e;exact k
end
def VQ:AVal→Bool
 | .bool _=>true
 | .int _ (.lit _)=>true
 | .ptr _=>true
 | .slice none _ none _=>false
 | .slice _ _ _ _=>true
 | .map _=>true
 | .chan _=>true
 |_=>false
def lx:AVal→Bool
 | .agg cs=>cs.all VQ
 | .tuple cs=>cs.all VQ
 |v=>VQ v
theorem UQ (n:Nat) (v:AVal) (h:VQ v=true):gM (n+1) v v=true:=by
 have hk: ∀k,vf k k=true:=fun k=>by cases k<;>rfl
 have hz: ∀z:Int,gD z z=true:=fun z=>(gL z z).2 rfl
 cases v with
 |bool b=>simp [gM]
 |int k n=>cases n with
  |lit z=>simp [gM,hk,hz]
  |lin=>cases h
 |ptr a=>cases a with
  |none=>rfl
  |some p=>simp [gM]
 |slice a n c e=>cases a with
  |none=>cases c with
   |none=>cases h
   |some c=>simp [gM]
  |some p=>cases c<;>simp [gM]
 |map r=>cases r<;>simp [gM]
 |chan r=>cases r<;>simp [gM]
 |_=>cases h
theorem VD (n:Nat): ∀cs:List AVal,cs.all VQ=true→ZF (gM (n+1)) cs cs=true:=by
 intro cs
 induction cs with
 |nil=>intro _;rfl
 |cons c cs ih=>
  intro h
  rw [List.all_cons,Bool.and_eq_true]at h
  simp [ZF,UQ n c h.1,ih h.2]
theorem z3 (v:AVal) (h:lx v=true):Yw v v=true:=by
 cases v with
 |agg cs=>exact VD 2 cs h
 |tuple cs=>exact VD 2 cs h
 |_=>exact UQ 3 _ h
theorem jg {b c:Bool} (h:c=b):Yw (.bool b) (.bool c)=true:=by subst h;exact fB c
instance CY (L:List SP):Sub L L:=Sub.refl L
instance (priority:=50) sub_drop (p:SP) (L M:List SP) [h:Sub L M]:Sub (p::L) M:=Sub.drop h
instance (priority:=100) sub_get {κ α:Type} (L M R:List SP) (K:κ→α→SP) (a:κ) (x:α) [t:Tk L K a x R] [h:Sub R M]:Sub L (ent K a x::M):=Sub.get rfl h
theorem qK {α β:Type} (f:β→α→β) (b:β) (l:List α) (c:Nat) (x:α) (h:l[c]? =some x):(l.take (c+1)).foldl f b=f ((l.take c).foldl f b) x:=by
 rw [List.take_add_one,h];simp
theorem Sub.mk1 {κ1 α1:Type} {K1:κ1→α1→SP} {a1:κ1} {x1:α1} {L M R1:List SP} {p:SP} [t1:Tk L K1 a1 x1 R1] (hc: ∀h,yd [ent K1 a1 x1] h→p h) (k:Sub R1 M):Sub L (p::M):=⟨fun h s=>by
 have s1:=t1.h h s
 exact(qL (L:= [ent K1 a1 x1]) s1).cons hc k.h⟩
theorem Sub.mk2 {κ1 α1 κ2 α2:Type} {K1:κ1→α1→SP} {a1:κ1} {x1:α1} {K2:κ2→α2→SP} {a2:κ2} {x2:α2} {L M R1 R2:List SP} {p:SP} [t1:Tk L K1 a1 x1 R1] [t2:Tk R1 K2 a2 x2 R2] (hc: ∀h,yd [ent K1 a1 x1,ent K2 a2 x2] h→p h) (k:Sub R2 M):Sub L (p::M):=⟨fun h s=>by
 have s1:=(t1.h h s).cons (fun _ e=>e) t2.h
 exact(qL (L:= [ent K1 a1 x1,ent K2 a2 x2]) s1).cons hc k.h⟩
theorem Sub.mk3 {κ1 α1 κ2 α2 κ3 α3:Type} {K1:κ1→α1→SP} {a1:κ1} {x1:α1} {K2:κ2→α2→SP} {a2:κ2} {x2:α2} {K3:κ3→α3→SP} {a3:κ3} {x3:α3} {L M R1 R2 R3:List SP} {p:SP} [t1:Tk L K1 a1 x1 R1] [t2:Tk R1 K2 a2 x2 R2] [t3:Tk R2 K3 a3 x3 R3] (hc: ∀h,yd [ent K1 a1 x1,ent K2 a2 x2,ent K3 a3 x3] h→p h) (k:Sub R3 M):Sub L (p::M):=⟨fun h s=>by
 have s1:=(t1.h h s).cons (fun _ e=>e) fun _ e=>(t2.h _ e).cons (fun _ e=>e) t3.h
 exact(qL (L:= [ent K1 a1 x1,ent K2 a2 x2,ent K3 a3 x3]) s1).cons hc k.h⟩
theorem Sub.mk4 {κ1 α1 κ2 α2 κ3 α3 κ4 α4:Type} {K1:κ1→α1→SP} {a1:κ1} {x1:α1} {K2:κ2→α2→SP} {a2:κ2} {x2:α2} {K3:κ3→α3→SP} {a3:κ3} {x3:α3} {K4:κ4→α4→SP} {a4:κ4} {x4:α4} {L M R1 R2 R3 R4:List SP} {p:SP} [t1:Tk L K1 a1 x1 R1] [t2:Tk R1 K2 a2 x2 R2] [t3:Tk R2 K3 a3 x3 R3] [t4:Tk R3 K4 a4 x4 R4]
 (hc: ∀h,yd [ent K1 a1 x1,ent K2 a2 x2,ent K3 a3 x3,ent K4 a4 x4] h→p h) (k:Sub R4 M):Sub L (p::M):=⟨fun h s=>by
 have s1:=(t1.h h s).cons (fun _ e=>e) fun _ e=>(t2.h _ e).cons (fun _ e=>e) fun _ e=>(t3.h _ e).cons (fun _ e=>e) t4.h
 exact(qL (L:= [ent K1 a1 x1,ent K2 a2 x2,ent K3 a3 x3,ent K4 a4 x4]) s1).cons hc k.h⟩
theorem Sub.mk5 {κ1 α1 κ2 α2 κ3 α3 κ4 α4 κ5 α5:Type} {K1:κ1→α1→SP} {a1:κ1} {x1:α1} {K2:κ2→α2→SP} {a2:κ2} {x2:α2} {K3:κ3→α3→SP} {a3:κ3} {x3:α3} {K4:κ4→α4→SP} {a4:κ4} {x4:α4} {K5:κ5→α5→SP} {a5:κ5} {x5:α5} {L M R1 R2 R3 R4 R5:List SP} {p:SP} [t1:Tk L K1 a1 x1 R1] [t2:Tk R1 K2 a2 x2 R2] [t3:Tk R2 K3 a3 x3 R3] [t4:Tk R3 K4 a4 x4 R4] [t5:Tk R4 K5 a5 x5 R5]
 (hc: ∀h,yd [ent K1 a1 x1,ent K2 a2 x2,ent K3 a3 x3,ent K4 a4 x4,ent K5 a5 x5] h→p h) (k:Sub R5 M):Sub L (p::M):=⟨fun h s=>by
 have s1:=(t1.h h s).cons (fun _ e=>e) fun _ e=>(t2.h _ e).cons (fun _ e=>e) fun _ e=>(t3.h _ e).cons (fun _ e=>e) fun _ e=>(t4.h _ e).cons (fun _ e=>e) t5.h
 exact(qL (L:= [ent K1 a1 x1,ent K2 a2 x2,ent K3 a3 x3,ent K4 a4 x4,ent K5 a5 x5]) s1).cons hc k.h⟩
theorem nG {p q:SP} {L:List SP} {h:yc} (s:yd (p::L) h) (k: ∀f,p f→q f):yd (q::L) h:=s.cons k fun _ e=>e
theorem dd {p q:SP} {a:SP} {L:List SP} {h:yc} (s:yd (a::p::L) h) (k: ∀f,p f→q f):yd (a::q::L) h:=s.cons (fun _ e=>e) fun _ e=>nG e k
theorem CU {p q:SP} {a b:SP} {L:List SP} {h:yc} (s:yd (a::b::p::L) h) (k: ∀f,p f→q f):yd (a::b::q::L) h:=s.cons (fun _ e=>e) fun _ e=>dd e k
section
variable {P:Program} {F:z9} {hook:yZ} {ops:Array Oper} {l:List Oper} {T:Tm} {L R:List SP} {Q:Tm→List SP→Prop}
theorem qw {κ α β:Type} {K:κ→α→SP} {a:κ} {x:α} {E:β→List SP} {φ:β→Prop} [t:Tk L K a x R] (hu: ∀h,K a x h→ ∃y,φ y∧yd (E y) h) (k: ∀y,φ y→WO P F hook ops l T (E y++R) Q):WO P F hook ops l T L Q:=
 o_view (J:=fun L'=> ∃y,φ y∧L'=E y++R) (fun h s=>by
  obtain⟨a,b,h1,h2,h3,h4,h5⟩:=t.h h s
  obtain⟨y,hy,hs⟩:=hu a h4
  exact⟨_,⟨y,hy,rfl⟩,yd.join h1 h2 h3 hs h5⟩) (by rintro _ ⟨y,hy,rfl⟩;exact k y hy)
theorem zS {κ α β:Type} {K:κ→α→SP} {a:κ} {x:α} {E:β→List SP} {φ:β→Prop} {f:FuncId} {as:List AVal} {Q:AVal→List SP→Prop} [t:Tk L K a x R] (hu: ∀h,K a x h→ ∃y,φ y∧yd (E y) h) (k: ∀y,φ y→SW P F hook f as (E y++R) Q):SW P F hook f as L Q:=
 SW.view (J:=fun L'=> ∃y,φ y∧L'=E y++R) (fun h s=>by
  obtain⟨a,b,h1,h2,h3,h4,h5⟩:=t.h h s
  obtain⟨y,hy,hs⟩:=hu a h4
  exact⟨_,⟨y,hy,rfl⟩,yd.join h1 h2 h3 hs h5⟩) (by rintro _ ⟨y,hy,rfl⟩;exact k y hy)
end
section
variable {P:Program} {F:z9} {o:Oper} {T:Tm} {H:Hp}
theorem Js {c:Call} {x y:Operand} {k:IntKind} {a b:Int} (ho:o.op= .call c) (hc:c.callee= .builtin .max) (ha:c.args.toList= [x,y]) (hx:opnd T x=some (.int k (.lit a))) (hy:opnd T y=some (.int k (.lit b))):yJ P F T H o=some (.val (.int k (.lit (max a b))) H):=by
 have e:max a b=if a<b then b else a:=by omega
 simp only [yJ,ho,hc,ha,qf,hx,hy,yU,yI,GF,eo,zU.lt,ZQ,e]
 by_cases h:a<b
 ·rw [if_pos h,decide_eq_true h];rfl
 rw [if_neg h,decide_eq_false h];rfl
theorem Jv {c:Call} {x y:Operand} {k:IntKind} {a b:Int} (ho:o.op= .call c) (hc:c.callee= .builtin .min) (ha:c.args.toList= [x,y]) (hx:opnd T x=some (.int k (.lit a))) (hy:opnd T y=some (.int k (.lit b))):yJ P F T H o=some (.val (.int k (.lit (min a b))) H):=by
 have e:min a b=if b<a then b else a:=by omega
 simp only [yJ,ho,hc,ha,qf,hx,hy,yU,yI,GF,oD,zU.lt,ZQ,e]
 by_cases h:b<a
 ·rw [if_pos h,decide_eq_true h];rfl
 rw [if_neg h,decide_eq_false h];rfl
end
section
variable {P:Program} {F:z9} {hook:yZ} {L R:List SP}
theorem yQ {κ α:Type} {K:κ→α→SP} {a:κ} {x:α} {f:FuncId} {vs:List AVal} {Q:AVal→List SP→Prop} {p:Prop} [t:Tk L K a x R] (hu: ∀h,K a x h→p) (k:p→SW P F hook f vs L Q):SW P F hook f vs L Q:=fun H hH=>by
 obtain⟨a,b,h1,h2,h3,h4,h5⟩:=t.h _ hH.s
 exact k (hu _ h4) H hH
end
section
variable {P:Program} {F:z9} {hook:yZ} {ops:Array Oper} {o:Oper} {l:List Oper} {T:Tm} {L R:List SP} {Q:Tm→List SP→Prop} {x:It} {m:List It}
theorem pu {t:TypeId} [hM:MT P t] (hw:zJ ops T o=some true) (ho:o.op= .makeMap t none) (k: ∀i,WO P F hook ops l (ze T o.dst (.map (some i))) (ent gP i []::L) Q):WO P F hook ops (o::l) T L Q:=Gh hw ho k
theorem Ua {t:TypeId} [hM:MT P t] (hw:zJ ops T x.o=some true) (ho:x.o.op= .makeMap t none) (k: ∀i,WK P F ops m (ze T x.o.dst (.map (some i))) (ent gP i []::L) Q):WK P F ops (x::m) T L Q:=by
 intro H hH
 obtain⟨kt,et,h1⟩:=hM.h
 exact kL (v:= .map (some H.next)) (H':=H.alloc (.map [] 0)) (by rw [ho];rfl) hw (by simp only [yJ,ho,uI,h1];rfl) (k _ _ (hH.alloc fun f hf=>⟨[],0,hf,.nil⟩))
end
end Go.Px
