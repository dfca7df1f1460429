/- Part of the proof: PDraw3, PCode, PTop, PLog, PWp, PStepL, PDrawL, PStepM, PMapL, PBits, PSliceL, POpenT, PAuto, PMapW, PSep, PSep2, PSep3, PSep4, PSep5. Names and blanks are cut short to keep within the size of a claim. -/
import Derived.RowKit3
import Derived.Test.YtlhcpplnlgehbaaGreatM2
set_option linter.unusedVariables false
set_option linter.unusedSimpArgs false
section
namespace Go.Px
open Go Go.RowKit
variable {P:Program} {F:zD} {G:(Nat→Int)→Prop} {B:Nat} {w0:World} {ops:Array Oper} {wT:List It}
theorem Ds {qD rQ:List It} {T T2:Tm} {V V2:qw} {a:Act} {d:Option Tmp} {v:z0} {v':Value} (Yw: ∀t x,Tm.get t T=some x→(∃p,p ∈ qD∧p.o.dst=some t)∨ ∃v,a.tmps[t]? =some v∧zS V x v)
 (hV:V.le V2) (hv:zS V2 v v') (Y2: ∀t,d=some t→t<a.tmps.size) (hT: ∀t x,Tm.get t T2=some x→(d=some t∧x=v)∨(d≠some t∧Tm.get t T=some x))
 (hp: ∀p,p ∈ qD→p ∈ rQ∨p.o.dst=d): ∀t x,Tm.get t T2=some x→(∃p,p ∈ rQ∧p.o.dst=some t)∨ ∃u,(a.put d v').tmps[t]? =some u∧zS V2 x u:=by
 intro t x hx
 rcases hT t x hx with⟨rfl,rfl⟩|⟨wY,hx⟩
 ·exact .inr ⟨v',by simp [Act.put,Y2 t rfl],hv⟩
 rcases Yw t x hx with⟨p,hpp,hpd⟩|⟨u,h1,h2⟩
 ·rcases hp p hpp with h|h
  ·exact .inl ⟨p,h,hpd⟩
  exact absurd (by rw [←h];exact hpd) wY
 refine .inr ⟨u,?_,h2.mono hV⟩
 cases d with
 |none=>exact h1
 |some e=>
  have:e≠t:=fun h=>wY (by rw [h])
  simp only [Act.put,Array.getElem?_setIfInBounds_ne this];exact h1
theorem ox (hI:W4 ops wT) (hA:p9 ops wT) (hlen:wT.length=ops.size) {rec:Rec} (hC:Zq P F G B w0 rec.call) {Q:Exit→Act→World→Prop} {Tf:Tm} {Hf H0:Hp} {V0:qw} {sz:Nat} {df:List Deferred} (hF:FG F G V0.ρ)
 (hd: ∀x,x ∈ wT→ ∀d,x.o.dst=some d→d<sz)
 (hQ: ∀V' a' w',Ext V0 V' H0 Hf→yD B w0 V' Hf w'→ZX V' Tf a'.tmps→a'.tmps.size=sz→a'.defers=df→Q .normal a' w'):
 ∀(k:Nat) (gh:Nat→Nat) (qD rest:List It) (T:Tm) (H:Hp) (V:qw) (a:Act) (w:World) (listed:Array Bool),oS P F ops wT B w0 gh H0.next True qD rest T H V a w→MD P F rec ops qD rest T H Tf Hf→
  PU wT qD rest listed→qD.length+rest.length≤k→Ext V0 V H0 H→a.tmps.size=sz→a.defers=df→wpAny P .any ops Q k listed a w:=by
 intro k
 induction k with
 |zero=>
  intro gh qD rest T H V a w listed hM hc hL hk hE Y2 tD
  have hp:qD= []:=List.eq_nil_of_length_eq_zero (by omega)
  have hr:rest= []:=List.eq_nil_of_length_eq_zero (by omega)
  subst hp hr
  refine⟨?_,?_⟩
  ·cases cm:Region.ready .any ops listed with
   |nil=>rfl
   |cons i l=>
    have:i ∈ Region.ready .any ops listed:=by rw [cm];simp
    obtain⟨x,h1,rfl,h3,h4,h5⟩:=(J9 hI hlen hL.size).1 this
    have:=(hL.ct x h1).2 (by simp)
    rw [h4]at this;cases this
  cases hc with
  |last _ hT hH=>
   subst hT hH
   exact hQ V a w hE hM.Vr (fun t x hx=>(hM.pt t x hx).resolve_left (fun⟨p,hp,_⟩=>by simp at hp)) Y2 tD
  |next c R n prev ss T1 H1 hr=>cases hr
 |succ k ih=>
  intro gh qD rest T H V a w listed hM hc hL hk hE Y2 tD
  have hFV:FG F G V.ρ:=by rw [hE.le.ρ];exact hF
  refine⟨fun cm=> ?_,fun i hi=> ?_⟩
  ·
   have none_: ∀(n:Nat) x,wT[n]? =some x→ ¬(x ∈ qD∨x ∈ rest):=by
    intro n
    induction n using Nat.strongRecOn with
    |_ n ihn=>
     intro x hx hm
     obtain⟨hi,ho⟩:=hI.at_ n x hx
     have Cn:listed.getD n false=false:=by
      cases hl:listed.getD n false with
      |false=>rfl
      |true=>exact absurd hm ((hL.ct x (by rw [hi];exact hx)).1 (by rw [hi];exact hl))
     have:n ∈ Region.ready .any ops listed:=(J9 hI hlen hL.size).2 ⟨x,hx,hi,ho,Cn,fun e he hb=>by
      have uE:=hI.G9 n x hx e he hb
      have NJ:n<wT.length:=(List.getElem?_eq_some_iff.1 hx).1
      have hy:wT[e.on]? =some (wT[e.on]'(by omega)):=by simp [show e.on<wT.length by omega]
      obtain⟨h1,_⟩:=hI.at_ e.on _ hy
      have h2:=(hL.ct (wT[e.on]'(by omega)) (by rw [h1];exact hy)).2 (ihn e.on uE _ hy)
      rw [h1]at h2;exact h2⟩
     rw [cm]at this;simp at this
   have hr:rest= []:=by
    cases rest with
    |nil=>rfl
    |cons x l=>exact absurd (.inr (by simp)) (none_ x.i x (hM.inits x (.inr (by simp))))
   have hp:qD= []:=by
    cases qD with
    |nil=>rfl
    |cons x l=>exact absurd (.inl (by simp)) (none_ x.i x (hM.inits x (.inl (by simp))))
   cases hc with
   |last _ hT hH=>
    subst hT hH hp
    exact hQ V a w hE hM.Vr (fun t x hx=>(hM.pt t x hx).resolve_left (fun⟨p,hp,_⟩=>by simp at hp)) Y2 tD
   |next c R n prev ss T1 H1 hr'=>rw [hr]at hr';cases hr'
  ·obtain⟨x,hx,rfl,ho,Cn,cm⟩:=(J9 hI hlen hL.size).1 hi
   have hxm:x ∈ qD∨x ∈ rest:=by
    refine Classical.byContradiction fun YR=> ?_
    have:=(hL.ct x hx).2 YR
    rw [Cn]at this;cases this
   have done: ∀j,x.m.testBit j=true→listed.getD j false=true:=hI.done hL.closed x.i x hx cm
   have eS: ∀p,p ∈ qD→x.m.testBit p.i=false:=by
    intro p hp
    cases hb:x.m.testBit p.i with
    |false=>rfl
    |true=>exact absurd (.inl hp) ((hL.ct p (hM.inits p (.inl hp))).1 (done _ hb))
   have IG: ∀p,p ∈ rest→x.m.testBit p.i=false:=by
    intro p hp
    cases hb:x.m.testBit p.i with
    |false=>rfl
    |true=>exact absurd (.inr hp) ((hL.ct p (hM.inits p (.inr hp))).1 (done _ hb))
   have seen: ∀d,ZP ops x.o d=true→ ∀u,Tm.get d T=some u→ ∃v,a.tmps[d]? =some v∧zS V u v:=by
    intro d hl u hu
    rcases hM.pt d u hu with⟨p,hp,hpd⟩|h
    ·have:=hA.look p (List.mem_of_getElem? (hM.inits p (.inl hp))) x (List.mem_of_getElem? hx) d hpd hl
     rw [eS p hp]at this;cases this
    exact h
   have looks: ∀T',Ud ops T' T x.o→pB V T' a x.o.op.operands:=by
    intro T' hs y hy v hv
    rw [hs.zK hy]at hv
    exact A5 (fun t ht u hu=>seen t (pZ (ht▸hy)) u hu) hv
   have guard: ∀g want q d,x.o.guard=some (g,want)→ops[g]? =some q→q.dst=some d→ ∀u,Tm.get d T=some u→ ∃v,a.tmps[d]? =some v∧zS V u v:=
    fun g want q d h1 h2 h3=>seen d (GA h1 h2 h3)
   have hdx: ∀t,x.o.dst=some t→t<a.tmps.size:=fun t ht=>by rw [Y2];exact hd x (List.mem_of_getElem? hx) t ht
   have uniq: ∀y,(y ∈ qD∨y ∈ rest)→y.i=x.i→y=x:=fun y hy e=>by
    have:=hM.inits y hy
    rw [e,hx]at this;cases this;rfl
   rcases hxm with hxp|hxr
   ·
    have xq: ∀y,y ∈ qD.filter (fun y=> !Nat.beq y.i x.i)↔y ∈ qD∧y.i≠x.i:=by
     intro y;rw [List.mem_filter]
     refine and_congr_right fun _=> ?_
     cases hb:Nat.beq y.i x.i with
     |false=>simp;intro e;rw [e]at hb;simp at hb
     |true=>simp;exact Nat.eq_of_beq_eq_true hb
    have hlen':(qD.filter (fun y=> !Nat.beq y.i x.i)).length<qD.length:=by
     have:=List.length_filter_lt_length_iff_exists (l:=qD) (p:=fun y=> !Nat.beq y.i x.i)
     exact this.2 ⟨x,hxp,by simp⟩
    have hL2:PU wT (qD.filter (fun y=> !Nat.beq y.i x.i)) rest (listed.setIfInBounds x.i true):=hL.add hx cm fun y hy=>by
     rw [xq]
     constructor
     ·rintro (⟨h1,h2⟩|h)
      ·exact⟨.inl h1,h2⟩
      exact⟨.inr h,fun e=>hM.apart x y hxp h e.symm⟩
     rintro ⟨h1|h1,h2⟩
     ·exact .inl ⟨h1,h2⟩
     exact .inr h1
    have lS:MD P F rec ops (qD.filter (fun y=> !Nat.beq y.i x.i)) rest T H Tf Hf:=by
     cases hc with
     |last h1 h2 h3=>exact .last h1 h2 h3
     |next c R n prev ss T1 H1 hr hc hs dP Ch xr B0=>exact .next c R n prev ss T1 H1 hr hc hs dP Ch (fun p hp=>xr p ((xq p).1 hp).1) B0
    have go: ∀(v:z0) (v':Value) (V2:qw) (w2:World),JM T x.o v→V.le V2→yD B w0 V2 H w2→zS V2 v v'→(∀p,p ∈ qD→p.i≠x.i→zP ops T p.o=some true→wA p.o.op=true→V.uD (gh p.i)=none→V2.uD (gh p.i)=none)→Ext V0 V2 H0 H→
     wpAny P .any ops Q k (listed.setIfInBounds x.i true) (a.put x.o.dst v') w2:=by
     intro v v' V2 w2 G0 hle hW2 hv hg HK
     refine ih gh _ rest T H V2 _ w2 _ ⟨hW2,fun y hy=>hM.inits y (hy.imp (fun h=>((xq y).1 h).1) id),fun p y hp hy=>hM.apart p y ((xq p).1 hp).1 hy,fun p y hp hy=>hM.sep p y ((xq p).1 hp).1 hy,fun p hp=> ?_,
      fun p q hp hq=>hM.gd p q ((xq p).1 hp).1 ((xq q).1 hq).1,fun p hp=>hM.gl p ((xq p).1 hp).1,?_⟩ lS hL2 (by omega) HK (by rw [Act.GK];exact Y2) (by rw [Act.UB];exact tD)
     ·obtain⟨h1,h2⟩:=(xq p).1 hp
      exact(hM.PK p h1).move (fun _ _=>rfl) rfl (fun _ _ _=>rfl) (Nat.le_refl _) (fun hw ha _ hb=>hg p h1 h2 hw ha hb) (fun s=>⟨s,rfl⟩)
     refine Ds hM.pt hle hv hdx (fun t u hu=> ?_) (fun p hp=> ?_)
     ·by_cases ht:x.o.dst=some t
      ·exact .inl ⟨ht,G0 t u ht hu⟩
      exact .inr ⟨ht,hu⟩
     by_cases hpi:p.i=x.i
     ·exact .inr (by rw [uniq p (.inl hp) hpi])
     exact .inl ((xq p).2 ⟨hp,hpi⟩)
    unfold wpOp
    simp only [ho]
    cases hM.PK x hxp with
    |off hw G0=>
     rw [if_neg (by rw [Zp hw guard];simp)]
     exact go unit undef V w G0 (.refl V) hM.Vr (jb V) (fun _ _ _ _ _ h=>h) hE
    |made hw ha T' Hq v ob hs G0 he hn hN hl hob hv=>
     rw [if_pos (Zp hw guard)]
     refine .inl ?_
     obtain⟨v1,ob1,xo,base,S,v',h1,h2,h3,h4⟩:=JO (P:=P) (F:=F) hM.Vr.size (looks T' hs) ha he
     have PC:v=v1:=by injection h1
     have z1L:Hq.alloc ob=Hq.alloc ob1:=by injection h1
     have z1M:ob1=ob:=by
      have e:=congrArg (fun h:Hp=>h.t.get Hq.next) z1L
      simp only [Hp.alloc,Tr.yh,if_true]at e
      exact(Option.some.inj e).symm
     subst PC z1M
     have N6:=qw.Ye hv (w.heap.size,base,S)
     unfold Oper.wp
     rw [h2]
     refine go v v' _ _ G0 N6 (hM.Vr.oa hv hl hob h3) (h4 _ N6 (by rw [hn];exact qw.Uj _ _ _)) (fun p hp wY NT N5 hbp=> ?_)
      ⟨hE.le.trans N6,fun id ar=> ?_,hE.next,hE.ghost⟩
     ·have:=hM.gd p x hp hxp N5 ha NT hw wY
      simp [qw.bind,this,hbp]
     have:id≠gh x.i:=by omega
     simp only [qw.bind,this,if_false]
     exact hE.j6 id ar
    |flat hw hp T' v hs G0 he=>
     rw [if_pos (Zp hw guard)]
     refine .inl ?_
     obtain⟨v1,v',h1,h2,h3⟩:=Wy hFV.1 hM.Vr (looks T' hs) (sf hp) (he H)
     cases h1
     unfold Oper.wp
     rw [h3]
     exact go v v' V w G0 (.refl V) hM.Vr h2 (fun _ _ _ _ _ h=>h) hE
    |read hw hr he=>
     rw [if_pos (Zp hw guard)]
     refine .inl ?_
     obtain⟨T',v,H1,hs,G0,fx⟩:=he trivial
     have hq:Zc x.o.op=true:=by simp only [ZR,Bool.and_eq_true]at hr;exact hr.1
     obtain⟨v1,v',h1,h2,h3⟩:=Wy hFV.1 hM.Vr (looks T' hs) hq fx
     cases h1
     unfold Oper.wp
     rw [h3]
     exact go v v' V w G0 (.refl V) hM.Vr h2 (fun _ _ _ _ _ h=>h) hE
   ·
    cases hc with
    |last h1=>rw [h1]at hxr;simp at hxr
    |next c R n prev ss T1 H1 hr UJ hs dP Ch xr B0=>
    subst hr
    have hxc:x=c:=by
     rcases List.mem_cons.1 hxr with h|h
     ·exact h
     have h1:=(Ch x h).1
     rw [IG c (by simp)]at h1;cases h1
    subst hxc
    refine m0 hC hFV hM.Vr ho (looks T fun _ _=>rfl) guard UJ fun v V2 w2 v' hT1 HK hW2 hv=> ?_
    subst hT1
    have hxi:wT[x.i]? =some x:=hx
    have BV: ∀p,p ∈ qD→ ∀d,ZP ops p.o d=true∨p.o.dst=some d→Tm.get d (zp T x.o.dst v)=Tm.get d T:=fun p hp=>
     rV hA hxi (hM.inits p (.inl hp)) (hM.sep p x hp (by simp)) (hM.apart p x hp (by simp)) T v
    have JR: ∀p,p ∈ qD→Ud ops (zp T x.o.dst v) T p.o:=fun p hp d hd=>BV p hp d (.inl hd)
    have Vk:oS P F ops wT B w0 gh H0.next False qD R (zp T x.o.dst v) H1 V2 (a.put x.o.dst v') w2:=by
     refine⟨hW2,fun y hy=>hM.inits y (hy.imp id (fun h=>by simp [h])),fun p y hp hy=>hM.apart p y hp (by simp [hy]),fun p y hp hy=>hM.sep p y hp (by simp [hy]),fun p hp=> ?_,fun p q hp hq ha hb NT Sw=> ?_,fun p hp ha hw=> ?_,?_⟩
     ·exact(hM.PK p hp).move (BV p hp) rfl HK.ghost HK.next (fun _ _ hl h=>by rw [HK.j6 _ hl];exact h) nofun
     ·exact hM.gd p q hp hq ha hb (by rw [←(JR p hp).wanted];exact NT) (by rw [←(JR q hq).wanted];exact Sw)
     ·exact Nat.lt_of_lt_of_le (hM.gl p hp ha (by rw [←(JR p hp).wanted];exact hw)) HK.next
     exact Ds hM.pt HK.le hv hdx (fun t u hu=>xi hu) (fun p hp=> .inl hp)
    obtain⟨cR,Jo,Jq,T2,H2,hM3,hE3,Rp,NG,z52⟩:=enter hI hA hs dP Vk B0 (fun p hp cm=>xr p hp cm (eS p hp)) (Nat.le_trans hE.next HK.next)
    refine ih cR Jo Jq T2 H2 V2 _ w2 _ hM3 Rp (hL.add hxi cm fun y hy=> ?_) (by simp only [List.length_cons]at hk;omega) ((hE.trans HK).trans hE3) (by rw [Act.GK];exact Y2) (by rw [Act.UB];exact tD)
    rw [NG y]
    constructor
    ·rintro (h|h)
     ·exact⟨.inl h,hM.apart y x h (by simp)⟩
     exact⟨.inr (by simp [h]),(Ch y h).2.2⟩
    rintro ⟨h|h,wY⟩
    ·exact .inl h
    rcases List.mem_cons.1 h with rfl|h
    ·exact absurd rfl wY
    exact .inr h
end Go.Px
end
section
namespace Go.Px
open Go Go.RowKit
variable {P:Program} {F:zD} {G:(Nat→Int)→Prop} {V:qw} {B:Nat} {w0 w:World} {H:Hp} {ops:Array Oper}
def Dd (n:Nat) (l:List Oper):Bool:=l.all fun o=>match o.dst with
 |some d=>Nat.blt d n
 |none=>true
def codeOk (n:Nat):Code→Bool
 | .region _ ops _=>Dd n ops.toList
 | .seq a b=>codeOk n a && codeOk n b
 | .cond _ a b=>codeOk n a && codeOk n b
 | .block _ b=>codeOk n b
 | .loop b=>codeOk n b
 |_=>true
def cO (fn:Func):Bool:=(match fn.body with
 |some b=>codeOk fn.ntmps b && !(fn.name== "runtime.NumGoroutine")
 |none=>true)
structure L3 (P:Program):Prop where
 fns: ∀(f:FuncId) fn,P.funcs[f]? =some fn→cO fn=true
 mixed:P.follows .mixedOrders=true
theorem sW {n:Nat} {l:List Oper} (h:Dd n l=true): ∀o,o ∈ l→ ∀d,o.dst=some d→d<n:=by
 intro o ho d hd
 simp only [Dd,List.all_eq_true]at h
 have:=h o ho
 rw [hd]at this
 simpa using this
theorem yD.Pz (hW:yD B w0 V H w):yD B w0 V H { w with drawn:=w.drawn+1 } :=hW.drew
theorem cE (hP:L3 P) {rec:Rec} (hC:Zq P F G B w0 rec.call) {id:Nat} {T Tf:Tm} {Hf:Hp} {a:Act} {Q:Exit→Act→World→Prop} (hF:FG F G V.ρ) (hW:yD B w0 V H w) (hT:ZX V T a.tmps)
 (hd: ∀o,o ∈ ops.toList→ ∀d,o.dst=some d→d<a.tmps.size) (h:VW P F rec ops T H=some (Tf,Hf))
 (hQ: ∀V' a' w',Ext V V' H Hf→yD B w0 V' Hf w'→ZX V' Tf a'.tmps→a'.tmps.size=a.tmps.size→a'.defers=a.defers→Q .normal a' w'):(Code.region id ops true).wp P Q a w:=by
 refine wp_region_any hP.mixed ?_
 unfold VW at h
 split at h
 case h_2=>cases h
 rename_i ss Ub
 unfold UW at Ub
 split at Ub
 case h_2=>cases Ub
 rename_i wT z1A
 cases N5:Ue ops wT with
 |false=>rw [N5]at Ub;cases Ub
 |true=>
 rw [N5]at Ub
 simp only [cond_true]at Ub
 obtain⟨hI,hlen⟩:=cw z1A
 have hA:=dW N5
 have ND: ∀x,x ∈ wT→wT[x.i]? =some x:=by
  intro x hx
  obtain⟨k,hk⟩:=List.mem_iff_getElem?.1 hx
  rw [(hI.at_ k x hk).1];exact hk
 have NG: ∀x,x ∈ wT→x.o ∈ ops.toList:=by
  intro x hx
  have:=(hI.at_ x.i x (ND x hx)).2
  exact List.mem_of_getElem? (by rw [Array.getElem?_toList];exact this)
 have hM:oS P F ops wT B w0 (fun _=>0) H.next False [] wT T H V a { w with drawn:=w.drawn+1 } :=
  ⟨hW.Pz,fun x hx=>ND x (hx.resolve_left (by simp)),fun p _ hp=>by simp at hp,fun p _ hp=>by simp at hp,fun p hp=>by simp at hp,fun p _ hp=>by simp at hp,fun p hp=>by simp at hp,fun t x hx=> .inr (hT t x hx)⟩
 have B0:wT.Pairwise (fun x y=>x.i≠y.i):=by
  rw [List.pairwise_iff_getElem]
  intro i j hi hj LR e
  have h1:=(hI.at_ i wT[i] (List.getElem?_eq_getElem hi)).1
  have h2:=(hI.at_ j wT[j] (List.getElem?_eq_getElem hj)).1
  omega
 obtain⟨cR,Jo,Jq,T1,H1,VJ,hE1,kh,SF,SD⟩:=enter hI hA Ub h hM B0 (fun p hp=>by simp at hp) (Nat.le_refl _)
 refine ox hI hA hlen hC hF (fun x hx d PH=>hd x.o (NG x hx) d PH) hQ ops.size cR Jo Jq T1 H1 V a _ _ VJ kh ⟨by simp [hlen],fun x hx=> ?_,fun k x hx hl=> ?_⟩ (by simp at SD;omega) hE1 rfl rfl
 ·have uE:=(List.getElem?_eq_some_iff.1 hx).1
  rw [SF x]
  simp [show x.i<ops.size by omega,List.mem_of_getElem? hx]
 have uE:=(List.getElem?_eq_some_iff.1 hx).1
 simp [show k<ops.size by omega]at hl
def PY:ym→Exit→Prop
 | .normal,.normal=>True
 | .exit i,.exit j=>i=j
 | .ret,.ret=>True
 |_,_=>False
def dT (B:Nat) (w0:World) (V:qw) (H:Hp) (e:ym) (T':Tm) (H':Hp) (sz:Nat):Exit→Act→World→Prop:=fun x a' w'=>
 PY e x∧ ∃V',Ext V V' H H'∧yD B w0 V' H' w'∧ZX V' T' a'.tmps∧a'.defers= []∧a'.tmps.size=sz
def WR (P:Program) (b:Code) (Q:Exit→Act→World→Prop) (a:Act) (w:World):Prop:=
 ∀(f:Frame) (k:List Item) (cs:List Frame),∃e a' w',Q e a' w'∧Arrives P (lone (f.at a (.code b:: .inLoop b::k)) cs w) f k cs e a' w'
theorem WR.wp {b:Code} {Q:Exit→Act→World→Prop} {a:Act} (h:WR P b Q a w):(Code.loop b).wp P Q a w:=
 fun f k cs=>let ⟨e,a',w',q,r⟩:=h f k cs;⟨e,a',w',q,.of_steps (.one step_loop) r⟩
theorem WR.round {b:Code} {Q:Exit→Act→World→Prop} {a:Act} (h:b.wp P (Exit.then (WR P b Q) Q) a w):WR P b Q a w:=by
 intro f k cs
 obtain⟨e,a1,w1,hq,UH⟩:=h f (.inLoop b::k) cs
 have out: ∀e,e≠ .normal→Q e a1 w1→Arrives P (lone (f.at a (.code b:: .inLoop b::k)) cs w) f (.inLoop b::k) cs e a1 w1→ ∃e a' w',Q e a' w'∧Arrives P (lone (f.at a (.code b:: .inLoop b::k)) cs w) f k cs e a' w':=
  fun e wY hq UH=>⟨e,a1,w1,hq,.pass (x:= .inLoop b) rfl (fun _ _=> .inl wY) UH⟩
 cases e with
 |normal=>
  obtain⟨e2,a2,w2,LV,Rn⟩:=hq f k cs
  exact⟨e2,a2,w2,LV,.of_steps (Steps.trans UH (.one step_inLoop)) Rn⟩
 |exit id=>exact out _ (by simp) hq UH
 |goto l=>exact out _ (by simp) hq UH
 |ret=>exact out _ (by simp) hq UH
 |panic ch=>exact out _ (by simp) hq UH
 |outgrown=>exact out _ (by simp) hq UH
structure BE (P:Program) (F:zD) (G:(Nat→Int)→Prop) (B:Nat) (w0:World) (rec:Rec):Prop where
 code: ∀c T H e T' H',rec.code c T H=some (e,T',H')→ ∀n V w (a:Act),codeOk n c=true→n≤a.tmps.size→a.defers= []→FG F G V.ρ→yD B w0 V H w→ZX V T a.tmps→
  c.wp P (dT B w0 V H e T' H' a.tmps.size) a w∧ ∀b,c= .loop b→WR P b (dT B w0 V H e T' H' a.tmps.size) a w
 call:Zq P F G B w0 rec.call
theorem dT.after {V1:qw} {H1 H2:Hp} {e:ym} {T2:Tm} {sz sz1:Nat} (hE:Ext V V1 H H1) (hs:sz1=sz) {x:Exit} {a':Act} {w':World} (h:dT B w0 V1 H1 e T2 H2 sz1 x a' w'):dT B w0 V H e T2 H2 sz x a' w':=by
 obtain⟨h1,V',h2,h3,h4,h5,h6⟩:=h
 exact⟨h1,V',hE.trans h2,h3,h4,h5,by omega⟩
theorem fM (hP:L3 P) {rec:Rec} (hR:BE P F G B w0 rec) {c:Code} {T:Tm} {e:ym} {T':Tm} {H':Hp} (h:gD P F rec c T H=some (e,T',H')) {n:Nat} {a:Act} (gF:codeOk n c=true) (hn:n≤a.tmps.size) (tD:a.defers= [])
 (hF:FG F G V.ρ) (hW:yD B w0 V H w) (hT:ZX V T a.tmps):
 c.wp P (dT B w0 V H e T' H' a.tmps.size) a w∧ ∀b,c= .loop b→WR P b (dT B w0 V H e T' H' a.tmps.size) a w:=by
 have now: ∀x,PY e x→T'=T→H'=H→dT B w0 V H e T' H' a.tmps.size x a w:=fun x hx h1 h2=>by
  subst h1 h2;exact⟨hx,V,.refl V _,hW,hT,tD,rfl⟩
 cases c with
 |skip=>cases h;exact⟨wp_skip (now _ trivial rfl rfl),fun b hb=>by cases hb⟩
 |label l=>cases h;exact⟨wp_label (now _ trivial rfl rfl),fun b hb=>by cases hb⟩
 |exit id=>cases h;exact⟨wp_exit (now _ rfl rfl rfl),fun b hb=>by cases hb⟩
 |ret=>cases h;exact⟨wp_ret (now _ trivial rfl rfl),fun b hb=>by cases hb⟩
 |region id ops draw=>
  refine⟨?_,fun b hb=>by cases hb⟩
  simp only [gD]at h
  have hd: ∀o,o ∈ ops.toList→ ∀d,o.dst=some d→d<a.tmps.size:=fun o ho d hd=>Nat.lt_of_lt_of_le (sW (n:=n) gF o ho d hd) hn
  split at h
  case h_2=>cases h
  rename_i T1 H1 hr
  cases h
  cases draw with
  |true=>exact cE hP hR.call hF hW hT hd hr fun V' a' w' h1 h2 h3 h4 h5=>⟨trivial,V',h1,h2,h3,by rw [h5,tD],h4⟩
  |false=>
   refine wp_region ?_
   have:=AK (ops:=ops) (Q:=dT B w0 V H .normal T' H' a.tmps.size) hR.call ops.toList 0 T H V a w (fun k=>by simp) hd hF hW hT hr fun V' a' w' h1 h2 h3 h4 h5=>⟨trivial,V',h1,h2,h3,by rw [h5,tD],h4⟩
   rw [List.range_eq_range']
   simpa using this
 |seq x y=>
  refine⟨?_,fun b hb=>by cases hb⟩
  simp only [codeOk,Bool.and_eq_true]at gF
  simp only [gD]at h
  split at h
  ·rename_i T1 H1 h1
   refine wp_seq (wp_mono (hR.code _ _ _ _ _ _ h1 n V w a gF.1 hn tD hF hW hT).1 fun e1 a1 w1 hp=> ?_)
   obtain⟨he,V1,p1,p2,p3,p4,p5⟩:=hp
   cases e1<;>try (exact he.elim)
   exact wp_mono (hR.code _ _ _ _ _ _ h n V1 w1 a1 gF.2 (by omega) p4 (by rw [p1.le.ρ];exact hF) p2 p3).1 fun _ _ _ hq=>hq.after p1 p5
  rename_i wY
  refine wp_seq (wp_mono (hR.code _ _ _ _ _ _ h n V w a gF.1 hn tD hF hW hT).1 fun e1 a1 w1 hp=> ?_)
  cases e1 with
  |normal=>
   obtain⟨he,_⟩:=hp
   cases e<;>try (exact he.elim)
   exact absurd h (wY _ _)
  |exit id=>exact hp
  |goto l=>exact hp
  |ret=>exact hp
  |panic ch=>exact hp
  |outgrown=>exact hp
 |cond x y z=>
  refine⟨?_,fun b hb=>by cases hb⟩
  simp only [codeOk,Bool.and_eq_true]at gF
  simp only [gD]at h
  split at h
  case h_2=>cases h
  rename_i t hx
  have hv:=(rN hT hx).Wt
  refine wp_cond hv ?_
  cases t with
  |true=>exact(hR.code _ _ _ _ _ _ h n V w a gF.1 hn tD hF hW hT).1
  |false=>exact(hR.code _ _ _ _ _ _ h n V w a gF.2 hn tD hF hW hT).1
 |block id y=>
  refine⟨?_,fun b hb=>by cases hb⟩
  simp only [gD]at h
  split at h
  ·rename_i i T1 H1 h1
   refine wp_block (wp_mono (hR.code _ _ _ _ _ _ h1 n V w a gF hn tD hF hW hT).1 fun e1 a1 w1 hp=> ?_)
   obtain⟨he,av⟩:=hp
   cases e1<;>try (exact he.elim)
   rename_i j
   have he:i=j:=he
   subst he
   simp only [Exit.inBlock]
   cases hb:Nat.beq i id with
   |true=>
    rw [hb]at h;cases h
    rw [if_pos (Nat.eq_of_beq_eq_true hb)]
    exact⟨trivial,av⟩
   |false=>
    rw [hb]at h;cases h
    rw [if_neg (fun e=>by rw [e]at hb;simp at hb)]
    exact⟨rfl,av⟩
  rename_i wY
  refine wp_block (wp_mono (hR.code _ _ _ _ _ _ h n V w a gF hn tD hF hW hT).1 fun e1 a1 w1 hp=> ?_)
  cases e1 with
  |exit j=>
   obtain⟨he,_⟩:=hp
   cases e<;>try (exact he.elim)
   exact absurd h (wY _ _ _)
  |normal=>exact hp
  |goto l=>exact hp
  |ret=>exact hp
  |panic ch=>exact hp
  |outgrown=>exact hp
 |loop y=>
  have key:WR P y (dT B w0 V H e T' H' a.tmps.size) a w:=by
   simp only [gD]at h
   split at h
   ·rename_i T1 H1 h1
    refine .round (wp_mono (hR.code _ _ _ _ _ _ h1 n V w a gF hn tD hF hW hT).1 fun e1 a1 w1 hp=> ?_)
    obtain⟨he,V1,p1,p2,p3,p4,p5⟩:=hp
    cases e1<;>try (exact he.elim)
    have:=(hR.code _ _ _ _ _ _ h n V1 w1 a1 gF (by omega) p4 (by rw [p1.le.ρ];exact hF) p2 p3).2 y rfl
    intro f k cs
    obtain⟨e2,a2,w2,hq,UH⟩:=this f k cs
    exact⟨e2,a2,w2,hq.after p1 p5,UH⟩
   rename_i wY
   refine .round (wp_mono (hR.code _ _ _ _ _ _ h n V w a gF hn tD hF hW hT).1 fun e1 a1 w1 hp=> ?_)
   cases e1 with
   |normal=>
    obtain⟨he,_⟩:=hp
    cases e<;>try (exact he.elim)
    exact absurd h (wY _ _)
   |exit id=>exact hp
   |goto l=>exact hp
   |ret=>exact hp
   |panic ch=>exact hp
   |outgrown=>exact hp
  exact⟨key.wp,fun b hb=>by cases hb;exact key⟩
 |_=>cases h
end Go.Px
end
section
namespace Go.Px
open Go Go.RowKit
variable {P:Program} {F:zD} {G:(Nat→Int)→Prop} {V:qw} {B:Nat} {w0 w:World} {H:Hp} {ops:Array Oper}
def bW (tmps:Array Value):ResultVar→Sem Value
 | .tmp t=>pure (tmps.getD t undef)
 | .cell a t=>do loadVar t (←asAddr (tmps.getD a undef))
theorem dz (hW:yD B w0 V H w) {T:Tm} {tmps:Array Value} (hT:ZX V T tmps) {r:ResultVar} {v:z0} (h:Qq P T H r=some v):
 ∃v',zS V v v'∧(bW tmps r).run P w= .ok v' w:=by
 cases r with
 |tmp t=>
  obtain⟨u,h1,h2⟩:=hT t v h
  exact⟨u,h2,by simp [bW,Array.getD_eq_getD_getElem?,h1]⟩
 |cell a t=>
  simp only [Qq]at h
  split at h
  case h_2=>cases h
  rename_i i off ha
  obtain⟨u,h1,h2⟩:=hT a _ ha
  obtain⟨b,base,S,hb,rfl⟩:=h2.Za
  obtain⟨v',h3,h4⟩:=Jk (P:=P) hW hb h
  exact⟨v',h3,by simp [bW,Array.getD_eq_getD_getElem?,h1,asAddr,h4]⟩
theorem bX (hW:yD B w0 V H w) {T:Tm} {tmps:Array Value} (hT:ZX V T tmps): ∀ {rs:List ResultVar} {vs:List z0},wR P T H rs=some vs→
 ∃us,yw V vs us∧(rs.mapM (bW tmps)).run P w= .ok us w:=by
 intro rs
 induction rs with
 |nil=>intro vs h;cases h;exact⟨[],.nil,by simp⟩
 |cons r rs ih=>
  intro vs h
  simp only [wR]at h
  split at h
  case h_2=>cases h
  rename_i v vs' h1 h2
  cases h
  obtain⟨u,h3,h4⟩:=dz hW hT h1
  obtain⟨us,h5,h6⟩:=ih h2
  refine⟨u::us,.cons h3 h5,?_⟩
  rw [List.mapM_cons]
  simp only [Sem.run_bind,h4,Result.andThen_ok,h6,Sem.run_pure]
theorem oW: ∀ {vs:List z0} {i:Nat} {T:Tm} {x:Array Value},(∀(j:Nat) v,vs[j]? =some v→ ∃u,x[i+j]? =some u∧zS V v u)→ZX V T x→ZX V (WX vs i T) x:=by
 intro vs
 induction vs with
 |nil=>intro i T x _ hT;exact hT
 |cons v vs ih=>
  intro i T x h hT
  refine ih (fun j u hj=> ?_) (fun t a ha=> ?_)
  ·have:=h (j+1) u (by simpa using hj)
   rwa [show i+1+j=i+(j+1)by omega]
  rcases Tm.get_put i t v T a ha with⟨rfl,rfl⟩|⟨_,h2⟩
  ·have:=h 0 a rfl
   simpa using this
  exact hT t a h2
theorem fE (hP:L3 P) {rec:Rec} (hR:BE P F G B w0 rec):Zq P F G B w0 (Vv P rec):=by
 intro f args H v H' h
 unfold Vv at h
 split at h
 case h_1=>cases h
 rename_i fn hf
 split at h
 case h_1=>cases h
 rename_i b hb
 have gF:=hP.fns f fn hf
 simp only [cO,hb,Bool.and_eq_true,Bool.not_eq_true']at gF
 refine⟨⟨fn,hf,gF.2,by rw [hb];rfl⟩,fun V w uG hF hW hl=> ?_⟩
 have hlen:=hl.length
 have hT:ZX V (WX args 0 (Tm.mk (fn.ntmps/16+1))) (uG++Array.replicate (fn.ntmps-uG.size) undef):=by
  refine oW (fun j u hj=> ?_) (fun t a ha=>by rw [Tm.Mu]at ha;cases ha)
  obtain⟨u',h1,h2⟩:=hl.at j u hj
  rw [Array.getElem?_toList]at h1
  have uE:j<uG.size:=(Array.getElem?_eq_some_iff.1 h1).1
  exact⟨u',by rw [Nat.zero_add,Array.getElem?_append_left uE];exact h1,h2⟩
 have Y2:fn.ntmps≤(uG++Array.replicate (fn.ntmps-uG.size) undef).size:=by simp;omega
 have fin: ∀e T1 H1,rec.code b (WX args 0 (Tm.mk (fn.ntmps/16+1))) H=some (e,T1,H1)→(e= .normal∨e= .ret)→(match wR P T1 H1 fn.results.toList with
  |some [v]=>some (v,H1)
  |some vs=>some (.tuple vs,H1)
  |none=>none)=some (v,H')→Calls P f uG w fun e w'=> ∃V' v',e= .returned v'∧Ext V V' H H'∧yD B w0 V' H' w'∧zS V' v v':=by
  intro e T1 H1 h1 he iY
  refine calls_of_wp hf hb (wp_mono (hR.code _ _ _ _ _ _ h1 fn.ntmps V w ⟨_,[]⟩ gF.1 Y2 rfl hF hW hT).1 fun x a' w' hp=> ?_)
  obtain⟨hx,V',p1,p2,p3,p4,p5⟩:=hp
  have Rs:a'.defers= []∧ ∃v',(results fn a'.tmps).run P w'= .ok v' w'∧ ∃V' v'',Ending.returned v'= .returned v''∧Ext V V' H H'∧yD B w0 V' H' w'∧zS V' v v'':=by
   refine⟨p4,?_⟩
   cases Sa:wR P T1 H1 fn.results.toList with
   |none=>rw [Sa]at iY;cases iY
   |some vs=>
    rw [Sa]at iY
    obtain⟨us,q1,q2⟩:=bX p2 p3 Sa
    have uZ: ∀u,(if h:us.toArray.size=1 then us.toArray[0]else .tuple us.toArray)=u→(results fn a'.tmps).run P w'= .ok u w':=by
     intro u hu
     have e:results fn a'.tmps=(do
      let vs←fn.results.mapM (bW a'.tmps)
      pure (if h:vs.size=1 then vs[0]else .tuple vs)):=by
      unfold results
      congr 1
     rw [e,Array.mapM_eq_mapM_toList]
     simp only [map_eq_pure_bind,Sem.run_bind,bind_assoc,pure_bind]
     rw [q2]
     simp only [Result.andThen_ok,Sem.run_pure,hu]
    cases vs with
    |nil=>
     cases q1
     cases iY
     exact⟨_,uZ _ rfl,V',_,rfl,p1,p2,zS.UZ .nil⟩
    |cons x vs=>
     cases q1 with
     |cons hx PE=>
     cases vs with
     |nil=>
      cases PE
      cases iY
      exact⟨_,uZ _ rfl,V',_,rfl,p1,p2,by simpa using hx⟩
     |cons y vs=>
      cases PE with
      |cons hy PE=>
      cases iY
      exact⟨_,uZ _ rfl,V',_,rfl,p1,p2,by simpa using zS.UZ (.cons hx (.cons hy PE))⟩
  cases x with
  |normal=>exact Rs
  |ret=>exact Rs
  |exit i=>rcases he with rfl|rfl<;>exact hx.elim
  |goto i=>rcases he with rfl|rfl<;>exact hx.elim
  |panic c=>rcases he with rfl|rfl<;>exact hx.elim
  |outgrown=>rcases he with rfl|rfl<;>exact hx.elim
 split at h
 ·cases h
 ·rename_i e T1 H1 wY h1
  refine fin e T1 H1 h1 ?_ h
  cases e with
  |normal=>exact .inl rfl
  |ret=>exact .inr rfl
  |exit i=>exact(wY i rfl).elim
 cases h
def GZ (P:Program) (F:zD) (G:(Nat→Int)→Prop) (B:Nat) (w0:World) (zB:yy):Prop:= ∀f g,zB f=some g→Zq P F G B w0 fun f' args H=>if f'=f then g args H else none
theorem UF (hP:L3 P) {zB:yy} (hH:GZ P F G B w0 zB): ∀n,BE P F G B w0 (exec P F zB n):=by
 intro n
 induction n with
 |zero=>exact⟨fun _ _ _ _ _ _ h=>(by cases h),fun _ _ _ _ _ h=>(by cases h)⟩
 |succ n ih=>
  refine⟨fun c T H e T' H' h n V w a gF hn tD hF hW hT=>fM hP ih h gF hn tD hF hW hT,?_⟩
  intro f args H v H' h
  have h':(match zB f with
   |some g=>g args H
   |none=>Vv P (exec P F zB n) f args H)=some (v,H'):=h
  cases hk:zB f with
  |none=>rw [hk]at h';exact fE hP ih f args H v H' h'
  |some g=>rw [hk]at h';exact hH f g hk f args H v H' (by simpa using h')
theorem sM:GZ P F G B w0 (fun _=>none):=fun _ _ h=>by cases h
theorem lv (hP:L3 P) {zB:yy} {ρ:Nat→Int} (hF:FG F G ρ) (hH: ∀B w0,GZ P F G B w0 zB) {n:Nat} {f:FuncId} {args:List z0} {H':Hp} {x:Array Value}
 (h:(exec P F zB n).call f args ⟨.nil,0⟩=some (.bool true,H')) (hx:yw ⟨ρ,fun _=>none,0⟩ args x.toList) (w:World):
 Calls P f x w fun e w'=>e= .returned (.bool true)∧Below w.heap.size w w'∧ ∀b arr el z,w.heap.size≤b→w'.heap[b]? =some (.cells arr el z)→z=(0,0):=by
 have hR:=UF (B:=w.heap.size) (w0:=w) hP (hH _ _) n
 have hW:yD w.heap.size w ⟨ρ,fun _=>none,0⟩ ⟨.nil,0⟩ w:=by
  refine⟨.refl _ _,Nat.le_refl _,fun id _=>⟨rfl,by rw [Tr.get_nil]⟩,fun id b base S h=>(by cases h),fun id o b base S _ h=>(by cases h),fun id nZ o o' b b' ba Pj S S' _ _ h=>(by cases h),fun b arr el z hb h=> ?_,Nat.zero_le _⟩
  have:=(Array.getElem?_eq_some_iff.1 h).1
  omega
 refine((hR.call f args _ _ _ h).2 _ w x hF hW hx).mono fun e w' he=> ?_
 obtain⟨V',v',rfl,h1,h2,h3⟩:=he
 cases h3
 exact⟨rfl,h2.below,h2.fz⟩
theorem fF (hP:L3 P) {zB:yy} {w:World} (hF:FG F G V.ρ) (hH:GZ P F G w.heap.size w zB) (hW:yD w.heap.size w V H w) {n:Nat} {f:FuncId} {args:List z0} {H':Hp} {x:Array Value}
 (h:(exec P F zB n).call f args H=some (.bool true,H')) (hx:yw V args x.toList):
 Calls P f x w fun e w'=>e= .returned (.bool true)∧Below w.heap.size w w'∧ ∀b arr el z,w.heap.size≤b→w'.heap[b]? =some (.cells arr el z)→z=(0,0):=by
 have hR:=UF (B:=w.heap.size) (w0:=w) hP hH n
 refine((hR.call f args _ _ _ h).2 _ w x hF hW hx).mono fun e w' he=> ?_
 obtain⟨V',v',rfl,h1,h2,h3⟩:=he
 cases h3
 exact⟨rfl,h2.below,h2.fz⟩
theorem CS {W w':World} (h:Below W.heap.size W w') (hz: ∀(b:Nat) arr el z,W.heap.size≤b→w'.heap[b]? =some (.cells arr el z)→z=(0,0)):Grown W w':=by
 refine⟨h.frame _,fun a=> ?_,h.size⟩
 by_cases hb:a.block<W.heap.size
 ·simp only [World.frozen?,h.block a.block hb]
 have e1:W.frozen? a=false:=by
  have:W.heap[a.block]? =none:=Array.getElem?_eq_none (by omega)
  simp only [World.frozen?,this]
 rw [e1]
 unfold World.frozen?
 split
 ·rename_i arr el lo hi he
  have:=hz a.block arr el (lo,hi) (by omega) he
  cases this
  simp
 rfl
end Go.Px
end
namespace Go.Px
open Go Go.RowKit
def Tm.len:Tm→Nat
 | .nil=>0
 | .node _ _ _ _ _ _ _ _ _ _ _ _ _ _ _ _ nx=>nx.len+1
theorem Tm.Lv (i:U7) (v:z0) (t:Tm):(Tm.s i v t).len=t.len:=by
 cases t with
 |nil=>rw [Tm.pq]
 |node=>cases i<;>rfl
section
variable (P:Program) (F:zD) (zB:yy)
def JL (f:FuncId) (args:List z0) (H:Hp) (v:z0) (H':Hp):Prop:= ∃n,∀m,n≤m→(exec P F zB m).call f args H=some (v,H')
def qS (c:Code) (T:Tm) (H:Hp) (e:ym) (T':Tm) (H':Hp):Prop:= ∃n,∀m,n≤m→(exec P F zB m).code c T H=some (e,T',H')
def xI (ops:Array Oper) (l:List Oper) (T:Tm) (H:Hp) (T':Tm) (H':Hp):Prop:= ∃n,∀m,n≤m→Qs P F (exec P F zB m) ops l T H=some (T',H')
def FK (ops:Array Oper) (o:Oper) (T:Tm) (H:Hp) (T':Tm) (H':Hp):Prop:= ∃n,∀m,n≤m→ZS P F (exec P F zB m) ops T H o=some (T',H')
end
section
variable {P:Program} {F:zD} {zB:yy}
theorem gR {c:Code} {T:Tm} {H:Hp} {e:ym} {T':Tm} {H':Hp} (n:Nat) (h: ∀m,n≤m→gD P F (exec P F zB m) c T H=some (e,T',H')):qS P F zB c T H e T' H':=
 ⟨n+1,fun m hm=>by
  obtain⟨k,rfl⟩: ∃k,m=k+1:=⟨m-1,by omega⟩
  exact h k (by omega)⟩
theorem qS.skip (T:Tm) (H:Hp):qS P F zB .skip T H .normal T H:=gR 0 fun _ _=>rfl
theorem qS.ret (T:Tm) (H:Hp):qS P F zB .ret T H .ret T H:=gR 0 fun _ _=>rfl
theorem qS.exit (i:Nat) (T:Tm) (H:Hp):qS P F zB (.exit i) T H (.exit i) T H:=gR 0 fun _ _=>rfl
theorem qS.seq {a b:Code} {T:Tm} {H:Hp} {T1:Tm} {H1:Hp} {e:ym} {T2:Tm} {H2:Hp} (h1:qS P F zB a T H .normal T1 H1) (h2:qS P F zB b T1 H1 e T2 H2):qS P F zB (.seq a b) T H e T2 H2:=by
 obtain⟨n1,h1⟩:=h1
 obtain⟨n2,h2⟩:=h2
 refine gR (max n1 n2) fun m hm=> ?_
 simp only [gD,h1 m (by omega)]
 exact h2 m (by omega)
theorem qS.ew {a b:Code} {T:Tm} {H:Hp} {e:ym} {T2:Tm} {H2:Hp} (h1:qS P F zB a T H e T2 H2) (he:e≠ .normal):qS P F zB (.seq a b) T H e T2 H2:=by
 obtain⟨n1,h1⟩:=h1
 refine gR n1 fun m hm=> ?_
 simp only [gD,h1 m hm]
 cases e with
 |normal=>exact absurd rfl he
 |exit i=>rfl
 |ret=>rfl
theorem qS.cond {x:Operand} {t:Bool} {a b:Code} {T:Tm} {H:Hp} {e:ym} {T2:Tm} {H2:Hp} (hx:zK T x=some (.bool t)) (h:qS P F zB (bif t then a else b) T H e T2 H2):qS P F zB (.cond x a b) T H e T2 H2:=by
 obtain⟨n,h⟩:=h
 refine gR n fun m hm=> ?_
 simp only [gD,hx]
 exact h m hm
theorem qS.block {id:Nat} {b:Code} {T:Tm} {H:Hp} {e:ym} {T2:Tm} {H2:Hp} (h:qS P F zB b T H e T2 H2):qS P F zB (.block id b) T H (match e with
 | .exit i=>bif Nat.beq i id then .normal else .exit i
 |e=>e) T2 H2:=by
 obtain⟨n,h⟩:=h
 refine gR n fun m hm=> ?_
 simp only [gD,h m hm]
 cases e<;>rfl
theorem qS.loop {b:Code} {T:Tm} {H:Hp} {T1:Tm} {H1:Hp} {e:ym} {T2:Tm} {H2:Hp} (h1:qS P F zB b T H .normal T1 H1) (h2:qS P F zB (.loop b) T1 H1 e T2 H2):qS P F zB (.loop b) T H e T2 H2:=by
 obtain⟨n1,h1⟩:=h1
 obtain⟨n2,h2⟩:=h2
 refine gR (max n1 n2) fun m hm=> ?_
 simp only [gD,h1 m (by omega)]
 exact h2 m (by omega)
theorem qS.DJ {b:Code} {T:Tm} {H:Hp} {e:ym} {T2:Tm} {H2:Hp} (h1:qS P F zB b T H e T2 H2) (he:e≠ .normal):qS P F zB (.loop b) T H e T2 H2:=by
 obtain⟨n1,h1⟩:=h1
 refine gR n1 fun m hm=> ?_
 simp only [gD,h1 m hm]
 cases e with
 |normal=>exact absurd rfl he
 |exit i=>rfl
 |ret=>rfl
theorem qS.region {id:Nat} {ops:Array Oper} {T:Tm} {H:Hp} {T2:Tm} {H2:Hp} (h:xI P F zB ops ops.toList T H T2 H2):qS P F zB (.region id ops false) T H .normal T2 H2:=by
 obtain⟨n,h⟩:=h
 refine gR n fun m hm=> ?_
 simp only [gD,cond_false,h m hm]
theorem xI.nil (ops:Array Oper) (T:Tm) (H:Hp):xI P F zB ops [] T H T H:=⟨0,fun _ _=>rfl⟩
theorem xI.cons {ops:Array Oper} {o:Oper} {l:List Oper} {T:Tm} {H:Hp} {T1:Tm} {H1:Hp} {T2:Tm} {H2:Hp} (h1:FK P F zB ops o T H T1 H1) (h2:xI P F zB ops l T1 H1 T2 H2):xI P F zB ops (o::l) T H T2 H2:=by
 obtain⟨n1,h1⟩:=h1
 obtain⟨n2,h2⟩:=h2
 refine⟨max n1 n2,fun m hm=> ?_⟩
 simp only [Qs,h1 m (by omega)]
 exact h2 m (by omega)
theorem FK.val {ops:Array Oper} {o:Oper} {T:Tm} {H:Hp} {v:z0} {H':Hp} (hg:zP ops T o=some true) (h:yd P F T H o=some (.val v H')):FK P F zB ops o T H (zp T o.dst v) H':=
 ⟨0,fun m _=>by simp only [ZS,hg,Yc,h]⟩
theorem FK.call {ops:Array Oper} {o:Oper} {T:Tm} {H:Hp} {f:FuncId} {args:List z0} {v:z0} {H':Hp} (hg:zP ops T o=some true) (h:yd P F T H o=some (.call f args)) (hc:JL P F zB f args H v H'):FK P F zB ops o T H (zp T o.dst v) H':=by
 obtain⟨n,hc⟩:=hc
 exact⟨n,fun m hm=>by simp only [ZS,hg,Yc,h,hc m hm]⟩
theorem FK.off {ops:Array Oper} {o:Oper} {T:Tm} {H:Hp} (hg:zP ops T o=some false):FK P F zB ops o T H (zp T o.dst unit) H:=
 ⟨0,fun m _=>by simp only [ZS,hg]⟩
theorem JL.intro {f:FuncId} {fn:Func} {b:Code} {args:List z0} {H:Hp} {e:ym} {T1:Tm} {H':Hp} {vs:List z0} (hk:zB f=none) (hf:P.funcs[f]? =some fn) (hb:fn.body=some b)
 (h:qS P F zB b (WX args 0 (Tm.mk (fn.ntmps/16+1))) H e T1 H') (he:e= .normal∨e= .ret) (hr:wR P T1 H' fn.results.toList=some vs):
 JL P F zB f args H (match vs with
  | [v]=>v
  |vs=> .tuple vs) H':=by
 obtain⟨n,h⟩:=h
 refine⟨n+1,fun m hm=> ?_⟩
 obtain⟨k,rfl⟩: ∃k,m=k+1:=⟨m-1,by omega⟩
 have e1:(exec P F zB (k+1)).call f args H=(match zB f with
  |some h=>h args H
  |none=>Vv P (exec P F zB k) f args H):=rfl
 rw [e1,hk]
 simp only [Vv,hf,hb,h k (by omega)]
 rcases he with rfl|rfl<;>(simp only [hr];match vs with
  | []=>rfl
  | [_]=>rfl
  |_::_::_=>rfl)
theorem JL.ok {G:(Nat→Int)→Prop} {B:Nat} {w0:World} (hP:L3 P) (hH:GZ P F G B w0 zB) {f:FuncId} {g:List z0→Hp→Option (z0×Hp)} (h: ∀args H v H',g args H=some (v,H')→JL P F zB f args H v H'):
 Zq P F G B w0 fun f' args H=>if f'=f then g args H else none:=by
 intro f' args H v H' hh
 simp only at hh
 split at hh
 case isFalse=>cases hh
 rename_i hf
 subst hf
 obtain⟨n,hn⟩:=h args H v H' hh
 exact(UF hP hH n).call f' args H v H' (hn n (Nat.le_refl _))
end
section
variable (P:Program) (F:zD) (zB:yy)
def YT (f:FuncId) (args:List z0) (H:Hp) (Q:z0→Hp→Prop):Prop:= ∃v H',JL P F zB f args H v H'∧Q v H'
def Zs (c:Code) (T:Tm) (H:Hp) (Q:ym→Tm→Hp→Prop):Prop:= ∃e T' H',qS P F zB c T H e T' H'∧Q e T' H'
def uY (ops:Array Oper):List Oper→Tm→Hp→(Tm→Hp→Prop)→Prop
 | [],T,H,Q=>Q T H
 |o::l,T,H,Q=>match zP ops T o with
  |some true=>match yd P F T H o with
   |some (.val v H')=>uY ops l (zp T o.dst v) H' Q
   |some (.call f zC0)=>YT P F zB f zC0 H fun v H'=>uY ops l (zp T o.dst v) H' Q
   |none=>False
  |some false=>uY ops l (zp T o.dst unit) H Q
  |none=>False
def wS:Code→Tm→Hp→(ym→Tm→Hp→Prop)→Prop
 | .skip,T,H,Q=>Q .normal T H
 | .label _,T,H,Q=>Q .normal T H
 | .region _ ops false,T,H,Q=>uY P F zB ops ops.toList T H fun T H=>Q .normal T H
 | .seq a b,T,H,Q=>wS a T H fun e T H=>match e with
  | .normal=>wS b T H Q
  |e=>Q e T H
 | .cond x a b,T,H,Q=>match zK T x with
  |some (.bool t)=>(t=true→wS a T H Q)∧(t=false→wS b T H Q)
  |_=>False
 | .block id b,T,H,Q=>wS b T H fun e T H=>match e with
  | .exit i=>bif Nat.beq i id then Q .normal T H else Q (.exit i) T H
  |e=>Q e T H
 | .exit id,T,H,Q=>Q (.exit id) T H
 | .ret,T,H,Q=>Q .ret T H
 |c,T,H,Q=>Zs P F zB c T H Q
end
section
variable {P:Program} {F:zD} {zB:yy}
theorem lG {ops:Array Oper} : ∀ {l:List Oper} {T:Tm} {H:Hp} {Q:Tm→Hp→Prop},uY P F zB ops l T H Q→ ∃T' H',xI P F zB ops l T H T' H'∧Q T' H':=by
 intro l
 induction l with
 |nil=>intro T H Q h;exact⟨T,H,xI.nil _ _ _,h⟩
 |cons o l ih=>
  intro T H Q h
  simp only [uY]at h
  split at h
  ·rename_i hw
   split at h
   ·rename_i v H1 ha
    obtain⟨T2,H2,h1,h2⟩:=ih h
    exact⟨T2,H2,xI.cons (FK.val hw ha) h1,h2⟩
   ·rename_i f args ha
    obtain⟨v,H1,hc,h⟩:=h
    obtain⟨T2,H2,h1,h2⟩:=ih h
    exact⟨T2,H2,xI.cons (FK.call hw ha hc) h1,h2⟩
   exact h.elim
  ·rename_i hw
   obtain⟨T2,H2,h1,h2⟩:=ih h
   exact⟨T2,H2,xI.cons (FK.off hw) h1,h2⟩
  exact h.elim
theorem Zs.imp {c:Code} {T:Tm} {H:Hp} {Q Q':ym→Tm→Hp→Prop} (h:Zs P F zB c T H Q) (hq: ∀e T H,Q e T H→Q' e T H):Zs P F zB c T H Q':=by
 obtain⟨e,T1,H1,h1,h2⟩:=h
 exact⟨e,T1,H1,h1,hq _ _ _ h2⟩
theorem mD: ∀ {c:Code} {T:Tm} {H:Hp} {Q:ym→Tm→Hp→Prop},wS P F zB c T H Q→Zs P F zB c T H Q:=by
 intro c
 induction c with
 |skip=>intro T H Q h;exact⟨_,_,_,qS.skip T H,h⟩
 |label l=>intro T H Q h;exact⟨_,_,_,gR 0 fun _ _=>rfl,h⟩
 |region id ops draw=>
  intro T H Q h
  cases draw with
  |true=>exact h
  |false=>
   obtain⟨T1,H1,h1,h2⟩:=lG h
   exact⟨_,_,_,qS.region h1,h2⟩
 |seq a b iha ihb=>
  intro T H Q h
  obtain⟨e,T1,H1,h1,h2⟩:=iha h
  cases e with
  |normal=>
   obtain⟨e2,T2,H2,h3,h4⟩:=ihb h2
   exact⟨e2,T2,H2,qS.seq h1 h3,h4⟩
  |exit i=>exact⟨_,T1,H1,qS.ew h1 nofun,h2⟩
  |ret=>exact⟨_,T1,H1,qS.ew h1 nofun,h2⟩
 |cond x a b iha ihb=>
  intro T H Q h
  simp only [wS]at h
  split at h
  ·rename_i t ht
   cases t with
   |true=>
    obtain⟨e,T1,H1,h1,h2⟩:=iha (h.1 rfl)
    exact⟨e,T1,H1,qS.cond ht h1,h2⟩
   |false=>
    obtain⟨e,T1,H1,h1,h2⟩:=ihb (h.2 rfl)
    exact⟨e,T1,H1,qS.cond ht h1,h2⟩
  exact h.elim
 |block id b ih=>
  intro T H Q h
  obtain⟨e,T1,H1,h1,h2⟩:=ih h
  refine⟨_,T1,H1,qS.block h1,?_⟩
  cases e with
  |normal=>exact h2
  |exit i=>
   simp only at h2 ⊢
   cases hb:Nat.beq i id<;>simp only [hb,cond_true,cond_false]at h2 ⊢ <;>exact h2
  |ret=>exact h2
 |exit id=>intro T H Q h;exact⟨_,_,_,qS.exit id T H,h⟩
 |ret=>intro T H Q h;exact⟨_,_,_,qS.ret T H,h⟩
 |loop b ih=>intro T H Q h;exact h
 |rangeFunc f ps a b iha ihb=>intro T H Q h;exact h
 |scope b ih=>intro T H Q h;exact h
 |goto l=>intro T H Q h;exact h
 |refuse w=>intro T H Q h;exact h
theorem Zs.loop {b:Code} {T:Tm} {H:Hp} {Q:ym→Tm→Hp→Prop} (I:Nat→Tm→Hp→Prop) (n:Nat) (h0:I n T H)
 (hs: ∀k T H,I k T H→Zs P F zB b T H fun e T' H'=>(e= .normal∧ ∃j,j<k∧I j T' H')∨(e≠ .normal∧Q e T' H')):Zs P F zB (.loop b) T H Q:=by
 induction n using Nat.strongRecOn generalizing T H with
 |ind n ih=>
  obtain⟨e,T1,H1,h1,h2⟩:=hs n T H h0
  rcases h2 with⟨rfl,j,hj,hI⟩|⟨wY,hq⟩
  ·obtain⟨e2,T2,H2,h3,h4⟩:=ih j hj hI
   exact⟨e2,T2,H2,qS.loop h1 h3,h4⟩
  exact⟨e,T1,H1,qS.DJ h1 wY,hq⟩
theorem YT.intro {f:FuncId} {fn:Func} {b:Code} {args:List z0} {H:Hp} {Q:z0→Hp→Prop} (hk:zB f=none) (hf:P.funcs[f]? =some fn) (hb:fn.body=some b)
 (h:wS P F zB b (WX args 0 (Tm.mk (fn.ntmps/16+1))) H fun e T' H'=>(e= .normal∨e= .ret)∧match wR P T' H' fn.results.toList with
  |some [v]=>Q v H'
  |some vs=>Q (.tuple vs) H'
  |none=>False):YT P F zB f args H Q:=by
 obtain⟨e,T1,H1,h1,he,h2⟩:=mD h
 cases hr:wR P T1 H1 fn.results.toList with
 |none=>rw [hr]at h2;exact h2.elim
 |some vs=>
  refine⟨_,H1,JL.intro hk hf hb h1 he hr,?_⟩
  rw [hr]at h2
  match vs,h2 with
  | [],h2=>exact h2
  | [_],h2=>exact h2
  |_::_::_,h2=>exact h2
theorem YT.mono {f:FuncId} {args:List z0} {H:Hp} {Q Q':z0→Hp→Prop} (h:YT P F zB f args H Q) (hq: ∀v H',Q v H'→Q' v H'):YT P F zB f args H Q':=by
 obtain⟨v,H1,h1,h2⟩:=h
 exact⟨v,H1,h1,hq _ _ h2⟩
theorem YT.of {f:FuncId} {args:List z0} {H:Hp} {v:z0} {H':Hp} (h:YT P F zB f args H fun v' MG=>v'=v∧MG=H'):JL P F zB f args H v H':=by
 obtain⟨v1,H1,h1,rfl,rfl⟩:=h
 exact h1
variable {ops:Array Oper} {o:Oper} {l:List Oper} {T:Tm} {H:Hp} {Q:Tm→Hp→Prop}
theorem qz {v:z0} {H':Hp} (hw:zP ops T o=some true) (ha:yd P F T H o=some (.val v H')) (h:uY P F zB ops l (zp T o.dst v) H' Q):uY P F zB ops (o::l) T H Q:=by
 simp only [uY,hw,ha];exact h
theorem Oc (hw:zP ops T o=some false) (h:uY P F zB ops l (zp T o.dst unit) H Q):uY P F zB ops (o::l) T H Q:=by
 simp only [uY,hw];exact h
theorem Kp {f:FuncId} {zC0:List z0} {Q':z0→Hp→Prop} (hw:zP ops T o=some true) (ha:yd P F T H o=some (.call f zC0)) (hc:YT P F zB f zC0 H Q') (h: ∀v H',Q' v H'→uY P F zB ops l (zp T o.dst v) H' Q):uY P F zB ops (o::l) T H Q:=by
 simp only [uY,hw,ha];exact hc.mono h
theorem Od {a b:Code} {Q:ym→Tm→Hp→Prop} (h:wS P F zB a T H fun e T H=>match e with
 | .normal=>wS P F zB b T H Q
 |e=>Q e T H):wS P F zB (.seq a b) T H Q:=h
theorem Kr {x:Operand} {a b:Code} {Q:ym→Tm→Hp→Prop} (hx:zK T x=some (.bool true)) (h:wS P F zB a T H Q):wS P F zB (.cond x a b) T H Q:=by
 simp only [wS,hx];exact⟨fun _=>h,fun e=>by cases e⟩
theorem F5 {x:Operand} {a b:Code} {Q:ym→Tm→Hp→Prop} (hx:zK T x=some (.bool false)) (h:wS P F zB b T H Q):wS P F zB (.cond x a b) T H Q:=by
 simp only [wS,hx];exact⟨fun e=>(by cases e),fun _=>h⟩
theorem F3 {id:Nat} {b:Code} {Q:ym→Tm→Hp→Prop} (h:wS P F zB b T H fun e T H=>match e with
 | .exit i=>bif Nat.beq i id then Q .normal T H else Q (.exit i) T H
 |e=>Q e T H):wS P F zB (.block id b) T H Q:=h
theorem dG: ∀ {l:List Oper} {T:Tm} {H:Hp} {Q Q':Tm→Hp→Prop},uY P F zB ops l T H Q→(∀T H,Q T H→Q' T H)→uY P F zB ops l T H Q':=by
 intro l
 induction l with
 |nil=>intro T H Q Q' h hq;exact hq _ _ h
 |cons o l ih=>
  intro T H Q Q' h hq
  simp only [uY]at h ⊢
  split at h
  ·split at h
   ·exact ih h hq
   ·exact h.mono fun v H' h=>ih h hq
   exact h.elim
  ·exact ih h hq
  exact h.elim
theorem ZI: ∀ {c:Code} {T:Tm} {H:Hp} {Q Q':ym→Tm→Hp→Prop},wS P F zB c T H Q→(∀e T H,Q e T H→Q' e T H)→wS P F zB c T H Q':=by
 intro c
 induction c with
 |skip=>intro T H Q Q' h hq;exact hq _ _ _ h
 |label l=>intro T H Q Q' h hq;exact hq _ _ _ h
 |region id ops draw=>
  intro T H Q Q' h hq
  cases draw with
  |true=>exact Zs.imp h hq
  |false=>exact dG h fun T H h=>hq _ _ _ h
 |seq a b iha ihb=>
  intro T H Q Q' h hq
  refine iha h fun e T H h=> ?_
  cases e with
  |normal=>exact ihb h hq
  |exit i=>exact hq _ _ _ h
  |ret=>exact hq _ _ _ h
 |cond x a b iha ihb=>
  intro T H Q Q' h hq
  simp only [wS]at h ⊢
  split at h
  ·exact⟨fun e=>iha (h.1 e) hq,fun e=>ihb (h.2 e) hq⟩
  exact h.elim
 |block id b ih=>
  intro T H Q Q' h hq
  refine ih h fun e T H h=> ?_
  cases e with
  |normal=>exact hq _ _ _ h
  |exit i=>
   simp only at h ⊢
   cases hb:Nat.beq i id<;>simp only [hb,cond_true,cond_false]at h ⊢ <;>exact hq _ _ _ h
  |ret=>exact hq _ _ _ h
 |exit id=>intro T H Q Q' h hq;exact hq _ _ _ h
 |ret=>intro T H Q Q' h hq;exact hq _ _ _ h
 |loop b ih=>intro T H Q Q' h hq;exact Zs.imp h hq
 |rangeFunc f ps a b iha ihb=>intro T H Q Q' h hq;exact Zs.imp h hq
 |scope b ih=>intro T H Q Q' h hq;exact Zs.imp h hq
 |goto l=>intro T H Q Q' h hq;exact Zs.imp h hq
 |refuse w=>intro T H Q Q' h hq;exact Zs.imp h hq
theorem lB {t:TypeId} {x:Operand} {n:Nat} {fs:Array Field} {f:Field} {sz i off:Nat} (ho:o.op= .fieldAddr t x n) (hu:yj P t=some (.struct fs)) (hf:fs[n]? =some f) (hs:yb P f.type=some (sz+1))
 (hx:zK T x=some (.ptr (some (i,off)))):yd P F T H o=some (.val (.ptr (some (i,off+f.offset))) H):=by
 simp only [yd,ho,gp,hx,hu,hf,hs]
theorem Kh {t:TypeId} {x:Operand} {i off:Nat} {v:z0} (ho:o.op= .load t x) (ht:Y3 P t=some false) (hx:zK T x=some (.ptr (some (i,off)))) (hr:H.gP i off=some v):yd P F T H o=some (.val v H):=by
 simp only [yd,ho,Gi,bH,hx,ht,hr,zN.qK]
theorem Ki {t:TypeId} {x:Operand} {i off n:Nat} {cs:List z0} (ho:o.op= .load t x) (ht:Y3 P t=some true) (hs:yb P t=some n) (hx:zK T x=some (.ptr (some (i,off)))) (hr:H.read i off n=some cs):yd P F T H o=some (.val (.agg cs) H):=by
 simp only [yd,ho,Gi,bH,hx,ht,hs,hr,zN.qK]
theorem zG {op:BinOp} {t yt:TypeId} {x y:Operand} {a b v:z0} (ho:o.op= .binOp op t x y yt) (hx:zK T x=some a) (hy:zK T y=some b) (hv:vI P F H op t (eH x||eH y) a b=some v):yd P F T H o=some (.val v H):=by
 simp only [yd,ho,pN,hx,hy,hv,zN.qK]
theorem OW {c:Call} {t:TypeId} {ts:List TypeId} {x:Operand} {e:TypeId} {a:Option (Nat×Nat)} {n es:Nat} {cap:Option Nat} (ho:o.op= .call c) (hc:c.callee= .builtin .len) (ht:c.argTypes.toList=t::ts) (ha:c.args.toList= [x])
 (hu:yj P t=some (.slice e)) (hx:zK T x=some (.slice a n cap es)):yd P F T H o=some (.val (WU n) H):=by
 simp only [yd,ho,hc,ht,ha,wQ,hx,yq,yc,ix,hu,zN.qK]
theorem En {t:TypeId} {x y:Operand} {e:TypeId} {i off len n size es:Nat} {cap:Option Nat} {k:IntKind} (ho:o.op= .indexAddr t x y) (hu:yj P t=some (.slice e)) (hs:yb P e=some size) (hx:zK T x=some (.slice (some (i,off)) len cap es))
 (hy:zK T y=some (.int k (.lit (.ofNat n)))) (hl:n<len):yd P F T H o=some (.val (.ptr (some (i,off+n*size))) H):=by
 have:Nat.blt n len=true:=by simpa [Nat.blt_eq] using hl
 simp only [yd,ho,ud,hx,hy,hu,uj,hs,this,cond_true]
theorem Em {t:TypeId} {x y:Operand} {e:TypeId} {i off len n size:Nat} {k:IntKind} (ho:o.op= .indexAddr t x y) (hu:yj P t=some (.array len e)) (hs:yb P e=some size) (hx:zK T x=some (.ptr (some (i,off))))
 (hy:zK T y=some (.int k (.lit (.ofNat n)))) (hl:n<len):yd P F T H o=some (.val (.ptr (some (i,off+n*size))) H):=by
 have:Nat.blt n len=true:=by simpa [Nat.blt_eq] using hl
 simp only [yd,ho,ud,hx,hy,hu,uj,hs,this,cond_true]
theorem Eo {t:TypeId} {x y:Operand} {i off:Nat} {v:z0} {H':Hp} (ho:o.op= .store t x y) (hs:yb P t=some 1) (hx:zK T x=some (.ptr (some (i,off)))) (hy:zK T y=some v) (hc:v.cells= [v]) (hw:H.Q0 i off v=some H'):yd P F T H o=some (.val unit H'):=by
 simp only [yd,ho,VF,hx,hy,bp,hs,hc,hw]
theorem Ui {t:TypeId} {c:Bool} {k j:IntKind} {x y:Int} (hk:gN k j=true):vI P F H .lss t c (.int k (.lit x)) (.int j (.lit y))=some (.bool (decide (x<y))):=by
 simp [vI,hk,jR,SInt.lt,Qd]
theorem pF {t:TypeId} {c:Bool} {k j:IntKind} {x y:Int} (hk:gN k j=true):vI P F H .geq t c (.int k (.lit x)) (.int j (.lit y))=some (.bool (decide (y≤x))):=by
 have:(!decide (x<y))=decide (y≤x):=by rw [←decide_not];congr 1;exact propext Int.not_lt
 simp only [vI,hk,cond_true,jR,SInt.lt,Qd]
 rw [←this]
 cases decide (x<y)<;>rfl
end
def mF (H:Hp):Prop:= ∀k x,H.t.get k=some x→k<H.next
theorem mF.put {H:Hp} (h:mF H) {i:Nat} {x:jS} (hi:H.t.get i=some x) (o:jS):mF (H.put i o):=by
 intro k y hk
 simp only [Hp.put,Tr.yh]at hk
 by_cases e:k=i
 ·subst e;exact h k x hi
 rw [if_neg e]at hk;exact h k y hk
class FA (P:Program) (t n:Nat) (off:outParam Nat):Prop where
 h: ∃fs f sz,yj P t=some (.struct fs)∧fs[n]? =some f∧yb P f.type=some (sz+1)∧f.offset=off
class SL (P:Program) (t:Nat) (sz:outParam Nat):Prop where
 h: ∃e,yj P t=some (.slice e)∧yb P e=some sz
class AR (P:Program) (t:Nat) (len sz:outParam Nat):Prop where
 h: ∃e,yj P t=some (.array len e)∧yb P e=some sz
class L1 (P:Program) (t:Nat):Prop where
 h:Y3 P t=some false
class LN (P:Program) (t:Nat) (n:outParam Nat):Prop where
 h:Y3 P t=some true∧yb P t=some n
class S1 (P:Program) (t:Nat):Prop where
 h:yb P t=some 1
class SN (P:Program) (t:Nat) (n:outParam Nat):Prop where
 h:yb P t=some n∧n≠1
section
variable {P:Program} {F:zD} {zB:yy} {ops:Array Oper} {o:Oper} {l:List Oper} {T:Tm} {H:Hp} {Q:Tm→Hp→Prop}
theorem TQ {t:TypeId} {x:Operand} {n off i a:Nat} [hf:FA P t n off] (ho:o.op= .fieldAddr t x n) (hx:zK T x=some (.ptr (some (i,a)))):yd P F T H o=some (.val (.ptr (some (i,a+off))) H):=by
 obtain⟨fs,f,sz,h1,h2,h3,h4⟩:=hf.h
 rw [←h4]
 exact lB ho h1 h2 h3 hx
theorem Ix {t:TypeId} {x:Operand} {i a:Nat} {v:z0} [hl:L1 P t] (ho:o.op= .load t x) (hx:zK T x=some (.ptr (some (i,a)))) (hr:H.gP i a=some v):yd P F T H o=some (.val v H):=Kh ho hl.h hx hr
theorem E3 {t:TypeId} {x:Operand} {i a n:Nat} {cs:List z0} [hl:LN P t n] (ho:o.op= .load t x) (hx:zK T x=some (.ptr (some (i,a)))) (hr:H.read i a n=some cs):yd P F T H o=some (.val (.agg cs) H):=Ki ho hl.h.1 hl.h.2 hx hr
theorem Lu {t:TypeId} {x y:Operand} {i off len n sz es:Nat} {cap:Option Nat} {k:IntKind} {z:Int} [hs:SL P t sz] (ho:o.op= .indexAddr t x y) (hx:zK T x=some (.slice (some (i,off)) len cap es))
 (hy:zK T y=some (.int k (.lit z))) (hz:z=(n:Int)) (hl:n<len):yd P F T H o=some (.val (.ptr (some (i,off+n*sz))) H):=by
 obtain⟨e,h1,h2⟩:=hs.h
 subst hz
 exact En ho h1 h2 hx hy hl
theorem TR {t:TypeId} {x y:Operand} {i off len n sz:Nat} {k:IntKind} {z:Int} [hs:AR P t len sz] (ho:o.op= .indexAddr t x y) (hx:zK T x=some (.ptr (some (i,off))))
 (hy:zK T y=some (.int k (.lit z))) (hz:z=(n:Int)) (hl:n<len):yd P F T H o=some (.val (.ptr (some (i,off+n*sz))) H):=by
 obtain⟨e,h1,h2⟩:=hs.h
 subst hz
 exact Em ho h1 h2 hx hy hl
theorem Lv {c:Call} {t:TypeId} {ts:List TypeId} {x:Operand} {sz:Nat} {a:Option (Nat×Nat)} {n es:Nat} {cap:Option Nat} [hs:SL P t sz] (ho:o.op= .call c) (hc:c.callee= .builtin .len) (ht:c.argTypes.toList=t::ts) (ha:c.args.toList= [x])
 (hx:zK T x=some (.slice a n cap es)):yd P F T H o=some (.val (WU n) H):=by
 obtain⟨e,h1,_⟩:=hs.h
 exact OW ho hc ht ha h1 hx
theorem TT {t:TypeId} {x y:Operand} {i off:Nat} {v:z0} {H':Hp} [hs:S1 P t] (ho:o.op= .store t x y) (hx:zK T x=some (.ptr (some (i,off)))) (hy:zK T y=some v) (hc:v.cells= [v]) (hw:H.Q0 i off v=some H'):yd P F T H o=some (.val unit H'):=Eo ho hs.h hx hy hc hw
theorem vz {z:Int} (h: -9223372036854775808≤z∧z≤9223372036854775807):UN .i64 z=true:=by
 have h1:xx z (G7 .i64)=false:=(Zj _ _).2 h.1
 have h2:xx (ZO .i64) z=false:=(Zj _ _).2 h.2
 simp only [UN,h1,h2,cond_false]
theorem qR {z:Int} (h:0≤z∧z≤18446744073709551615):UN .u64 z=true:=by
 have h1:xx z (G7 .u64)=false:=(Zj _ _).2 h.1
 have h2:xx (ZO .u64) z=false:=(Zj _ _).2 h.2
 simp only [UN,h1,h2,cond_false]
theorem nu {t:TypeId} {c:Bool} {k j:IntKind} {x y:Int} (hk:gN k j=true):vI P F H .eql t c (.int k (.lit x)) (.int j (.lit y))=some (.bool (decide (x=y))):=by
 simp [vI,hk,jR,SInt.eq,vy]
theorem uT {t:TypeId} {c:Bool} {k j:IntKind} {x y:Int} (hk:gN k j=true):vI P F H .neq t c (.int k (.lit x)) (.int j (.lit y))=some (.bool (decide (x≠y))):=by
 have:(!decide (x=y))=decide (x≠y):=decide_not.symm
 simp only [vI,hk,cond_true,jR,SInt.eq,vy]
 rw [←this]
 cases decide (x=y)<;>rfl
theorem Pg {t:TypeId} {c:Bool} {k j:IntKind} {x y:Int} (hk:gN k j=true):vI P F H .gtr t c (.int k (.lit x)) (.int j (.lit y))=some (.bool (decide (y<x))):=by
 simp [vI,hk,jR,SInt.lt,Qd]
theorem Ph {t:TypeId} {c:Bool} {k j:IntKind} {x y:Int} (hk:gN k j=true):vI P F H .leq t c (.int k (.lit x)) (.int j (.lit y))=some (.bool (decide (x≤y))):=by
 have:(!decide (y<x))=decide (x≤y):=by rw [←decide_not];congr 1;exact propext Int.not_lt
 simp only [vI,hk,cond_true,jR,SInt.lt,Qd]
 rw [←this]
 cases decide (y<x)<;>rfl
theorem pG {op:BinOp} {t:TypeId} {c:Bool} {k j:IntKind} {x y r:Int} (fx:(op= .add∧r=x+y)∨(op= .sub∧r=x-y)∨(op= .mul∧r=x*y)) (hk:gN k j=true) (hr:UN k r=true):
 vI P F H op t c (.int k (.lit x)) (.int j (.lit y))=some (.int k (.lit r)):=by
 rcases fx with⟨rfl,rfl⟩|⟨rfl,rfl⟩|⟨rfl,rfl⟩<;>simp [vI,hk,jR,SInt.add,SInt.sub,SInt.mul,SInt.wrap,hr]
theorem gJ {t:TypeId} {c:Bool} {x y:Int} (hr: -9223372036854775808≤x+y∧x+y≤9223372036854775807):vI P F H .add t c (.int .i64 (.lit x)) (.int .i64 (.lit y))=some (.int .i64 (.lit (x+y))):=
 pG (.inl ⟨rfl,rfl⟩) rfl (vz hr)
theorem gm {t:TypeId} {c:Bool} {x y:Int} (hr: -9223372036854775808≤x*y∧x*y≤9223372036854775807):vI P F H .mul t c (.int .i64 (.lit x)) (.int .i64 (.lit y))=some (.int .i64 (.lit (x*y))):=
 pG (.inr (.inr ⟨rfl,rfl⟩)) rfl (vz hr)
theorem L8 {t:TypeId} {c:Bool} {x y:Int} (hx:0≤x∧x≤9223372036854775807) (hy:0<y):vI P F H .quo t c (.int .i64 (.lit x)) (.int .i64 (.lit y))=some (.int .i64 (.lit (x/y))):=by
 have h0:Z9 y 0=false:=by rw [vy];exact decide_eq_false (by omega)
 have e:x.tdiv y=x/y:=Int.tdiv_eq_ediv_of_nonneg hx.1
 have h1:0≤x/y:=Int.ediv_nonneg hx.1 (by omega)
 have h2:x/y≤x:=Int.ediv_le_self y hx.1
 simp [vI,gN,QB,jR,h0,e,SInt.wrap,vz (z:=x/y) (by omega)]
theorem nv {t:TypeId} {c:Bool} {x y:Int} (hx:0≤x) (hy:0<y):vI P F H .rem t c (.int .i64 (.lit x)) (.int .i64 (.lit y))=some (.int .i64 (.lit (x%y))):=by
 have h0:Z9 y 0=false:=by rw [vy];exact decide_eq_false (by omega)
 have e:x.tmod y=x%y:=Int.tmod_eq_emod_of_nonneg hx
 simp [vI,gN,QB,jR,h0,e]
def Row (H:Hp) (i n:Nat) (f:Nat→z0):Prop:= ∃c,H.t.get i=some (.cells true c n)∧ ∀j,j<n→c.get j=some (f j)
theorem Row.read {i n:Nat} {f:Nat→z0} (h:Row H i n f) {j:Nat} (hj:j<n):H.gP i j=some (f j):=by
 obtain⟨c,h1,h2⟩:=h
 simp only [Hp.gP,h1,h2 j hj]
def upd (f:Nat→z0) (j:Nat) (v:z0):Nat→z0:=fun k=>if k=j then v else f k
theorem Row.write {i n:Nat} {f:Nat→z0} (h:Row H i n f) {j:Nat} {v:z0} (hj:j<n) (hv:v.yK=true): ∃H',H.Q0 i j v=some H'∧Row H' i n (upd f j v)∧H'.next=H.next∧(∀k,k≠i→H'.t.get k=H.t.get k)∧(mF H→mF H'):=by
 obtain⟨c,h1,h2⟩:=h
 have hb:(Nat.blt j n && v.yK)=true:=by rw [hv,Bool.and_true];simpa [Nat.blt_eq] using hj
 refine⟨H.put i (.cells true (c.set j v) n),by simp only [Hp.Q0,h1,hb,cond_true],⟨c.set j v,by simp only [Hp.put,Tr.yh,if_pos],fun k hk=> ?_⟩,rfl,fun k hk=>by simp only [Hp.put,Tr.yh,if_neg hk],fun h=>h.put h1 _⟩
 rw [Tr.yh]
 unfold upd
 split
 ·rfl
 exact h2 k hk
theorem Row.wU {H':Hp} {i n:Nat} {f:Nat→z0} (h:Row H i n f) (e:H'.t.get i=H.t.get i):Row H' i n f:=by
 obtain⟨c,h1,h2⟩:=h
 exact⟨c,by rw [e];exact h1,h2⟩
structure Q3 (S:Nat→Prop) (H H':Hp):Prop where
 next:H.next≤H'.next
 same: ∀k x,¬S k→H.t.get k=some x→H'.t.get k=some x
 ok:mF H→mF H'
theorem Q3.refl (S:Nat→Prop) (H:Hp):Q3 S H H:=⟨Nat.le_refl _,fun _ _ _ h=>h,id⟩
theorem Q3.trans {S:Nat→Prop} {H H' MG:Hp} (h:Q3 S H H') (k:Q3 S H' MG):Q3 S H MG:=⟨Nat.le_trans h.next k.next,fun i x hi hx=>k.same i x hi (h.same i x hi hx),fun e=>k.ok (h.ok e)⟩
theorem Q3.mono {S S':Nat→Prop} {H H':Hp} (h:Q3 S H H') (hs: ∀k,S k→S' k):Q3 S' H H':=⟨h.next,fun i x hi hx=>h.same i x (fun e=>hi (hs i e)) hx,h.ok⟩
theorem Row.only {S:Nat→Prop} {H H':Hp} {i n:Nat} {f:Nat→z0} (h:Row H i n f) (o:Q3 S H H') (hi: ¬S i):Row H' i n f:=by
 obtain⟨c,h1,h2⟩:=h
 exact⟨c,o.same i _ hi h1,h2⟩
theorem Row.ext {H:Hp} {i n:Nat} {f g:Nat→z0} (h:Row H i n f) (e: ∀j,j<n→f j=g j):Row H i n g:=by
 obtain⟨c,h1,h2⟩:=h
 exact⟨c,h1,fun j hj=>by rw [h2 j hj,e j hj]⟩
theorem Row.store {H:Hp} {i n:Nat} {f:Nat→z0} (h:Row H i n f) {j:Nat} {v:z0} (hj:j<n) (hv:v.yK=true): ∃H',H.Q0 i j v=some H'∧Row H' i n (upd f j v)∧Q3 (· =i) H H'∧H'.next=H.next:=by
 obtain⟨H',h1,h2,h3,h4,h5⟩:=h.write hj hv
 exact⟨H',h1,h2,⟨by omega,fun k x hk hx=>by rw [h4 k hk];exact hx,h5⟩,h3⟩
end
section
variable (P:Program) (F:zD) (zB:yy)
def uP (ops:Array Oper):List It→Tm→Hp→(Tm→Hp→Prop)→Prop
 | [],T,H,Q=>Q T H
 |x::l,T,H,Q=>match YJ P F ops T H x.o with
  |some (T,H)=>uP ops l T H Q
  |none=>False
def jo (ops:Array Oper) (T:Tm) (H:Hp):List It→Prop
 | []=>True
 |x::l=>vt P F ops T H x.o=true∧jo ops T H l
def ZJ (ops:Array Oper):List vZ→Tm→Hp→(Tm→Hp→Prop)→Prop
 | [],_,_,_=>False
 |s::ss,T,H,Q=>uP P F ops s.work T H fun T H=>jo P F ops T H s.again∧match s.chain with
  |none=>Q T H
  |some c=>uY P F zB ops [c.o] T H fun T H=>ZJ ops ss T H Q
end
section
variable {P:Program} {F:zD} {zB:yy} {ops:Array Oper}
theorem Am: ∀ {l:List It} {T:Tm} {H:Hp} {Q:Tm→Hp→Prop},uP P F ops l T H Q→ ∃T' H',Yl P F ops l T H=some (T',H')∧Q T' H':=by
 intro l
 induction l with
 |nil=>intro T H Q h;exact⟨T,H,rfl,h⟩
 |cons x l ih=>
  intro T H Q h
  simp only [uP]at h
  split at h
  ·rename_i T1 H1 hw
   obtain⟨T2,H2,h1,h2⟩:=ih h
   exact⟨T2,H2,by simp only [Yl,hw];exact h1,h2⟩
  exact h.elim
theorem aP {T:Tm} {H:Hp} : ∀ {l:List It},jo P F ops T H l→l.all (fun x=>vt P F ops T H x.o)=true:=by
 intro l
 induction l with
 |nil=>intro _;rfl
 |cons x l ih=>intro h;rw [List.all_cons,h.1,ih h.2];rfl
theorem lH: ∀ {ss:List vZ} {T:Tm} {H:Hp} {Q:Tm→Hp→Prop},ZJ P F zB ops ss T H Q→ ∃T' H',(∃n,∀m,n≤m→ve P F (exec P F zB m) ops ss T H=some (T',H'))∧Q T' H':=by
 intro ss
 induction ss with
 |nil=>intro T H Q h;exact h.elim
 |cons s ss ih=>
  intro T H Q h
  simp only [ZJ]at h
  obtain⟨T1,H1,h1,h2,h3⟩:=Am h
  have h2:=aP h2
  cases hc:s.chain with
  |none=>
   rw [hc]at h3
   exact⟨T1,H1,⟨0,fun m _=>by simp only [ve,h1,h2,hc,cond_true]⟩,h3⟩
  |some c=>
   rw [hc]at h3
   obtain⟨T2,H2,⟨n1,g1⟩,g2⟩:=lG h3
   obtain⟨T3,H3,⟨n2,k1⟩,k2⟩:=ih g2
   refine⟨T3,H3,⟨max n1 n2,fun m hm=> ?_⟩,k2⟩
   have g:=g1 m (by omega)
   have UJ:ZS P F (exec P F zB m) ops T1 H1 c.o=some (T2,H2):=by
    simp only [Qs]at g
    split at g
    ·rename_i T4 H4 hs;cases g;exact hs
    cases g
   simp only [ve,h1,h2,hc,UJ,cond_true]
   exact k1 m (by omega)
theorem Kq {id:Nat} {T:Tm} {H:Hp} {Q:ym→Tm→Hp→Prop} {ss:List vZ} (hp:UW ops=some ss) (h:ZJ P F zB ops ss T H fun T H=>Q .normal T H):wS P F zB (.region id ops true) T H Q:=by
 obtain⟨T1,H1,⟨n,h1⟩,h2⟩:=lH h
 refine⟨_,T1,H1,?_,h2⟩
 refine gR n fun m hm=> ?_
 simp only [gD,cond_true,VW,hp,h1 m hm]
def T5 (ops:Array Oper) (i m:Nat):It:=⟨i,ops.getD i ⟨none,.move (.tmp 0),0, "",#[],none⟩,m⟩
def Lf (ops:Array Oper) (ms:List Nat) (l:List Nat):List It:=l.map fun i=>T5 ops i (ms.getD i 0)
def tX (ops:Array Oper) (ms:List Nat) (l:List (List Nat×List Nat×Option Nat)):List vZ:=l.map fun s=>⟨Lf ops ms s.1,Lf ops ms s.2.1,s.2.2.map fun i=>T5 ops i (ms.getD i 0)⟩
theorem F4 (ms:List Nat) (pl:List (List Nat×List Nat×Option Nat)) {id:Nat} {T:Tm} {H:Hp} {Q:ym→Tm→Hp→Prop} (hp:UW ops=some (tX ops ms pl)) (h:ZJ P F zB ops (tX ops ms pl) T H fun T H=>Q .normal T H):wS P F zB (.region id ops true) T H Q:=Kq hp h
variable {x:It} {l:List It} {T:Tm} {H:Hp} {Q:Tm→Hp→Prop}
theorem F0 {v:z0} (hw:zP ops T x.o=some true) (ha:yd P F T H x.o=some (.val v H)) (h:uP P F ops l (zp T x.o.dst v) H Q):uP P F ops (x::l) T H Q:=by
 have:YJ P F ops T H x.o=some (zp T x.o.dst v,H):=by
  simp only [YJ,hw,Yc,ha]
  cases wA x.o.op<;>rfl
 simp only [uP,this]
 exact h
theorem nO {v:z0} {H':Hp} (hq:wA x.o.op=true) (hw:zP ops T x.o=some true) (ha:yd P F T H x.o=some (.val v H')) (h:uP P F ops l (zp T x.o.dst v) H' Q):uP P F ops (x::l) T H Q:=by
 have:YJ P F ops T H x.o=some (zp T x.o.dst v,H'):=by
  simp only [YJ,hw,Yc,ha,hq,cond_true]
 simp only [uP,this]
 exact h
theorem Ob (hw:zP ops T x.o=some false) (h:uP P F ops l (zp T x.o.dst unit) H Q):uP P F ops (x::l) T H Q:=by
 have:YJ P F ops T H x.o=some (zp T x.o.dst unit,H):=by
  simp only [YJ,hw]
 simp only [uP,this]
 exact h
theorem BJ {v u:z0} {H':Hp} {d:Tmp} (hw:zP ops T x.o=some true) (ha:yd P F T H x.o=some (.val v H')) (hd:x.o.dst=some d) (hu:Tm.get d T=some u) (he:Vi u v=true) (h:jo P F ops T H l):jo P F ops T H (x::l):=by
 refine⟨?_,h⟩
 simp only [vt,hw,Yc,ha,hd,hu,he]
theorem MR (hw:zP ops T x.o=some false) (h:jo P F ops T H l):jo P F ops T H (x::l):=by
 refine⟨?_,h⟩
 simp only [vt,hw]
theorem MQ:jo P F ops T H []:=trivial
theorem oY (b:Bool):Vi (.bool b) (.bool b)=true:=by cases b<;>rfl
theorem p8 {s:vZ} {ss:List vZ} (h:uP P F ops s.work T H fun T H=>jo P F ops T H s.again∧match s.chain with
 |none=>Q T H
 |some c=>uY P F zB ops [c.o] T H fun T H=>ZJ P F zB ops ss T H Q):ZJ P F zB ops (s::ss) T H Q:=h
end
def zj (f:Nat→z0):Nat→Nat→List z0
 |_,0=> []
 |o,n+1=>f o::zj f (o+1) n
theorem y8 (f:Nat→z0): ∀n o,(zj f o n).length=n:=by
 intro n
 induction n with
 |zero=>intro o;rfl
 |succ n ih=>intro o;simp [zj,ih]
theorem y7 (f:Nat→z0): ∀n o i,i<n→(zj f o n)[i]? =some (f (o+i)):=by
 intro n
 induction n with
 |zero=>intro o i h;omega
 |succ n ih=>
  intro o i h
  cases i with
  |zero=>simp [zj]
  |succ i=>simp only [zj,List.getElem?_cons_succ];rw [ih _ _ (by omega)];congr 2;omega
theorem um {c:Tr z0} {f:Nat→z0} {m:Nat} (h: ∀j,j<m→c.get j=some (f j)): ∀n o,o+n≤m→ZD c o n=some (zj f o n):=by
 intro n
 induction n with
 |zero=>intro o _;rfl
 |succ n ih=>
  intro o ho
  rw [U6,h o (by omega)]
  simp only
  rw [ih (o+1) (by omega)]
  rfl
def ua (f:Nat→z0) (o:Nat) (vs:List z0):Nat→z0:=fun k=>if o≤k then(vs[k-o]?).getD (f k)else f k
section
variable {P:Program} {F:zD} {zB:yy} {ops:Array Oper} {o:Oper} {T:Tm} {H:Hp}
theorem Lw {t:TypeId} {x y:Operand} {i off n:Nat} {v:z0} {H':Hp} [hs:SN P t n] (ho:o.op= .store t x y) (hx:zK T x=some (.ptr (some (i,off)))) (hy:zK T y=some v) (hc:v.cells.length=n) (hw:H.write i off v.cells=some H'):yd P F T H o=some (.val unit H'):=by
 have hb:Nat.beq v.cells.length n=true:=by rw [hc];exact Nat.beq_refl n
 simp only [yd,ho,VF,hx,hy,bp]
 rw [hs.h.1]
 have wY:=hs.h.2
 match n,wY,hb with
 |0,_,hb=>simp only [hb,cond_true,hw]
 |1,wY,_=>exact absurd rfl wY
 |n+2,_,hb=>simp only [hb,cond_true,hw]
end
class MI (P:Program) (t:Nat) (zv:outParam z0):Prop where
 h: ∃kt et,yj P t=some (.map kt et)∧yj P kt=some (.int .i64)∧zeroOf P et=some zv
def B3 (l:List (Int×z0)) (z:Int):Option z0:=match l with
 | []=>none
 |p::l=>if p.1=z then some p.2 else B3 l z
def ins (l:List (Int×z0)) (z:Int) (v:z0):List (Int×z0):=match l with
 | []=> [(z,v)]
 |p::l=>if p.1=z then(z,v)::l else p::ins l z v
def del (l:List (Int×z0)) (z:Int):List (Int×z0):=match l with
 | []=> []
 |p::l=>if p.1=z then l else p::del l z
inductive B6:List Entry→List (Int×z0)→Prop
 |nil:B6 [] []
 |cons (e:Entry) (z:Int) (v:z0) (es l) (hk:e.key= .int .i64 (.lit z)) (hv:e.val=v) (h:B6 es l):B6 (e::es) ((z,v)::l)
def xH (H:Hp) (id:Nat) (l:List (Int×z0)):Prop:= ∃es clock,H.t.get id=some (.map es clock)∧B6 es l
section
variable {P:Program} {F:zD} {zB:yy} {ops:Array Oper} {o:Oper} {T:Tm} {H:Hp}
theorem Fe {kt:TypeId} (hk:yj P kt=some (.int .i64)) (a b:Int):VA P F H 3 kt (.int .i64 (.lit a)) (.int .i64 (.lit b))=some (decide (a=b)):=by
 simp [VA,hk,gN,QB,SInt.eq,vy]
theorem Gm {kt:TypeId} (hk:yj P kt=some (.int .i64)) (z:Int): ∀ {es:List Entry} {l:List (Int×z0)},B6 es l→ ∀i,(∃j e v,jA (VA P F H 3 kt) (.int .i64 (.lit z)) es i=some (some (i+j,e))∧e.key= .int .i64 (.lit z)∧e.val=v∧B3 l z=some v∧es[j]? =some e∧(∀w b,B6 (es.set j ⟨.int .i64 (.lit z),w,b⟩) (ins l z w))∧B6 (es.eraseIdx j) (del l z))∨
 (jA (VA P F H 3 kt) (.int .i64 (.lit z)) es i=some none∧B3 l z=none∧(∀w b,B6 (es++ [⟨.int .i64 (.lit z),w,b⟩]) (ins l z w))∧del l z=l):=by
 intro es l h
 induction h with
 |nil=>intro i;exact .inr ⟨rfl,rfl,fun w b=> .cons _ z w [] [] rfl rfl .nil,rfl⟩
 |cons e y v es l hkey tH h ih=>
  intro i
  have hf:jA (VA P F H 3 kt) (.int .i64 (.lit z)) (e::es) i=(match VA P F H 3 kt (.int .i64 (.lit z)) e.key with
   |some true=>some (some (i,e))
   |some false=>jA (VA P F H 3 kt) (.int .i64 (.lit z)) es (i+1)
   |none=>none):=rfl
  rw [hkey,Fe hk]at hf
  by_cases hz:z=y
  ·subst hz
   rw [decide_eq_true rfl]at hf
   refine .inl ⟨0,e,v,hf,hkey,tH,by simp [B3],rfl,fun w b=> ?_,?_⟩
   ·have:ins ((z,v)::l) z w=(z,w)::l:=by simp [ins]
    rw [this]
    exact .cons _ z w es l rfl rfl h
   have:del ((z,v)::l) z=l:=by simp [del]
   rw [this];exact h
  have hz': ¬y=z:=fun e=>hz e.symm
  rw [decide_eq_false hz]at hf
  rcases ih (i+1)with⟨j,e2,v2,h1,h2,h3,h4,h5,h6,h7⟩|⟨h1,h2,h3,h4⟩
  ·refine .inl ⟨j+1,e2,v2,by rw [hf];show jA _ _ es (i+1)=_;rw [h1];congr 3;omega,h2,h3,by simp only [B3,if_neg hz'];exact h4,by simpa using h5,fun w b=> ?_,?_⟩
   ·have:ins ((y,v)::l) z w=(y,v)::ins l z w:=by simp [ins,hz']
    rw [this]
    exact .cons e y v _ _ hkey tH (h6 w b)
   have:del ((y,v)::l) z=(y,v)::del l z:=by simp [del,hz']
   rw [this]
   exact .cons e y v _ _ hkey tH h7
  refine .inr ⟨by rw [hf];exact h1,by simp only [B3,if_neg hz'];exact h2,fun w b=> ?_,by simp only [del,if_neg hz',h4]⟩
  have:ins ((y,v)::l) z w=(y,v)::ins l z w:=by simp [ins,hz']
  rw [this]
  exact .cons e y v _ _ hkey tH (h3 w b)
theorem ZB {kt:TypeId} (hk:yj P kt=some (.int .i64)) (z:Int):vM P kt (.int .i64 (.lit z))=true:=by simp [vM,hk]
theorem bh {t:TypeId} {x k:Operand} {ok:Bool} {id:Nat} {z:Int} {l:List (Int×z0)} {zv:z0} [hM:MI P t zv] (ho:o.op= .lookup t x k ok) (hx:zK T x=some (.map (some id))) (hk:zK T k=some (.int .i64 (.lit z))) (hm:xH H id l):
 yd P F T H o=some (.val (bif ok then(match B3 l z with
  |some v=> .tuple [v,.bool true]
  |none=> .tuple [zv,.bool false])else(B3 l z).getD zv) H):=by
 obtain⟨kt,et,h1,h2,h3⟩:=hM.h
 obtain⟨es,clock,h4,h5⟩:=hm
 have h6:H.gy id=some (es,clock):=by simp only [Hp.gy,h4]
 simp only [yd,ho,Wh,hx,hk,tO,h1,ZB h2,cond_true,h3,h6]
 rcases Gm (P:=P) (F:=F) (H:=H) h2 z h5 0 with⟨j,e,v,g1,g2,g3,g4,_⟩|⟨g1,g2,_⟩
 ·rw [g1,g4]
  simp only [g3]
  cases ok<;>rfl
 rw [g1,g2]
 cases ok<;>rfl
theorem rk {t:TypeId} {m k x:Operand} {id:Nat} {z:Int} {v:z0} {l:List (Int×z0)} {zv:z0} [hM:MI P t zv] (hm:xH H id l): ∃H',(∀ {o:Oper} {T:Tm},o.op= .mapUpdate t m k x→zK T m=some (.map (some id))→zK T k=some (.int .i64 (.lit z))→zK T x=some v→yd P F T H o=some (.val unit H'))∧
 xH H' id (ins l z v)∧Q3 (· =id) H H'∧H'.next=H.next:=by
 obtain⟨kt,et,h1,h2,h3⟩:=hM.h
 obtain⟨es,clock,h4,h5⟩:=hm
 have h6:H.gy id=some (es,clock):=by simp only [Hp.gy,h4]
 have fin: ∀q,Q3 (· =id) H (H.put id q):=fun q=>⟨Nat.le_refl _,fun k x hk hx=>by simp only [Hp.put,Tr.yh,if_neg hk];exact hx,fun h=>h.put h4 _⟩
 rcases Gm (P:=P) (F:=F) (H:=H) h2 z h5 0 with⟨j,e,w,g1,g2,g3,g4,g5,g6,g7⟩|⟨g1,g2,g3,g4⟩
 ·refine⟨H.put id (.map (es.set j ⟨.int .i64 (.lit z),v,e.born⟩) clock),fun {o T} ho hm hk hx=> ?_,⟨_,clock,by show(Tr.set _ _ _).get _=_;rw [Tr.yh,if_pos rfl],g6 v e.born⟩,fin _,rfl⟩
  have hb:Y4 (.int .i64 (.lit z)) e.key=true:=by rw [g2];simp [Y4,gN,QB,vy]
  rw [Nat.zero_add]at g1
  simp only [yd,ho,gK,hm,hk,hx,Vg,h1,ZB h2,cond_true,h6,g1,hb]
 refine⟨H.put id (.map (es++ [⟨.int .i64 (.lit z),v,clock⟩]) (clock+1)),fun {o T} ho hm hk hx=> ?_,⟨_,clock+1,by show(Tr.set _ _ _).get _=_;rw [Tr.yh,if_pos rfl],g3 v clock⟩,fin _,rfl⟩
 simp only [yd,ho,gK,hm,hk,hx,Vg,h1,ZB h2,cond_true,h6,g1]
theorem rj {t:TypeId} {m k:Operand} {id:Nat} {z:Int} {l:List (Int×z0)} {zv:z0} [hM:MI P t zv] (hm:xH H id l): ∃H',(∀ {o:Oper} {T:Tm} {c:Call} {ts:List TypeId},o.op= .call c→c.callee= .builtin .delete→c.argTypes.toList=t::ts→c.args.toList= [m,k]→zK T m=some (.map (some id))→zK T k=some (.int .i64 (.lit z))→yd P F T H o=some (.val unit H'))∧
 xH H' id (del l z)∧Q3 (· =id) H H'∧H'.next=H.next:=by
 obtain⟨kt,et,h1,h2,h3⟩:=hM.h
 obtain⟨es,clock,h4,h5⟩:=hm
 have h6:H.gy id=some (es,clock):=by simp only [Hp.gy,h4]
 have fin: ∀q,Q3 (· =id) H (H.put id q):=fun q=>⟨Nat.le_refl _,fun k x hk hx=>by simp only [Hp.put,Tr.yh,if_neg hk];exact hx,fun h=>h.put h4 _⟩
 rcases Gm (P:=P) (F:=F) (H:=H) h2 z h5 0 with⟨j,e,w,g1,g2,g3,g4,g5,g6,g7⟩|⟨g1,g2,g3,g4⟩
 ·refine⟨H.put id (.map (es.eraseIdx j) clock),fun {o T c ts} ho hc ht ha hm hk=> ?_,⟨_,clock,by show(Tr.set _ _ _).get _=_;rw [Tr.yh,if_pos rfl],g7⟩,fin _,rfl⟩
  rw [Nat.zero_add]at g1
  simp only [yd,ho,hc,ht,ha,wQ,hm,hk,yq,yc,Uq,h1,ZB h2,cond_true,h6,g1]
 refine⟨H.put id (.map es clock),fun {o T c ts} ho hc ht ha hm hk=> ?_,⟨_,clock,by show(Tr.set _ _ _).get _=_;rw [Tr.yh,if_pos rfl],by rw [g4];exact h5⟩,fin _,rfl⟩
 simp only [yd,ho,hc,ht,ha,wQ,hm,hk,yq,yc,Uq,h1,ZB h2,cond_true,h6,g1]
theorem B6.len {es:List Entry} {l:List (Int×z0)} (h:B6 es l):es.length=l.length:=by
 induction h with
 |nil=>rfl
 |cons _ _ _ _ _ _ _ _ ih=>simp [ih]
theorem OA {c:Call} {t:TypeId} {ts:List TypeId} {x:Operand} {id:Nat} {l:List (Int×z0)} {zv:z0} [hM:MI P t zv] (ho:o.op= .call c) (hc:c.callee= .builtin .len) (ht:c.argTypes.toList=t::ts) (ha:c.args.toList= [x]) (hx:zK T x=some (.map (some id))) (hm:xH H id l):
 yd P F T H o=some (.val (WU l.length) H):=by
 obtain⟨kt,et,h1,h2,h3⟩:=hM.h
 obtain⟨es,clock,h4,h5⟩:=hm
 have h6:H.gy id=some (es,clock):=by simp only [Hp.gy,h4]
 simp only [yd,ho,hc,ht,ha,wQ,hx,yq,yc,ix,h1,h6,zN.qK,h5.len]
theorem xH.only {S:Nat→Prop} {H H':Hp} {id:Nat} {l:List (Int×z0)} (h:xH H id l) (o:Q3 S H H') (hi: ¬S id):xH H' id l:=by
 obtain⟨es,c,h1,h2⟩:=h
 exact⟨es,c,o.same id _ hi h1,h2⟩
end
theorem Tm.opened {T:Tm} {k:Nat} (h:T.len=k+1): ∃a0 a1 a2 a3 a4 a5 a6 a7 a8 a9 YW YX YY YZ Ya Yb nx,T= .node a0 a1 a2 a3 a4 a5 a6 a7 a8 a9 YW YX YY YZ Ya Yb nx∧nx.len=k:=by
 cases T with
 |nil=>cases h
 |node a0 a1 a2 a3 a4 a5 a6 a7 a8 a9 YW YX YY YZ Ya Yb nx=>exact⟨a0,a1,a2,a3,a4,a5,a6,a7,a8,a9,YW,YX,YY,YZ,Ya,Yb,nx,rfl,by simpa [Tm.len] using h⟩
theorem Tm.z2M {T:Tm} (h:T.len=0):T= .nil:=by
 cases T with
 |nil=>rfl
 |node=>simp [Tm.len]at h
class ZV (P:Program) (t:Nat) (v:outParam z0):Prop where
 h:zeroOf P t=some v
class SB (P:Program) (t:Nat) (pl:outParam (List (Nat×Nat))):Prop where
 h: ∃fs,yj P t=some (.struct fs)∧placesOf P fs.toList=some pl
section
variable {P:Program} {F:zD} {ops:Array Oper} {o:Oper} {T:Tm} {H:Hp}
theorem bd {t:TypeId} {parts:Array (Nat×Operand)} {pl:List (Nat×Nat)} {zc cs:List z0} {l:List (Nat×z0)} [hs:SB P t pl] [hz:ZV P t (.agg zc)] (ho:o.op= .build t parts) (hp:partsOf T parts.toList=some l) (hf:Q7 (fun i=>pl[i]?) zc l=some cs):
 yd P F T H o=some (.val (.agg cs) H):=by
 obtain⟨fs,h1,h2⟩:=hs.h
 have hz':=hz.h
 simp only [yd,ho,QW,hz',hp,h1,z0.isTuple,cond_false,h2,z0.cells,hf]
theorem bc {t:TypeId} {parts:Array (Nat×Operand)} {len sz:Nat} {zc cs:List z0} {l:List (Nat×z0)} [hs:AR P t len sz] [hz:ZV P t (.agg zc)] (ho:o.op= .build t parts) (hp:partsOf T parts.toList=some l) (hf:Q7 (fun i=>some (i*sz,sz)) zc l=some cs):
 yd P F T H o=some (.val (.agg cs) H):=by
 obtain⟨e,h1,h2⟩:=hs.h
 have hz':=hz.h
 simp only [yd,ho,QW,hz',hp,h1,z0.isTuple,cond_false,h2,z0.cells,hf]
theorem er {t:TypeId} {v:z0} [hz:ZV P t v] (ho:o.op= .alloc t) (ht:v.isTuple=false):yd P F T H o=some (.val (.ptr (some (H.next,0))) (wy H v.cells)):=by
 simp only [yd,ho,gS,hz.h,ht,cond_false]
theorem Lt {t:TypeId} {x:Operand} {v:z0} (ho:o.op= .box t x) (hx:zK T x=some v) (ht:v.isTuple=false):yd P F T H o=some (.val (.ptr (some (H.next,0))) (wy H v.cells)):=by
 simp only [yd,ho,gS,hx,ht,cond_false]
end
class IC (P:Program) (s d:Nat) (k:outParam IntKind):Prop where
 h: ∃j,yj P s=some (.int j)∧yj P d=some (.int k)
section
variable {P:Program} {F:zD} {ops:Array Oper} {o:Oper} {T:Tm} {H:Hp}
theorem qy {s d:TypeId} {x:Operand} {j k:IntKind} {z:Int} [hc:IC P s d k] (ho:o.op= .convert s d x) (hx:zK T x=some (.int j (.lit z))) (hz:UN k z=true):yd P F T H o=some (.val (.int k (.lit z)) H):=by
 obtain⟨i,h1,h2⟩:=hc.h
 simp only [yd,ho,xX,hx,Bu,h1,h2,SInt.wrap,hz,cond_true,zN.qK]
theorem gC {op:BinOp} {t:TypeId} {c:Bool} {a b r:Nat} (fx:VQ op a b=some r) (ha:a≤18446744073709551615) (hb:b≤18446744073709551615):
 vI P F H op t c (.int .u64 (.lit (a:Int))) (.int .u64 (.lit (b:Int)))=some (.int .u64 (.lit (r:Int))):=by
 have h1:UN .u64 (Int.ofNat a)=true:=qR ⟨by simp,by show(a:Int)≤_;omega⟩
 have h2:UN .u64 (Int.ofNat b)=true:=qR ⟨by simp,by show(b:Int)≤_;omega⟩
 have h3:UN .u64 (a:Int)=true:=h1
 have h4:UN .u64 (b:Int)=true:=h2
 show vI P F H op t c (.int .u64 (.lit (Int.ofNat a))) (.int .u64 (.lit (Int.ofNat b)))=_
 cases op<;>simp only [VQ]at fx<;>(first|(cases fx;done)|(cases fx;simp [vI,gN,QB,jR,h3,h4,VQ]))
theorem pH {t:TypeId} {c:Bool} {j:IntKind} {a b:Nat} (hb:b≤64) (hr:a*2^b≤18446744073709551615):
 vI P F H .shl t c (.int .u64 (.lit (a:Int))) (.int j (.lit (b:Int)))=some (.int .u64 (.lit ((a*2^b:Nat):Int))):=by
 have h1:Nat.ble b 64=true:=Nat.ble_eq_true_of_le hb
 have h2:Nat.min b (IntKind.u64).bits=b:=Nat.min_eq_left hb
 have h3:UN .u64 (Int.ofNat (a*2^b))=true:=qR ⟨Int.natCast_nonneg _,by show((a*2^b:Nat):Int)≤_;omega⟩
 show Yp F .shl .u64 (.lit (Int.ofNat a)) (.lit (Int.ofNat b))=_
 simp only [Yp,h1,cond_true,h2,SInt.wrap,h3]
 rfl
theorem nw {t:TypeId} {c:Bool} {k j:IntKind} {a b:Nat} (hb:b≤64) (hk:b≤k.bits):
 vI P F H .shr t c (.int k (.lit (a:Int))) (.int j (.lit (b:Int)))=some (.int k (.lit ((a/2^b:Nat):Int))):=by
 have h1:Nat.ble b 64=true:=Nat.ble_eq_true_of_le hb
 have h2:Nat.min b k.bits=b:=Nat.min_eq_left hk
 show Yp F .shr k (.lit (Int.ofNat a)) (.lit (Int.ofNat b))=_
 simp only [Yp,h1,cond_true,h2]
 rfl
end
section
variable {P:Program} {F:zD} {zB:yy} {T:Tm} {H:Hp}
theorem YT.Nb {f:FuncId} {fn:Func} {b:Code} {args:List z0} {Q:z0→Hp→Prop} (hk:zB f=none) (hf:P.funcs[f]? =some fn) (hb:fn.body=some b)
 (h:wS P F zB b (WX args 0 (Tm.mk (fn.ntmps/16+1))) H fun e T' H'=>(e= .normal∨e= .ret)∧ ∃vs,wR P T' H' fn.results.toList=some vs∧Q (match vs with
  | [v]=>v
  |vs=> .tuple vs) H'):YT P F zB f args H Q:=by
 refine YT.intro hk hf hb (ZI h fun e T' H' h=> ?_)
 obtain⟨h1,vs,h2,h3⟩:=h
 refine⟨h1,?_⟩
 rw [h2]
 match vs,h3 with
 | [],h3=>exact h3
 | [_],h3=>exact h3
 |_::_::_,h3=>exact h3
theorem zm {t:Tmp} {v:z0} (h:Tm.get t T=some v):Qq P T H (.tmp t)=some v:=h
theorem yQ {a:Tmp} {t:TypeId} {i off n:Nat} {cs:List z0} [hl:LN P t n] (h:Tm.get a T=some (.ptr (some (i,off)))) (hr:H.read i off n=some cs):Qq P T H (.cell a t)=some (.agg cs):=by
 simp only [Qq,h,bH,hl.h.1,hl.h.2,hr]
end
class AP (P:Program) (t:Nat) (sz:outParam Nat):Prop where
 h: ∃e FL z,yj P t=some (.slice e)∧yb P e=some sz∧bytesOf P e=some FL∧FL≤yi∧zeroOf P e=some z∧z.cells.length=sz
class BS (P:Program) (t:Nat) (sz:outParam Nat) (z:outParam z0):Prop where
 h: ∃e,yj P t=some (.slice e)∧yb P e=some sz∧zeroOf P e=some z∧z.cells.length=sz∧z.isTuple=false
section
variable {P:Program} {F:zD} {ops:Array Oper} {o:Oper} {T:Tm} {H:Hp}
theorem po {t:TypeId} {len sz:Nat} {z:z0} {parts:Array (Nat×Operand)} {cs:List z0} {l:List (Nat×z0)} [hs:BS P t sz z] (ho:o.op= .buildSlice t len parts) (hp:partsOf T parts.toList=some l) (hl:len*sz≤65536)
 (hf:Q7 (fun i=>some (i*sz,sz)) (yR z.cells len) l=some cs):yd P F T H o=some (.val (.slice (some (H.next,0)) len (some len) sz) (wy H cs)):=by
 obtain⟨e,h1,h2,h3,h4,h5⟩:=hs.h
 have b1:Nat.beq z.cells.length sz=true:=by rw [h4];exact Nat.beq_refl sz
 have b2:Nat.ble (len*sz) 65536=true:=Nat.ble_eq_true_of_le hl
 simp only [yd,ho,vw,h1,hp,h2,h3,b1,b2,h5,Bool.not_false,Bool.and_true,cond_true,hf]
end
section
variable {P:Program} {F:zD} {zB:yy} {ops:Array Oper} {o:Oper} {l:List Oper} {T:Tm} {H:Hp} {Q:Tm→Hp→Prop}
theorem ja {t:TypeId} {x y:Operand} {i off len es:Nat} {cap:Option Nat} {k:IntKind} {z:Int} [hs:SL P t 1] (ho:o.op= .indexAddr t x y) (hx:zK T x=some (.slice (some (i,off)) len cap es))
 (hy:zK T y=some (.int k (.lit z))) (hz:0≤z) (hl:z<(len:Nat)):yd P F T H o=some (.val (.ptr (some (i,z.toNat+off))) H):=by
 have:=Lu (P:=P) (F:=F) (H:=H) (n:=z.toNat) ho hx hy (by omega) (by omega)
 rw [this,Nat.mul_one,Nat.add_comm]
theorem uo {t:TypeId} {x y:Operand} {i off len es sz:Nat} {cap:Option Nat} {k:IntKind} {z:Int} [hs:SL P t sz] (ho:o.op= .indexAddr t x y) (hx:zK T x=some (.slice (some (i,off)) len cap es))
 (hy:zK T y=some (.int k (.lit z))) (hz:0≤z) (hl:z<(len:Nat)):yd P F T H o=some (.val (.ptr (some (i,z.toNat*sz+off))) H):=by
 have:=Lu (P:=P) (F:=F) (H:=H) (n:=z.toNat) ho hx hy (by omega) (by omega)
 rw [this,Nat.add_comm]
theorem zw {t:TypeId} {x y:Operand} {i off len:Nat} {k:IntKind} {z:Int} [hs:AR P t len 1] (ho:o.op= .indexAddr t x y) (hx:zK T x=some (.ptr (some (i,off))))
 (hy:zK T y=some (.int k (.lit z))) (hz:0≤z) (hl:z<(len:Nat)):yd P F T H o=some (.val (.ptr (some (i,z.toNat+off))) H):=by
 have:=TR (P:=P) (F:=F) (H:=H) (n:=z.toNat) ho hx hy (by omega) (by omega)
 rw [this,Nat.mul_one,Nat.add_comm]
theorem aW {t:TypeId} {c:Bool} {x y:Int} (hr: -9223372036854775808≤x-y∧x-y≤9223372036854775807):vI P F H .sub t c (.int .i64 (.lit x)) (.int .i64 (.lit y))=some (.int .i64 (.lit (x-y))):=
 pG (.inr (.inl ⟨rfl,rfl⟩)) rfl (vz hr)
end
section
variable {P:Program} {T:Tm} {H:Hp}
theorem qY:wR P T H []=some []:=rfl
theorem zu {r:ResultVar} {rs:List ResultVar} {v:z0} {vs:List z0} (h:Qq P T H r=some v) (k:wR P T H rs=some vs):wR P T H (r::rs)=some (v::vs):=by simp only [wR,h,k]
end
section
variable {P:Program} {F:zD} {zB:yy} {ops:Array Oper} {x:It} {l:List It} {T:Tm} {H:Hp} {Q:Tm→Hp→Prop}
end
section
variable {P:Program} {F:zD} {zB:yy} {ops:Array Oper} {o:Oper} {l:List Oper} {T:Tm} {H:Hp} {Q:Tm→Hp→Prop}
variable {ops:Array Oper} {x:It} {l:List It}
end
class AE (P:Program) (t:Nat) (len:outParam Nat):Prop where
 h: ∃e,yj P t=some (.array len e)∧Y3 P e=some false∧yb P e=some 1
theorem Iw {P:Program} {F:zD} {o:Oper} {T:Tm} {H:Hp} {t:TypeId} {x y:Operand} {cs:List z0} {len:Nat} {k:IntKind} {z:Int} {v:z0} [ha:AE P t len] (ho:o.op= .index t x y) (hx:zK T x=some (.agg cs)) (hy:zK T y=some (.int k (.lit z))) (hz:0≤z) (hl:z<(len:Nat)) (hv:cs[z.toNat]? =some v):
 yd P F T H o=some (.val v H):=by
 obtain⟨e,h1,h2,h3⟩:=ha.h
 obtain⟨n,rfl⟩: ∃n:Nat,z=n:=⟨z.toNat,by omega⟩
 have:Nat.blt n len=true:=by rw [Nat.blt_eq];omega
 simp only [yd,ho,VE,hx,hy,h1,uj,h3,this,cond_true,Y9,h2,Nat.mul_one]
 have hv':cs[n]? =some v:=hv
 rw [hv'];rfl
theorem vD {P:Program} {F:zD} {o:Oper} {T:Tm} {H:Hp} {c:Call} {t:TypeId} {ts:List TypeId} {x:Operand} {sz:Nat} {a:Option (Nat×Nat)} {n es:Nat} {cap:Option Nat} [hs:SL P t sz] (ho:o.op= .call c) (hc:c.callee= .builtin .len) (ht:c.argTypes.toList=t::ts) (ha:c.args.toList= [x])
 (hx:zK T x=some (.slice a n cap es)):yd P F T H o=some (.val (.int .i64 (.lit ((n:Nat):Int))) H):=Lv ho hc ht ha hx
def Tm.U5 (g:Nat→Option z0):Nat→Tm
 |0=> .nil
 |k+1=> .node (g 0) (g 1) (g 2) (g 3) (g 4) (g 5) (g 6) (g 7) (g 8) (g 9) (g 10) (g 11) (g 12) (g 13) (g 14) (g 15) (Tm.U5 (fun i=>g (i+16)) k)
theorem Tm.shape: ∀(k:Nat) (T:Tm),T.len=k→ ∃g,T=Tm.U5 g k:=by
 intro k
 induction k with
 |zero=>intro T h;exact⟨fun _=>none,Tm.z2M h⟩
 |succ k ih=>
  intro T h
  obtain⟨a0,a1,a2,a3,a4,a5,a6,a7,a8,a9,YW,YX,YY,YZ,Ya,Yb,nx,rfl,h1⟩:=Tm.opened h
  obtain⟨g,rfl⟩:=ih nx h1
  exact⟨fun i=>match i with
   |0=>a0|1=>a1|2=>a2|3=>a3|4=>a4|5=>a5|6=>a6|7=>a7|8=>a8|9=>a9|10=>YW|11=>YX|12=>YY|13=>YZ|14=>Ya|15=>Yb
   |n+16=>g n,rfl⟩
theorem Tm.KG (d:U7) (v:z0): ∀(k:Nat) (T:Tm),Tm.gk d k T=some v→Tm.sk d v k T=T:=by
 intro k
 induction k with
 |zero=>
  intro T h
  cases T with
  |nil=>exact Tm.pq d v
  |node=>cases d<;>(cases h;rfl)
 |succ k ih=>
  intro T h
  cases T with
  |nil=>rfl
  |node a0 a1 a2 a3 a4 a5 a6 a7 a8 a9 YW YX YY YZ Ya Yb nx=>
   show Tm.node a0 a1 a2 a3 a4 a5 a6 a7 a8 a9 YW YX YY YZ Ya Yb (Tm.sk d v k nx)=_
   rw [ih nx h]
theorem Tm.zr {i:Nat} {v:z0} {T:Tm} (h:Tm.get i T=some v):Tm.put i v T=T:=Tm.KG _ v _ T h
def kW (p:Int×Int):z0:= .agg [.int .i64 (.lit p.1),.int .i64 (.lit p.2)]
class MW (P:Program) (t:Nat):Prop where
 h: ∃kt et,yj P t=some (.map kt et)∧(∀p,vM P kt (kW p)=true)∧ ∀F H p q,VA P F H 3 kt (kW p) (kW q)=some (decide (p=q))
def lb (H:Hp) (id:Nat) (ks:List (Int×Int)):Prop:= ∃es clock,H.t.get id=some (.map es clock)∧es.map (·.key)=ks.map kW
def kH (ks:List (Int×Int)) (k:Int×Int):List (Int×Int):=if k ∈ ks then ks else ks++ [k]
theorem il (p:Int×Int):Y4 (kW p) (kW p)=true:=by
 simp [Y4,kW,Wk,gN,QB,vy,ka]
section
variable {P:Program} {F:zD} {zB:yy} {ops:Array Oper} {o:Oper} {l:List Oper} {T:Tm} {H:Hp} {Q:Tm→Hp→Prop}
theorem CJ {kt:TypeId} (he: ∀p q,VA P F H 3 kt (kW p) (kW q)=some (decide (p=q))) (k:Int×Int): ∀(ks:List (Int×Int)) (es:List Entry),es.map (·.key)=ks.map kW→ ∀i,
 (k ∈ ks∧ ∃j e,jA (VA P F H 3 kt) (kW k) es i=some (some (i+j,e))∧e.key=kW k∧es[j]? =some e)∨(k ∉ ks∧jA (VA P F H 3 kt) (kW k) es i=some none):=by
 intro ks
 induction ks with
 |nil=>
  intro es h i
  cases es with
  |nil=>exact .inr ⟨by simp,rfl⟩
  |cons=>simp at h
 |cons q ks ih=>
  intro es h i
  cases es with
  |nil=>simp at h
  |cons e es=>
   simp only [List.map_cons,List.cons.injEq]at h
   have hf:jA (VA P F H 3 kt) (kW k) (e::es) i=(match VA P F H 3 kt (kW k) e.key with
    |some true=>some (some (i,e))
    |some false=>jA (VA P F H 3 kt) (kW k) es (i+1)
    |none=>none):=rfl
   rw [h.1,he]at hf
   by_cases hq:k=q
   ·rw [decide_eq_true hq]at hf
    exact .inl ⟨by rw [hq];simp,0,e,hf,by rw [h.1,hq],rfl⟩
   rw [decide_eq_false hq]at hf
   rcases ih es h.2 (i+1)with⟨h1,j,e2,h2,h3,h4⟩|⟨h1,h2⟩
   ·exact .inl ⟨by simp [h1],j+1,e2,by rw [hf];show jA _ _ es (i+1)=_;rw [h2];congr 3;omega,h3,by simpa using h4⟩
   exact .inr ⟨by simp [hq,h1],by rw [hf];exact h2⟩
theorem aQ {t:TypeId} {m k x:Operand} {id:Nat} {p:Int×Int} {v:z0} {ks:List (Int×Int)} [hM:MW P t] (hm:lb H id ks) (ho:o.op= .mapUpdate t m k x) (hw:zP ops T o=some true) (h1:zK T m=some (.map (some id))) (h2:zK T k=some (kW p)) (h3:zK T x=some v)
 (kk: ∀H',lb H' id (kH ks p)→Q3 (· =id) H H'→H'.next=H.next→uY P F zB ops l (zp T o.dst unit) H' Q):uY P F zB ops (o::l) T H Q:=by
 obtain⟨kt,et,g1,g2,g3⟩:=hM.h
 obtain⟨es,clock,h4,h5⟩:=hm
 have h6:H.gy id=some (es,clock):=by simp only [Hp.gy,h4]
 have fin: ∀q,Q3 (· =id) H (H.put id q):=fun q=>⟨Nat.le_refl _,fun k x hk hx=>by simp only [Hp.put,Tr.yh,if_neg hk];exact hx,fun h=>h.put h4 _⟩
 rcases CJ (P:=P) (F:=F) (H:=H) (g3 F H) p ks es h5 0 with⟨hi,j,e,a1,a2,a3⟩|⟨hi,a1⟩
 ·rw [Nat.zero_add]at a1
  have hb:Y4 (kW p) e.key=true:=by rw [a2];exact il p
  refine qz hw (v:=unit) (H':=H.put id (.map (es.set j ⟨kW p,v,e.born⟩) clock)) ?_ (kk _ ⟨_,clock,by show(Tr.set _ _ _).get _=_;rw [Tr.yh,if_pos rfl],?_⟩ (fin _) rfl)
  ·simp only [yd,ho,gK,h1,h2,h3,Vg,g1,g2,cond_true,h6,a1,hb]
  unfold kH
  rw [if_pos hi,←h5]
  apply List.ext_getElem?
  intro n
  simp only [List.getElem?_map,List.getElem?_set]
  by_cases hn:j=n
  ·subst hn
   have hl:j<es.length:=(List.getElem?_eq_some_iff.1 a3).1
   rw [if_pos rfl,if_pos hl,a3];simp [a2]
  rw [if_neg hn]
 refine qz hw (v:=unit) (H':=H.put id (.map (es++ [⟨kW p,v,clock⟩]) (clock+1))) ?_ (kk _ ⟨_,clock+1,by show(Tr.set _ _ _).get _=_;rw [Tr.yh,if_pos rfl],?_⟩ (fin _) rfl)
 ·simp only [yd,ho,gK,h1,h2,h3,Vg,g1,g2,cond_true,h6,a1]
 unfold kH
 rw [if_neg hi];simp [h5]
theorem OB {c:Call} {t:TypeId} {ts:List TypeId} {x:Operand} {id:Nat} {ks:List (Int×Int)} [hM:MW P t] (hm:lb H id ks) (ho:o.op= .call c) (hc:c.callee= .builtin .len) (ht:c.argTypes.toList=t::ts) (ha:c.args.toList= [x]) (hx:zK T x=some (.map (some id))):
 yd P F T H o=some (.val (.int .i64 (.lit ((ks.length:Nat):Int))) H):=by
 obtain⟨kt,et,g1,_⟩:=hM.h
 obtain⟨es,clock,h4,h5⟩:=hm
 have h6:H.gy id=some (es,clock):=by simp only [Hp.gy,h4]
 have h7:es.length=ks.length:=by have:=congrArg List.length h5;simpa using this
 simp only [yd,ho,hc,ht,ha,wQ,hx,yq,yc,ix,g1,h6,zN.qK,h7];rfl
theorem lb.only {S:Nat→Prop} {H H':Hp} {id:Nat} {ks:List (Int×Int)} (h:lb H id ks) (o:Q3 S H H') (hi: ¬S id):lb H' id ks:=by
 obtain⟨es,c,h1,h2⟩:=h
 exact⟨es,c,o.same id _ hi h1,h2⟩
class MT (P:Program) (t:Nat):Prop where
 h: ∃kt et,yj P t=some (.map kt et)
end
abbrev q7:=Nat→Option jS
abbrev SP:=q7→Prop
def q7.le (a h:q7):Prop:= ∀k x,a k=some x→h k=some x
def q7.off (a b:q7):Prop:= ∀k,a k=none∨b k=none
def Sat:List SP→q7→Prop
 | [],_=>True
 |p::L,h=> ∃a b:q7,a.off b∧a.le h∧b.le h∧p a∧Sat L b
theorem q7.le.trans {a b c:q7} (h:a.le b) (k:b.le c):a.le c:=fun i x e=>k i x (h i x e)
theorem Sat.mono {L:List SP} {h h':q7} (s:Sat L h) (l:h.le h'):Sat L h':=by
 cases L with
 |nil=>trivial
 |cons p L=>obtain⟨a,b,h1,h2,h3,h4,h5⟩:=s;exact⟨a,b,h1,h2.trans l,h3.trans l,h4,h5⟩
theorem Sat.tail {p:SP} {L:List SP} {h:q7} (s:Sat (p::L) h):Sat L h:=by
 obtain⟨a,b,h1,h2,h3,h4,h5⟩:=s;exact h5.mono h3
def q7.or (a b:q7):q7:=fun k=>match a k with
 |some x=>some x
 |none=>b k
theorem q7.Nv (a b:q7):a.le (a.or b):=fun k x e=>by simp only [q7.or,e]
theorem q7.Nw {a b:q7} (h:a.off b):b.le (a.or b):=fun k x e=>by
 rcases h k with h|h
 ·simp only [q7.or,h,e]
 rw [h]at e;cases e
theorem q7.Df {a b h:q7} (ha:a.le h) (hb:b.le h):(a.or b).le h:=fun k x e=>by
 simp only [q7.or]at e
 cases hk:a k with
 |some y=>rw [hk]at e;cases e;exact ha k _ hk
 |none=>rw [hk]at e;exact hb k x e
theorem q7.sU {a b c:q7} (h:a.off b) (k:a.off c):a.off (b.or c):=fun i=>by
 rcases h i with h|h
 ·exact .inl h
 rcases k i with k|k
 ·exact .inl k
 exact .inr (by simp only [q7.or,h,k])
theorem q7.off.symm {a b:q7} (h:a.off b):b.off a:=fun k=>(h k).symm
theorem q7.off.le {a b c:q7} (h:a.off b) (k:c.le b):a.off c:=fun i=>by
 rcases h i with h|h
 ·exact .inl h
 cases hc:c i with
 |none=>exact .inr rfl
 |some x=>rw [k i x hc]at h;cases h
theorem Sat.swap {p q:SP} {L:List SP} {h:q7} (s:Sat (p::q::L) h):Sat (q::p::L) h:=by
 obtain⟨a,b,h1,h2,h3,h4,c,d,k1,k2,k3,k4,k5⟩:=s
 exact⟨c,a.or d,(q7.sU (h1.le k2).symm k1),k2.trans h3,q7.Df h2 (k3.trans h3),k4,a,d,h1.le k3,q7.Nv _ _,q7.Nw (h1.le k3),h4,k5⟩
theorem Sat.cons {p q:SP} {L M:List SP} {h:q7} (s:Sat (p::L) h) (hp: ∀a,p a→q a) (hL: ∀b,Sat L b→Sat M b):Sat (q::M) h:=by
 obtain⟨a,b,h1,h2,h3,h4,h5⟩:=s;exact⟨a,b,h1,h2,h3,hp a h4,hL b h5⟩
theorem Sat.append {L M:List SP} : ∀ {h:q7},Sat (L++M) h→ ∃a b:q7,a.off b∧a.le h∧b.le h∧Sat L a∧Sat M b:=by
 induction L with
 |nil=>intro h s;exact⟨fun _=>none,h,fun _=> .inl rfl,(fun k x e=>nomatch e),(fun k x e=>e),trivial,s⟩
 |cons p L ih=>
  intro h s
  obtain⟨a,b,h1,h2,h3,h4,h5⟩:=s
  obtain⟨c,d,k1,k2,k3,k4,k5⟩:=ih h5
  exact⟨a.or c,d,(q7.sU (h1.le k3).symm k1.symm).symm,q7.Df h2 (k2.trans h3),k3.trans h3,⟨a,c,h1.le k2,q7.Nv _ _,q7.Nw (h1.le k2),h4,k4⟩,k5⟩
theorem Sat.join {L M:List SP} : ∀ {a b h:q7},a.off b→a.le h→b.le h→Sat L a→Sat M b→Sat (L++M) h:=by
 induction L with
 |nil=>intro a b h h1 h2 h3 _ s;exact s.mono h3
 |cons p L ih=>
  intro a b h h1 h2 h3 s k
  obtain⟨c,d,k1,k2,k3,k4,k5⟩:=s
  exact⟨c,d.or b,q7.sU k1 (h1.symm.le k2).symm,k2.trans h2,q7.Df (k3.trans h2) h3,k4,ih (h1.symm.le k3).symm (q7.Nv _ _) (q7.Nw (h1.symm.le k3).symm) k5 k⟩
def z3 {κ α:Type} (K:κ→α→SP) (a:κ) (x:α):SP:=K a x
def TV (L:List SP):SP:=Sat L
theorem QJ {L M:List SP} {h:q7} (s:Sat (TV L::M) h):Sat (L++M) h:=by
 obtain⟨a,b,h1,h2,h3,h4,h5⟩:=s;exact .join h1 h2 h3 h4 h5
theorem qo {L M:List SP} {h:q7} (s:Sat (L++M) h):Sat (TV L::M) h:=by
 obtain⟨a,b,h1,h2,h3,h4,h5⟩:=s.append;exact⟨a,b,h1,h2,h3,h4,h5⟩
class Tk {κ α:Type} (L:List SP) (K:κ→α→SP) (a:κ) (x:outParam α) (R:outParam (List SP)):Prop where
 h: ∀f,Sat L f→Sat (z3 K a x::R) f
 b: ∀f,Sat (z3 K a x::R) f→Sat L f
instance Xj {κ α:Type} (K:κ→α→SP) (a:κ) (x:α) (L:List SP):Tk (z3 K a x::L) K a x L:=⟨fun _ s=>s,fun _ s=>s⟩
instance Tu {κ α:Type} (p:SP) (L:List SP) (K:κ→α→SP) (a:κ) (x:α) (R:List SP) [t:Tk L K a x R]:Tk (p::L) K a x (p::R):=
 ⟨fun _ s=>(s.cons (fun _ e=>e) t.h).swap,fun _ s=>s.swap.cons (fun _ e=>e) t.b⟩
class Sub (L M:List SP):Prop where
 h: ∀f,Sat L f→Sat M f
theorem Sub.refl (L:List SP):Sub L L:=⟨fun _ s=>s⟩
theorem Sub.nil (L:List SP):Sub L []:=⟨fun _ _=>trivial⟩
theorem Sub.trans {L M N:List SP} (h:Sub L M) (k:Sub M N):Sub L N:=⟨fun f s=>k.h f (h.h f s)⟩
theorem Sub.drop {p:SP} {L M:List SP} (h:Sub L M):Sub (p::L) M:=⟨fun f s=>h.h f s.tail⟩
theorem Sub.wU {p:SP} {L M:List SP} (h:Sub L M):Sub (p::L) (p::M):=⟨fun _ s=>s.cons (fun _ e=>e) h.h⟩
theorem Sub.get {κ α:Type} {L M R:List SP} {K:κ→α→SP} {a:κ} {x y:α} [t:Tk L K a x R] (e:x=y) (h:Sub R M):Sub L (z3 K a y::M):=⟨fun f s=>by
 subst e;exact(t.h f s).cons (fun _ e=>e) h.h⟩
theorem Sub.imp {κ α:Type} {L M R:List SP} {K:κ→α→SP} {a:κ} {x:α} [t:Tk L K a x R] {q:SP} (e: ∀f,K a x f→q f) (h:Sub R M):Sub L (q::M):=⟨fun f s=>(t.h f s).cons e h.h⟩
structure zU (L:List SP) (H:Hp):Prop where
 ok:mF H
 s:Sat L fun k=>H.t.get k
theorem zU.sub {L M:List SP} {H:Hp} (h:zU L H) (s:Sub L M):zU M H:=⟨h.ok,s.h _ h.s⟩
def zC (i:Nat) (cs:List z0):SP:=fun h=> ∃c w,h i=some (.cells true c w)∧cs.length≤w∧ ∀j,j<cs.length→c.get j=cs[j]?
def zO (i:Nat) (x:Nat×(Nat→z0)):SP:=fun h=> ∃c w,h i=some (.cells true c w)∧x.1≤w∧ ∀j,j<x.1→c.get j=some (x.2 j)
def dw (i:Nat) (l:List (Int×z0)):SP:=fun h=> ∃es clock,h i=some (.map es clock)∧B6 es l
def bJ (i:Nat) (ks:List (Int×Int)):SP:=fun h=> ∃es clock,h i=some (.map es clock)∧es.map (·.key)=ks.map kW
def qC (i:Nat) (x:Nat×List z0):SP:=fun h=> ∃s r,h i=some (.chan x.1 x.2 s r)
inductive nh (h:q7):z0→Nat→List z0→Prop
 |nil (e es:Nat):nh h (.slice none 0 (some 0) e) es []
 |emp (i off es:Nat):nh h (.slice (some (i,off)) 0 (some 0) es) es []
 |own (i off len n es:Nat) (f:Nat→z0) (cs:List z0) (hr:zO i (n,f) h) (hn:off+len*es≤n) (hc:cs=zj f off (len*es)):nh h (.slice (some (i,off)) len none es) es cs
 |part (i off len cap n es:Nat) (f:Nat→z0) (cs:List z0) (hr:zO i (n,f) h) (hn:off+cap*es≤n) (hl:len≤cap) (hc:cs=zj f off (len*es)):nh h (.slice (some (i,off)) len (some cap) es) es cs
theorem nh.mono {h h':q7} (l:h.le h') {v:z0} {es:Nat} {cs:List z0} (s:nh h v es cs):nh h' v es cs:=by
 cases s with
 |nil e es=>exact .nil e es
 |emp i off es=>exact .emp i off es
 |own i off len n es f cs hr hn hc=>obtain⟨c,w,h1,h2⟩:=hr;exact .own i off len n es f cs ⟨c,w,l _ _ h1,h2⟩ hn hc
 |part i off len cap n es f cs hr hn hl hc=>obtain⟨c,w,h1,h2⟩:=hr;exact .part i off len cap n es f cs ⟨c,w,l _ _ h1,h2⟩ hn hl hc
def jW (cs:List z0) (j:Nat):z0:=(cs[j]?).getD unit
theorem vE {i:Nat} {cs:List z0} {f:Nat→z0} (e: ∀j,j<cs.length→cs[j]? =some (f j)): ∀h,zC i cs h→zO i (cs.length,f) h:=by
 rintro h ⟨c,w,h1,h3,h2⟩
 exact⟨c,w,h1,h3,fun j hj=>by rw [h2 j hj,e j hj]⟩
theorem pU {i n:Nat} {cs:List z0} {f:Nat→z0} (hn:n=cs.length) (e: ∀j,j<cs.length→cs[j]? =some (f j)): ∀h,zO i (n,f) h→zC i cs h:=by
 subst hn
 rintro h ⟨c,w,h1,h3,h2⟩
 exact⟨c,w,h1,h3,fun j hj=>by rw [h2 j hj,e j hj]⟩
theorem vK {i n:Nat} {f g:Nat→z0} (e: ∀j,j<n→f j=g j): ∀h,zO i (n,f) h→zO i (n,g) h:=by
 rintro h ⟨c,w,h1,h3,h2⟩
 exact⟨c,w,h1,h3,fun j hj=>(h2 j hj).trans (congrArg some (e j hj))⟩
theorem Sat.Ms {i n:Nat} {f:Nat→z0} {R:List SP} {H:Hp} (s:Sat (z3 zO i (n,f)::R) fun k=>H.t.get k): ∃c w,H.t.get i=some (.cells true c w)∧n≤w∧ ∀j,j<n→c.get j=some (f j):=by
 obtain⟨a,b,h1,h2,h3,⟨c,w,h4,h7,h5⟩,h6⟩:=s
 exact⟨c,w,h2 _ _ h4,h7,h5⟩
theorem Sat.rd {i n:Nat} {f:Nat→z0} {R:List SP} {H:Hp} (s:Sat (z3 zO i (n,f)::R) fun k=>H.t.get k) {j:Nat} (hj:j<n):H.gP i j=some (f j):=by
 obtain⟨c,w,h1,h2,h3⟩:=s.Ms
 simp only [Hp.gP,h1,h3 j hj]
theorem Sat.Xh {i m:Nat} {f:Nat→z0} {R:List SP} {H:Hp} (s:Sat (z3 zO i (m,f)::R) fun k=>H.t.get k) {o n:Nat} (ho:o+n≤m):H.read i o n=some (zj f o n):=by
 obtain⟨c,w,h1,h2,h3⟩:=s.Ms
 simp only [Hp.read,h1]
 exact um h3 n o ho
theorem Qk {cs:List z0} {j:Nat} (h:j<cs.length):cs[j]? =some (jW cs j):=by
 unfold jW;rw [List.getElem?_eq_getElem h];rfl
theorem Sat.row {i:Nat} {cs:List z0} {R:List SP} {h:q7} (s:Sat (z3 zC i cs::R) h):Sat (z3 zO i (cs.length,jW cs)::R) h:=
 s.cons (q:=z3 zO i (cs.length,jW cs)) (vE fun j hj=>Qk hj) fun _ e=>e
theorem Sat.isSome {κ α:Type} {K:κ→α→SP} {a:κ} {x:α} {i:Nat} {R:List SP} {h:q7} (s:Sat (z3 K a x::R) h) (hk: ∀f,K a x f→ ∃y,f i=some y) {o:jS} {y:α} (hn: ∀f:q7,f i=some o→K a y f):
 ∀h':q7,h' i=some o→(∀k,k≠i→ ∀z,h k=some z→h' k=some z)→Sat (z3 K a y::R) h':=by
 intro h' h1 h2
 obtain⟨a,b,k1,k2,k3,k4,k5⟩:=s
 obtain⟨z,hz⟩:=hk _ k4
 have hb:b i=none:=(k1 i).resolve_left (by rw [hz];nofun)
 refine⟨fun k=>if k=i then some o else none,b,fun k=> ?_,fun k w e=> ?_,fun k w e=> ?_,hn _ (by simp),k5⟩
 ·by_cases e:k=i
  ·subst e;exact .inr hb
  exact .inl (by simp [e])
 ·by_cases e2:k=i
  ·subst e2;simp at e;rw [h1,e]
  simp [e2]at e
 by_cases e2:k=i
 ·subst e2;rw [hb]at e;cases e
 exact h2 k e2 w (k3 k w e)
theorem zU.alloc {κ α:Type} {K:κ→α→SP} {a:κ} {x:α} {L:List SP} {H:Hp} (h:zU L H) {o:jS} (hn: ∀f:q7,f H.next=some o→K a x f):zU (z3 K a x::L) (H.alloc o):=by
 refine⟨fun k y hk=> ?_,fun k=>if k=H.next then some o else none,fun k=>H.t.get k,fun k=> ?_,fun k w e=> ?_,fun k w e=> ?_,hn _ (by simp),h.s⟩
 ·have hk':(H.t.set H.next o).get k=some y:=hk
  rw [Tr.yh]at hk'
  show k<H.next+1
  by_cases e:k=H.next
  ·omega
  rw [if_neg e]at hk';have:=h.ok k y hk';omega
 ·by_cases e:k=H.next
  ·refine .inr ?_
   show H.t.get k=none
   cases hk:H.t.get k with
   |none=>rfl
   |some y=>have:=h.ok k y hk;omega
  exact .inl (by simp [e])
 ·show(H.t.set H.next o).get k=some w
  rw [Tr.yh]
  by_cases e2:k=H.next
  ·rw [if_pos e2];simpa [e2] using e
  simp [e2]at e
 show(H.t.set H.next o).get k=some w
 have:=h.ok k w e
 rw [Tr.yh,if_neg (by omega)];exact e
theorem zU.put {κ α:Type} {K:κ→α→SP} {a:κ} {x y:α} {R:List SP} {H:Hp} {i:Nat} {o o':jS} (h:zU (z3 K a x::R) H) (hi:H.t.get i=some o') (hk: ∀f,K a x f→ ∃y,f i=some y) (hn: ∀f:q7,f i=some o→K a y f):zU (z3 K a y::R) (H.put i o):=
 ⟨h.ok.put hi o,h.s.isSome hk hn _ (by show(H.t.set i o).get i=_;rw [Tr.yh,if_pos rfl]) fun k hk z hz=>by show(H.t.set i o).get k=_;rw [Tr.yh,if_neg hk];exact hz⟩
section
variable (P:Program) (F:zD) (zB:yy)
def SW (f:FuncId) (zC0:List z0) (L:List SP) (Q:z0→List SP→Prop):Prop:= ∀H,zU L H→YT P F zB f zC0 H fun v H'=> ∃L',Q v L'∧zU L' H'
def WO (ops:Array Oper) (l:List Oper) (T:Tm) (L:List SP) (Q:Tm→List SP→Prop):Prop:= ∀H,zU L H→uY P F zB ops l T H fun T' H'=> ∃L',Q T' L'∧zU L' H'
def WC (c:Code) (T:Tm) (L:List SP) (Q:ym→Tm→List SP→Prop):Prop:= ∀H,zU L H→wS P F zB c T H fun e T' H'=> ∃L',Q e T' L'∧zU L' H'
def WS (ops:Array Oper) (ss:List vZ) (T:Tm) (L:List SP) (Q:Tm→List SP→Prop):Prop:= ∀H,zU L H→ZJ P F zB ops ss T H fun T' H'=> ∃L',Q T' L'∧zU L' H'
def WK (ops:Array Oper) (l:List It) (T:Tm) (L:List SP) (Q:Tm→List SP→Prop):Prop:= ∀H,zU L H→uP P F ops l T H fun T' H'=> ∃L',Q T' L'∧zU L' H'
def WA (ops:Array Oper) (l:List It) (T:Tm) (L:List SP):Prop:= ∀H,zU L H→jo P F ops T H l
def Fin (T:Tm) (L:List SP) (rs:List ResultVar) (Q:z0→List SP→Prop):Prop:= ∃vs,(∀H,zU L H→wR P T H rs=some vs)∧ ∃L',Q (match vs with
 | [v]=>v
 |vs=> .tuple vs) L'∧Sub L L'
end
section
variable {P:Program} {F:zD} {zB:yy} {ops:Array Oper} {o:Oper} {l:List Oper} {T:Tm} {L R:List SP} {Q:Tm→List SP→Prop}
theorem lI: ∀ {l:List It} {T:Tm} {H:Hp} {Q Q':Tm→Hp→Prop},uP P F ops l T H Q→(∀T H,Q T H→Q' T H)→uP P F ops l T H Q':=by
 intro l
 induction l with
 |nil=>intro T H Q Q' h hq;exact hq _ _ h
 |cons x l ih=>
  intro T H Q Q' h hq
  simp only [uP]at h ⊢
  split at h
  ·exact ih h hq
  exact h.elim
theorem SW.intro {f:FuncId} {fn:Func} {b:Code} {zC0:List z0} {Q:z0→List SP→Prop} (hk:zB f=none) (hf:P.funcs[f]? =some fn) (hb:fn.body=some b)
 (h:WC P F zB b (WX zC0 0 (Tm.mk (fn.ntmps/16+1))) L fun e T' L'=>(e= .normal∨e= .ret)∧Fin P T' L' fn.results.toList Q):SW P F zB f zC0 L Q:=by
 intro H hH
 refine YT.Nb hk hf hb (ZI (h H hH) fun e T' H' hq=> ?_)
 obtain⟨L',⟨he,vs,h1,L2,h2,h3⟩,hL⟩:=hq
 exact⟨he,vs,h1 H' hL,L2,h2,hL.sub h3⟩
theorem SW.mono {f:FuncId} {zC0:List z0} {Q Q':z0→List SP→Prop} (h:SW P F zB f zC0 L Q) (hq: ∀v L',Q v L'→Q' v L'):SW P F zB f zC0 L Q':=
 fun H hH=>(h H hH).mono fun _ _ ⟨L',a,b⟩=>⟨L',hq _ _ a,b⟩
theorem SW.sub {f:FuncId} {zC0:List z0} {M:List SP} {Q:z0→List SP→Prop} (h:SW P F zB f zC0 M Q) (s:Sub L M):SW P F zB f zC0 L Q:=
 fun H hH=>h H (hH.sub s)
theorem SW.view {f:FuncId} {zC0:List z0} {J:List SP→Prop} {Q:z0→List SP→Prop} (hu: ∀h,Sat L h→ ∃L',J L'∧Sat L' h) (k: ∀L',J L'→SW P F zB f zC0 L' Q):SW P F zB f zC0 L Q:=by
 intro H hH
 obtain⟨L',h1,h2⟩:=hu _ hH.s
 exact k L' h1 H ⟨hH.ok,h2⟩
theorem vj {a b:Code} {Q:ym→Tm→List SP→Prop} (h:WC P F zB a T L fun e T L=>match e with
 | .normal=>WC P F zB b T L Q
 |e=>Q e T L):WC P F zB (.seq a b) T L Q:=by
 intro H hH
 refine Od (ZI (h H hH) fun e T' H' hq=> ?_)
 obtain⟨L',h1,h2⟩:=hq
 cases e with
 |normal=>exact h1 H' h2
 |exit i=>exact⟨L',h1,h2⟩
 |ret=>exact⟨L',h1,h2⟩
theorem j8 {id:Nat} {Q:ym→Tm→List SP→Prop} (h:WO P F zB ops ops.toList T L fun T L=>Q .normal T L):WC P F zB (.region id ops false) T L Q:=fun H hH=>h H hH
theorem mU {x:Operand} {a b:Code} {Q:ym→Tm→List SP→Prop} (hx:zK T x=some (.bool true)) (h:WC P F zB a T L Q):WC P F zB (.cond x a b) T L Q:=fun H hH=>Kr hx (h H hH)
theorem kS {x:Operand} {a b:Code} {Q:ym→Tm→List SP→Prop} (hx:zK T x=some (.bool false)) (h:WC P F zB b T L Q):WC P F zB (.cond x a b) T L Q:=fun H hH=>F5 hx (h H hH)
theorem mT {Q:ym→Tm→List SP→Prop} (h:Q .normal T L):WC P F zB .skip T L Q:=fun _ hH=>⟨L,h,hH⟩
theorem Mf {id:Nat} {Q:ym→Tm→List SP→Prop} (h:Q (.exit id) T L):WC P F zB (.exit id) T L Q:=fun _ hH=>⟨L,h,hH⟩
theorem xS {Q:ym→Tm→List SP→Prop} (h:Q .ret T L):WC P F zB .ret T L Q:=fun _ hH=>⟨L,h,hH⟩
theorem Fq {id:Nat} {b:Code} {Q:ym→Tm→List SP→Prop} (h:WC P F zB b T L fun e T L=>match e with
 | .exit i=>bif Nat.beq i id then Q .normal T L else Q (.exit i) T L
 |e=>Q e T L):WC P F zB (.block id b) T L Q:=by
 intro H hH
 refine F3 (ZI (h H hH) fun e T' H' hq=> ?_)
 obtain⟨L',h1,h2⟩:=hq
 cases e with
 |normal=>exact⟨L',h1,h2⟩
 |exit i=>
  simp only at h1 ⊢
  cases hb:Nat.beq i id<;>simp only [hb,cond_true,cond_false]at h1 ⊢ <;>exact⟨L',h1,h2⟩
 |ret=>exact⟨L',h1,h2⟩
theorem zy {b:Code} {Q:ym→Tm→List SP→Prop} (I:Nat→Tm→List SP→Prop) (n:Nat) (h0:I n T L)
 (hs: ∀k T L,I k T L→WC P F zB b T L fun e T' L'=>(e= .normal∧ ∃j,j<k∧I j T' L')∨(e≠ .normal∧Q e T' L')):WC P F zB (.loop b) T L Q:=by
 intro H hH
 refine Zs.loop (fun k T H=> ∃L,I k T L∧zU L H) n ⟨L,h0,hH⟩ fun k T H hI=> ?_
 obtain⟨L,hI,hL⟩:=hI
 refine(mD (hs k T L hI H hL)).imp fun e T' H' hq=> ?_
 obtain⟨L',h1|h1,h2⟩:=hq
 ·obtain⟨he,j,hj,hI⟩:=h1
  exact .inl ⟨he,j,hj,L',hI,h2⟩
 exact .inr ⟨h1.1,L',h1.2,h2⟩
theorem mS {c:Code} {Q Q':ym→Tm→List SP→Prop} (h:WC P F zB c T L Q) (hq: ∀e T L,Q e T L→Q' e T L):WC P F zB c T L Q':=
 fun H hH=>ZI (h H hH) fun _ _ _ ⟨L',a,b⟩=>⟨L',hq _ _ _ a,b⟩
theorem Bc {a b:Code} {Q:ym→Tm→List SP→Prop} (I:Tm→List SP→Prop) (h1:WC P F zB a T L fun e T' L'=>match e with
 | .normal=>I T' L'
 |e=>Q e T' L') (h2: ∀T' L',I T' L'→WC P F zB b T' L' Q):WC P F zB (.seq a b) T L Q:=
 vj (mS h1 fun e T' L' h=>by cases e<;>first|exact h2 _ _ h|exact h)
theorem Mg {c:Code} {J:List SP→Prop} {Q:ym→Tm→List SP→Prop} (hu: ∀h,Sat L h→ ∃L',J L'∧Sat L' h) (k: ∀L',J L'→WC P F zB c T L' Q):WC P F zB c T L Q:=by
 intro H hH
 obtain⟨L',h1,h2⟩:=hu _ hH.s
 exact k L' h1 H ⟨hH.ok,h2⟩
theorem yE {c:Code} {M:List SP} {Q:ym→Tm→List SP→Prop} (s:Sub L M) (k:WC P F zB c T M Q):WC P F zB c T L Q:=fun H hH=>k H (hH.sub s)
theorem zW (ms:List Nat) (pl:List (List Nat×List Nat×Option Nat)) {id:Nat} {Q:ym→Tm→List SP→Prop} (hp:UW ops=some (tX ops ms pl)) (h:WS P F zB ops (tX ops ms pl) T L fun T L=>Q .normal T L):WC P F zB (.region id ops true) T L Q:=
 fun H hH=>F4 ms pl hp (h H hH)
theorem z7 {s:vZ} {ss:List vZ} (h:WK P F ops s.work T L fun T L=>WA P F ops s.again T L∧match s.chain with
 |none=>Q T L
 |some c=>WO P F zB ops [c.o] T L fun T L=>WS P F zB ops ss T L Q):WS P F zB ops (s::ss) T L Q:=by
 intro H hH
 refine p8 (lI (h H hH) fun T' H' hq=> ?_)
 obtain⟨L',⟨h1,h2⟩,h3⟩:=hq
 refine⟨h1 H' h3,?_⟩
 cases hc:s.chain with
 |none=>rw [hc]at h2;exact⟨L',h2,h3⟩
 |some c=>
  rw [hc]at h2
  refine dG (h2 H' h3) fun T2 H2 hq=> ?_
  obtain⟨L2,h4,h5⟩:=hq
  exact h4 H2 h5
theorem zJ (h:Q T L):WO P F zB ops [] T L Q:=fun _ hH=>⟨L,h,hH⟩
theorem zo {v:z0} (hw:zP ops T o=some true) (ha: ∀H,yd P F T H o=some (.val v H)) (h:WO P F zB ops l (zp T o.dst v) L Q):WO P F zB ops (o::l) T L Q:=fun H hH=>qz hw (ha H) (h H hH)
theorem ZT (hw:zP ops T o=some false) (h:WO P F zB ops l (zp T o.dst unit) L Q):WO P F zB ops (o::l) T L Q:=fun H hH=>Oc hw (h H hH)
theorem qJ {v:z0} (hw:zP ops T o=some true) (ha: ∀H,zU L H→yd P F T H o=some (.val v H)) (h:WO P F zB ops l (zp T o.dst v) L Q):WO P F zB ops (o::l) T L Q:=fun H hH=>qz hw (ha H hH) (h H hH)
theorem Nt {J:List SP→Prop} (hu: ∀h,Sat L h→ ∃L',J L'∧Sat L' h) (k: ∀L',J L'→WO P F zB ops l T L' Q):WO P F zB ops l T L Q:=by
 intro H hH
 obtain⟨L',h1,h2⟩:=hu _ hH.s
 exact k L' h1 H ⟨hH.ok,h2⟩
theorem zd {M:List SP} (s:Sub L M) (k:WO P F zB ops l T M Q):WO P F zB ops l T L Q:=fun H hH=>k H (hH.sub s)
theorem jG {p:Prop} (hu: ∀h,Sat L h→p) (k:p→WO P F zB ops l T L Q):WO P F zB ops l T L Q:=fun H hH=>k (hu _ hH.s) H hH
theorem zU.tk {κ α:Type} {K:κ→α→SP} {a:κ} {x:α} {H:Hp} [t:Tk L K a x R] (h:zU L H):zU (z3 K a x::R) H:=⟨h.ok,t.h _ h.s⟩
theorem an {i a:Nat} {cs:List z0} {v:z0} {H:Hp} [t:Tk L zC i cs R] (hv:cs[a]? =some v) (h:zU L H):H.gP i a=some v:=by
 have hl:a<cs.length:=(List.getElem?_eq_some_iff.1 hv).1
 rw [(h.tk (K:=zC)).s.row.rd hl]
 unfold jW;rw [hv];rfl
theorem yo {i a n:Nat} {cs vs:List z0} {H:Hp} [t:Tk L zC i cs R] (hv:(cs.drop a).take n=vs) (hl:a+n≤cs.length) (h:zU L H):H.read i a n=some vs:=by
 rw [(h.tk (K:=zC)).s.row.Xh hl,←hv]
 congr 1
 apply List.ext_getElem?
 intro j
 by_cases hj:j<n
 ·rw [y7 _ _ _ _ hj,List.getElem?_take_of_lt hj,List.getElem?_drop,Qk (by omega)]
 rw [List.getElem?_eq_none (by rw [y8];omega),List.getElem?_eq_none (by simp;omega)]
theorem N2 {i a n:Nat} {f:Nat→z0} {v:z0} {H:Hp} [t:Tk L zO i (n,f) R] (hl:a<n) (hv:f a=v) (h:zU L H):H.gP i a=some v:=by
 rw [(h.tk (K:=zO)).s.rd hl,hv]
theorem HO {i a n m:Nat} {f:Nat→z0} {vs:List z0} {H:Hp} [t:Tk L zO i (m,f) R] (hl:a+n≤m) (hv:zj f a n=vs) (h:zU L H):H.read i a n=some vs:=by
 rw [(h.tk (K:=zO)).s.Xh hl,hv]
def DL:List z0→Nat→z0→Option (List z0)
 | [],_,_=>none
 |_::cs,0,v=>some (v::cs)
 |c::cs,n+1,v=>match DL cs n v with
  |some ds=>some (c::ds)
  |none=>none
theorem iy {v:z0} : ∀ {cs ds:List z0} {a:Nat},DL cs a v=some ds→a<cs.length∧ds.length=cs.length∧ ∀j,j<cs.length→ds[j]? =some (upd (jW cs) a v j):=by
 intro cs
 induction cs with
 |nil=>intro ds a h;cases h
 |cons c cs ih=>
  intro ds a h
  cases a with
  |zero=>
   cases h
   refine⟨by simp,rfl,fun j hj=> ?_⟩
   cases j with
   |zero=>rfl
   |succ j=>simp only [List.length_cons]at hj;simp [upd,jW,List.getElem?_eq_getElem (show j<cs.length by omega)]
  |succ a=>
   simp only [DL]at h
   split at h
   ·rename_i es he
    cases h
    obtain⟨h1,h2,h3⟩:=ih he
    refine⟨by simp;omega,by simp [h2],fun j hj=> ?_⟩
    cases j with
    |zero=>simp [upd,jW]
    |succ j=>
     have:=h3 j (by simpa using hj)
     simp only [List.getElem?_cons_succ,this,upd,jW,Nat.add_right_cancel_iff]
   cases h
theorem zU.st {i a n:Nat} {f:Nat→z0} {v:z0} {H:Hp} (h:zU (z3 zO i (n,f)::R) H) (ha:a<n) (hv:v.yK=true): ∃H',H.Q0 i a v=some H'∧zU (z3 zO i (n,upd f a v)::R) H':=by
 obtain⟨p,q,h1,h2,h3,⟨c,w,h4,h7,h5⟩,h6⟩:=h.s
 have hi:H.t.get i=some (.cells true c w):=h2 _ _ h4
 have h7:n≤w:=h7
 have hb:(Nat.blt a w && v.yK)=true:=by rw [hv,Bool.and_true];simpa [Nat.blt_eq] using Nat.lt_of_lt_of_le ha h7
 refine⟨H.put i (.cells true (c.set a v) w),by simp only [Hp.Q0,hi,hb,cond_true],h.put (y:=(n,upd f a v)) hi (fun g hg=>by obtain⟨c,w,h,_⟩:=hg;exact⟨_,h⟩) fun g hg=>⟨c.set a v,w,hg,h7,fun j hj=> ?_⟩⟩
 show(c.set a v).get j=some (if j=a then v else f j)
 rw [Tr.yh]
 by_cases e:j=a
 ·rw [if_pos e,if_pos e]
 rw [if_neg e,if_neg e];exact h5 j hj
theorem zU.Xi {i a n:Nat} {f:Nat→z0} {vs:List z0} {H:Hp} (h:zU (z3 zO i (n,f)::R) H) (ha:a+vs.length≤n) (hv:yf vs=true): ∃H',H.write i a vs=some H'∧zU (z3 zO i (n,ua f a vs)::R) H':=by
 obtain⟨p,q,h1,h2,h3,⟨c,w,h4,h7,h5⟩,h6⟩:=h.s
 have hi:H.t.get i=some (.cells true c w):=h2 _ _ h4
 have h7:n≤w:=h7
 have hb:(Nat.ble (a+vs.length) w && yf vs)=true:=by rw [hv,Bool.and_true];exact Nat.ble_eq_true_of_le (Nat.le_trans ha h7)
 refine⟨H.put i (.cells true (jf c a vs) w),by simp only [Hp.write,hi,hb,cond_true],h.put (y:=(n,ua f a vs)) hi (fun g hg=>by obtain⟨c,w,h,_⟩:=hg;exact⟨_,h⟩) fun g hg=>⟨_,w,hg,h7,fun j hj=> ?_⟩⟩
 show(jf c a vs).get j=some (ua f a vs j)
 rw [Q1]
 unfold ua
 by_cases h3:a≤j∧j<a+vs.length
 ·rw [if_pos h3,if_pos h3.1,List.getElem?_eq_getElem (show j-a<vs.length by omega)];rfl
 rw [if_neg h3,h5 j hj]
 by_cases h4:a≤j
 ·rw [if_pos h4,List.getElem?_eq_none (by omega)];rfl
 rw [if_neg h4]
theorem zU.toF {i:Nat} {cs:List z0} {H:Hp} (h:zU (z3 zC i cs::R) H):zU (z3 zO i (cs.length,jW cs)::R) H:=⟨h.ok,h.s.row⟩
theorem z2O {t:TypeId} {x y:Operand} {i a:Nat} {v:z0} {cs ds:List z0} [S1 P t] [tk:Tk L zC i cs R] (hw:zP ops T o=some true) (ho:o.op= .store t x y) (hx:zK T x=some (.ptr (some (i,a)))) (hy:zK T y=some v) (hc:v.cells= [v]) (hv:v.yK=true) (hs:DL cs a v=some ds)
 (k:WO P F zB ops l (zp T o.dst unit) (z3 zC i ds::R) Q):WO P F zB ops (o::l) T L Q:=by
 intro H hH
 obtain⟨h1,h2,h3⟩:=iy hs
 obtain⟨H',g1,g2⟩:=(zU.toF ⟨hH.ok,tk.h _ hH.s⟩).st h1 hv
 exact qz hw (TT ho hx hy hc g1) (k H' ⟨g2.ok,g2.s.cons (pU h2.symm fun j hj=>h3 j (by omega)) fun _ e=>e⟩)
theorem TI {t:TypeId} {x y:Operand} {i a n:Nat} {v:z0} {f:Nat→z0} [S1 P t] [tk:Tk L zO i (n,f) R] (hw:zP ops T o=some true) (ho:o.op= .store t x y) (hx:zK T x=some (.ptr (some (i,a)))) (hy:zK T y=some v) (hc:v.cells= [v]) (hv:v.yK=true) (hl:a<n)
 (k:WO P F zB ops l (zp T o.dst unit) (z3 zO i (n,upd f a v)::R) Q):WO P F zB ops (o::l) T L Q:=by
 intro H hH
 obtain⟨H',g1,g2⟩:=(zU.st (R:=R) ⟨hH.ok,tk.h _ hH.s⟩ hl hv)
 exact qz hw (TT ho hx hy hc g1) (k H' g2)
def bI:List z0→Nat→List z0→Option (List z0)
 |cs,0,[]=>some cs
 | [],0,_::_=>none
 |_::cs,0,v::vs=>match bI cs 0 vs with
  |some ds=>some (v::ds)
  |none=>none
 | [],_+1,_=>none
 |c::cs,n+1,vs=>match bI cs n vs with
  |some ds=>some (c::ds)
  |none=>none
theorem sG: ∀ {cs ds vs:List z0} {a:Nat},bI cs a vs=some ds→a+vs.length≤cs.length∧ds.length=cs.length∧ ∀j,j<cs.length→ds[j]? =some (ua (jW cs) a vs j):=by
 intro cs
 induction cs with
 |nil=>
  intro ds vs a h
  cases a<;>cases vs<;>cases h
  exact⟨by simp,rfl,fun j hj=>by simp at hj⟩
 |cons c cs ih=>
  intro ds vs a h
  cases a with
  |zero=>
   cases vs with
   |nil=>
    cases h
    refine⟨by simp,rfl,fun j hj=> ?_⟩
    rw [Qk hj];simp [ua]
   |cons v vs=>
    simp only [bI]at h
    split at h
    ·rename_i es he
     cases h
     obtain⟨h1,h2,h3⟩:=ih he
     refine⟨by simp at h1 ⊢;omega,by simp [h2],fun j hj=> ?_⟩
     cases j with
     |zero=>simp [ua]
     |succ j=>
      have:=h3 j (by simpa using hj)
      simp only [List.getElem?_cons_succ,this,ua,jW,Nat.zero_le,if_pos,Nat.sub_zero]
    cases h
  |succ a=>
   simp only [bI]at h
   split at h
   ·rename_i es he
    cases h
    obtain⟨h1,h2,h3⟩:=ih he
    refine⟨by simp;omega,by simp [h2],fun j hj=> ?_⟩
    cases j with
    |zero=>simp [ua,jW]
    |succ j=>
     have:=h3 j (by simpa using hj)
     simp only [List.getElem?_cons_succ,this,ua,jW,Nat.add_le_add_iff_right,Nat.add_sub_add_right]
   cases h
theorem TH {t:TypeId} {x y:Operand} {i a n:Nat} {v:z0} {cs ds:List z0} [SN P t n] [tk:Tk L zC i cs R] (hw:zP ops T o=some true) (ho:o.op= .store t x y) (hx:zK T x=some (.ptr (some (i,a)))) (hy:zK T y=some v) (hc:v.cells.length=n) (hv:yf v.cells=true) (hs:bI cs a v.cells=some ds)
 (k:WO P F zB ops l (zp T o.dst unit) (z3 zC i ds::R) Q):WO P F zB ops (o::l) T L Q:=by
 intro H hH
 obtain⟨h1,h2,h3⟩:=sG hs
 obtain⟨H',g1,g2⟩:=(zU.toF ⟨hH.ok,tk.h _ hH.s⟩).Xi h1 hv
 exact qz hw (Lw ho hx hy hc g1) (k H' ⟨g2.ok,g2.s.cons (pU h2.symm fun j hj=>h3 j (by omega)) fun _ e=>e⟩)
theorem UP {t:TypeId} {x y:Operand} {i a n m:Nat} {v:z0} {f:Nat→z0} [SN P t n] [tk:Tk L zO i (m,f) R] (hw:zP ops T o=some true) (ho:o.op= .store t x y) (hx:zK T x=some (.ptr (some (i,a)))) (hy:zK T y=some v) (hc:v.cells.length=n) (hv:yf v.cells=true) (hl:a+n≤m)
 (k:WO P F zB ops l (zp T o.dst unit) (z3 zO i (m,ua f a v.cells)::R) Q):WO P F zB ops (o::l) T L Q:=by
 intro H hH
 obtain⟨H',g1,g2⟩:=(zU.Xi (R:=R) ⟨hH.ok,tk.h _ hH.s⟩ (a:=a) (vs:=v.cells) (by omega) hv)
 exact qz hw (Lw ho hx hy hc g1) (k H' g2)
theorem zU.new {H:Hp} (h:zU L H) (cs:List z0):zU (z3 zC H.next cs::L) (wy H cs):=by
 refine h.alloc fun f hf=>⟨Tr.ofList cs 0 .nil,_,hf,Nat.le_refl _,fun j hj=> ?_⟩
 rw [Tr.gb,if_pos (by omega),Nat.sub_zero]
theorem yu {t:TypeId} {x:Operand} {v:z0} (hw:zP ops T o=some true) (ho:o.op= .box t x) (hx:zK T x=some v) (ht:v.isTuple=false) (k: ∀i,WO P F zB ops l (zp T o.dst (.ptr (some (i,0)))) (z3 zC i v.cells::L) Q):WO P F zB ops (o::l) T L Q:=
 fun H hH=>qz hw (Lt ho hx ht) (k _ _ (hH.new _))
theorem zn {t:TypeId} {v:z0} [hz:ZV P t v] (hw:zP ops T o=some true) (ho:o.op= .alloc t) (ht:v.isTuple=false) (k: ∀i,WO P F zB ops l (zp T o.dst (.ptr (some (i,0)))) (z3 zC i v.cells::L) Q):WO P F zB ops (o::l) T L Q:=
 fun H hH=>qz hw (er ho ht) (k _ _ (hH.new _))
theorem zf {t:TypeId} {len sz:Nat} {z:z0} {parts:Array (Nat×Operand)} {cs:List z0} {pl:List (Nat×z0)} [hs:BS P t sz z] (hw:zP ops T o=some true) (ho:o.op= .buildSlice t len parts) (hp:partsOf T parts.toList=some pl) (hl:len*sz≤65536)
 (hf:Q7 (fun i=>some (i*sz,sz)) (yR z.cells len) pl=some cs) (k: ∀i,WO P F zB ops l (zp T o.dst (.slice (some (i,0)) len (some len) sz)) (z3 zC i cs::L) Q):WO P F zB ops (o::l) T L Q:=
 fun H hH=>qz hw (po ho hp hl hf) (k _ _ (hH.new _))
theorem pe {t:TypeId} [hM:MT P t] (hw:zP ops T o=some true) (ho:o.op= .makeMap t none) (k: ∀i,WO P F zB ops l (zp T o.dst (.map (some i))) (z3 dw i []::L) Q):WO P F zB ops (o::l) T L Q:=by
 intro H hH
 obtain⟨kt,et,h1⟩:=hM.h
 exact qz hw (v:= .map (some H.next)) (H':=H.alloc (.map [] 0)) (by simp only [yd,ho,gq,h1];rfl) (k _ _ (hH.alloc fun f hf=>⟨[],0,hf,.nil⟩))
theorem sT {t:TypeId} [hM:MT P t] (hw:zP ops T o=some true) (ho:o.op= .makeMap t none) (k: ∀i,WO P F zB ops l (zp T o.dst (.map (some i))) (z3 bJ i []::L) Q):WO P F zB ops (o::l) T L Q:=by
 intro H hH
 obtain⟨kt,et,h1⟩:=hM.h
 exact qz hw (v:= .map (some H.next)) (H':=H.alloc (.map [] 0)) (by simp only [yd,ho,gq,h1];rfl) (k _ _ (hH.alloc fun f hf=>⟨[],0,hf,rfl⟩))
theorem qZ {f:FuncId} {zC0:List z0} {Q':z0→List SP→Prop} (hc:SW P F zB f zC0 L Q') (hw:zP ops T o=some true) (ha: ∀H,yd P F T H o=some (.call f zC0)) (k: ∀v L',Q' v L'→WO P F zB ops l (zp T o.dst v) L' Q):WO P F zB ops (o::l) T L Q:=
 fun H hH=>Kp hw (ha H) (hc H hH) fun v H' ⟨L',h1,h2⟩=>k v L' h1 H' h2
theorem yY {f:FuncId} {zC0:List z0} {κ1 α1:Type} {K1:κ1→α1→SP} {a1:κ1} {x1:α1} {Q':z0→List SP→Prop} [t1:Tk L K1 a1 x1 R] (hc:SW P F zB f zC0 (z3 K1 a1 x1::R) Q') (hw:zP ops T o=some true) (ha: ∀H,yd P F T H o=some (.call f zC0)) (k: ∀v L',Q' v L'→WO P F zB ops l (zp T o.dst v) L' Q):WO P F zB ops (o::l) T L Q:=
 qZ (fun H hH=>hc H hH.tk) hw ha k
theorem zU.tk2 {κ α κ2 α2:Type} {K:κ→α→SP} {a:κ} {x:α} {K2:κ2→α2→SP} {a2:κ2} {x2:α2} {R2:List SP} {H:Hp} [t:Tk L K a x R] [t2:Tk R K2 a2 x2 R2] (h:zU L H):zU (z3 K a x::z3 K2 a2 x2::R2) H:=⟨h.ok,(t.h _ h.s).cons (fun _ e=>e) t2.h⟩
theorem VT {f:FuncId} {zC0:List z0} {κ1 α1:Type} {K1:κ1→α1→SP} {a1:κ1} {x1:α1} {κ2 α2:Type} {K2:κ2→α2→SP} {a2:κ2} {x2:α2} {R2:List SP} {Q':z0→List SP→Prop} [t1:Tk L K1 a1 x1 R] [t2:Tk R K2 a2 x2 R2] (hc:SW P F zB f zC0 (z3 K1 a1 x1::z3 K2 a2 x2::R2) Q')
 (hw:zP ops T o=some true) (ha: ∀H,yd P F T H o=some (.call f zC0)) (k: ∀v L',Q' v L'→WO P F zB ops l (zp T o.dst v) L' Q):WO P F zB ops (o::l) T L Q:=
 qZ (fun H hH=>hc H hH.tk2) hw ha k
theorem zU.tk3 {κ α κ2 α2 κ3 α3:Type} {K:κ→α→SP} {a:κ} {x:α} {K2:κ2→α2→SP} {a2:κ2} {x2:α2} {R2:List SP} {K3:κ3→α3→SP} {a3:κ3} {x3:α3} {R3:List SP} {H:Hp} [t:Tk L K a x R] [t2:Tk R K2 a2 x2 R2] [t3:Tk R2 K3 a3 x3 R3] (h:zU L H):zU (z3 K a x::z3 K2 a2 x2::z3 K3 a3 x3::R3) H:=
 ⟨h.ok,(t.h _ h.s).cons (fun _ e=>e) fun _ e=>(t2.h _ e).cons (fun _ e=>e) t3.h⟩
theorem II {f:FuncId} {zC0:List z0} {κ1 α1:Type} {K1:κ1→α1→SP} {a1:κ1} {x1:α1} {κ2 α2:Type} {K2:κ2→α2→SP} {a2:κ2} {x2:α2} {R2:List SP} {κ3 α3:Type} {K3:κ3→α3→SP} {a3:κ3} {x3:α3} {R3:List SP} {Q':z0→List SP→Prop} [t1:Tk L K1 a1 x1 R] [t2:Tk R K2 a2 x2 R2] [t3:Tk R2 K3 a3 x3 R3]
 (hc:SW P F zB f zC0 (z3 K1 a1 x1::z3 K2 a2 x2::z3 K3 a3 x3::R3) Q') (hw:zP ops T o=some true) (ha: ∀H,yd P F T H o=some (.call f zC0)) (k: ∀v L',Q' v L'→WO P F zB ops l (zp T o.dst v) L' Q):WO P F zB ops (o::l) T L Q:=
 qZ (fun H hH=>hc H hH.tk3) hw ha k
theorem zU.tk4 {κ α κ2 α2 κ3 α3 κ4 α4:Type} {K:κ→α→SP} {a:κ} {x:α} {K2:κ2→α2→SP} {a2:κ2} {x2:α2} {R2:List SP} {K3:κ3→α3→SP} {a3:κ3} {x3:α3} {R3:List SP} {K4:κ4→α4→SP} {a4:κ4} {x4:α4} {R4:List SP} {H:Hp} [t:Tk L K a x R] [t2:Tk R K2 a2 x2 R2] [t3:Tk R2 K3 a3 x3 R3] [t4:Tk R3 K4 a4 x4 R4] (h:zU L H):zU (z3 K a x::z3 K2 a2 x2::z3 K3 a3 x3::z3 K4 a4 x4::R4) H:=
 ⟨h.ok,(t.h _ h.s).cons (fun _ e=>e) fun _ e=>(t2.h _ e).cons (fun _ e=>e) fun _ e=>(t3.h _ e).cons (fun _ e=>e) t4.h⟩
theorem Yk {f:FuncId} {zC0:List z0} {κ1 α1:Type} {K1:κ1→α1→SP} {a1:κ1} {x1:α1} {κ2 α2:Type} {K2:κ2→α2→SP} {a2:κ2} {x2:α2} {R2:List SP} {κ3 α3:Type} {K3:κ3→α3→SP} {a3:κ3} {x3:α3} {R3:List SP} {κ4 α4:Type} {K4:κ4→α4→SP} {a4:κ4} {x4:α4} {R4:List SP} {Q':z0→List SP→Prop} [t1:Tk L K1 a1 x1 R] [t2:Tk R K2 a2 x2 R2] [t3:Tk R2 K3 a3 x3 R3] [t4:Tk R3 K4 a4 x4 R4]
 (hc:SW P F zB f zC0 (z3 K1 a1 x1::z3 K2 a2 x2::z3 K3 a3 x3::z3 K4 a4 x4::R4) Q') (hw:zP ops T o=some true) (ha: ∀H,yd P F T H o=some (.call f zC0)) (k: ∀v L',Q' v L'→WO P F zB ops l (zp T o.dst v) L' Q):WO P F zB ops (o::l) T L Q:=
 qZ (fun H hH=>hc H hH.tk4) hw ha k
variable {x:It} {m:List It}
theorem z8 (h:Q T L):WK P F ops [] T L Q:=fun _ hH=>⟨L,h,hH⟩
theorem uc {v:z0} (hw:zP ops T x.o=some true) (ha: ∀H,yd P F T H x.o=some (.val v H)) (h:WK P F ops m (zp T x.o.dst v) L Q):WK P F ops (x::m) T L Q:=fun H hH=>F0 hw (ha H) (h H hH)
theorem jM {v:z0} (hw:zP ops T x.o=some true) (ha: ∀H,zU L H→yd P F T H x.o=some (.val v H)) (h:WK P F ops m (zp T x.o.dst v) L Q):WK P F ops (x::m) T L Q:=fun H hH=>F0 hw (ha H hH) (h H hH)
theorem TC (hw:zP ops T x.o=some false) (h:WK P F ops m (zp T x.o.dst unit) L Q):WK P F ops (x::m) T L Q:=fun H hH=>Ob hw (h H hH)
theorem r8 {t:TypeId} {y:Operand} {v:z0} (hw:zP ops T x.o=some true) (ho:x.o.op= .box t y) (hx:zK T y=some v) (ht:v.isTuple=false) (k: ∀i,WK P F ops m (zp T x.o.dst (.ptr (some (i,0)))) (z3 zC i v.cells::L) Q):WK P F ops (x::m) T L Q:=
 fun H hH=>nO (by rw [ho];rfl) hw (Lt ho hx ht) (k _ _ (hH.new _))
theorem kq {t:TypeId} {v:z0} [hz:ZV P t v] (hw:zP ops T x.o=some true) (ho:x.o.op= .alloc t) (ht:v.isTuple=false) (k: ∀i,WK P F ops m (zp T x.o.dst (.ptr (some (i,0)))) (z3 zC i v.cells::L) Q):WK P F ops (x::m) T L Q:=
 fun H hH=>nO (by rw [ho];rfl) hw (er ho ht) (k _ _ (hH.new _))
theorem uy {t:TypeId} {len sz:Nat} {z:z0} {parts:Array (Nat×Operand)} {cs:List z0} {pl:List (Nat×z0)} [hs:BS P t sz z] (hw:zP ops T x.o=some true) (ho:x.o.op= .buildSlice t len parts) (hp:partsOf T parts.toList=some pl) (hl:len*sz≤65536)
 (hf:Q7 (fun i=>some (i*sz,sz)) (yR z.cells len) pl=some cs) (k: ∀i,WK P F ops m (zp T x.o.dst (.slice (some (i,0)) len (some len) sz)) (z3 zC i cs::L) Q):WK P F ops (x::m) T L Q:=
 fun H hH=>nO (by rw [ho];rfl) hw (po ho hp hl hf) (k _ _ (hH.new _))
theorem z9:WA P F ops [] T L:=fun _ _=>MQ
theorem uR {v u:z0} {d:Tmp} (hw:zP ops T x.o=some true) (ha: ∀H,yd P F T H x.o=some (.val v H)) (hd:x.o.dst=some d) (hu:Tm.get d T=some u) (he:Vi u v=true) (h:WA P F ops m T L):WA P F ops (x::m) T L:=fun H hH=>BJ hw (ha H) hd hu he (h H hH)
theorem va {v u:z0} {d:Tmp} (hw:zP ops T x.o=some true) (ha: ∀H,zU L H→yd P F T H x.o=some (.val v H)) (hd:x.o.dst=some d) (hu:Tm.get d T=some u) (he:Vi u v=true) (h:WA P F ops m T L):WA P F ops (x::m) T L:=fun H hH=>BJ hw (ha H hH) hd hu he (h H hH)
theorem yG (hw:zP ops T x.o=some false) (h:WA P F ops m T L):WA P F ops (x::m) T L:=fun H hH=>MR hw (h H hH)
end
def zX {α:Type} (en:α→List z0) (es:Nat) (v:z0) (xs:List α):SP:=fun h=>nh h v es (xs.flatMap en)∧(∀x,(en x).length=es)∧0<es
def KH:z0→Nat
 | .slice (some (i,_)) _ _ _=>i
 |_=>0
def KI:z0→Nat
 | .slice (some (_,o)) _ _ _=>o
 |_=>0
def o3:z0→Nat
 | .slice _ n _ _=>n
 |_=>0
theorem nh.n {h:q7} {es:Nat} {v:z0} {cs:List z0} (s:nh h v es cs):cs.length=o3 v*es:=by
 cases s with
 |nil e es=>simp [o3]
 |emp i off es=>simp [o3]
 |own i off len n es f cs hr hn hc=>rw [hc,y8];rfl
 |part i off len cap n es f cs hr hn hl hc=>rw [hc,y8];rfl
section
variable {α:Type} {en:α→List z0} {es:Nat} {xs:List α}
theorem wF (he: ∀x,(en x).length=es) (xs:List α):(xs.flatMap en).length=xs.length*es:=by
 induction xs with
 |nil=>simp
 |cons x xs ih=>simp [ih,he,Nat.add_mul,Nat.add_comm]
theorem Y1 (he: ∀x,(en x).length=es): ∀(xs:List α) (k j:Nat) (x:α),xs[k]? =some x→j<es→(xs.flatMap en)[k*es+j]? =(en x)[j]? :=by
 intro xs
 induction xs with
 |nil=>intro k j x h;simp at h
 |cons y xs ih=>
  intro k j x h hj
  rw [List.flatMap_cons]
  cases k with
  |zero=>simp at h;subst h;rw [Nat.zero_mul,Nat.zero_add,List.getElem?_append_left (by rw [he];exact hj)]
  |succ k=>
   rw [Nat.add_mul,List.getElem?_append_right (by rw [he];omega),he,←ih k j x (by simpa using h) hj]
   congr 1;omega
theorem j9 {v:z0} {h:q7} (s:zX en es v xs h):o3 v=xs.length:=by
 obtain⟨h1,h2,h3⟩:=s
 have:=h1.n
 rw [wF h2]at this
 exact(Nat.eq_of_mul_eq_mul_right h3 this).symm
theorem nh.shape {h:q7} {v:z0} {cs:List z0} (s:nh h v es cs): ∃a n c e,v= .slice a n c e:=by
 cases s with
 |nil e es=>exact⟨_,_,_,_,rfl⟩
 |emp i off es=>exact⟨_,_,_,_,rfl⟩
 |own i off len n es f cs hr hn hc=>exact⟨_,_,_,_,rfl⟩
 |part i off len cap n es f cs hr hn hl hc=>exact⟨_,_,_,_,rfl⟩
theorem Zh {v:z0} {h:q7} (s:zX en es v xs h): ∃a c e,v= .slice a xs.length c e:=by
 obtain⟨a,n,c,e,rfl⟩:=s.1.shape
 have:=j9 s
 exact⟨a,c,e,by rw [←this];rfl⟩
theorem Uu {h h':q7} (l:h.le h') {v:z0} (s:zX en es v xs h):zX en es v xs h':=⟨s.1.mono l,s.2⟩
theorem nh.row {h:q7} {v:z0} {cs:List z0} (s:nh h v es cs) (hn:cs≠ []): ∃i off len c n f,v= .slice (some (i,off)) len c es∧zO i (n,f) h∧off+len*es≤n∧cs=zj f off (len*es):=by
 cases s with
 |nil e es=>exact absurd rfl hn
 |emp i off es=>exact absurd rfl hn
 |own i off len n es f cs hr hn hc=>exact⟨i,off,len,none,n,f,rfl,hr,hn,hc⟩
 |part i off len cap n es f cs hr hn hl hc=>exact⟨i,off,len,some cap,n,f,rfl,hr,by have:=Nat.mul_le_mul_right es hl;omega,hc⟩
end
class dL {α:outParam Type} (L:List SP) (v:z0) (en:outParam (α→List z0)) (es:outParam Nat) (xs:outParam (List α)) (R:outParam (List SP)):Prop where
 h: ∀f,Sat L f→Sat (z3 (zX en es) v xs::R) f
 b: ∀f,Sat (z3 (zX en es) v xs::R) f→Sat L f
instance Tt {α:Type} (en:α→List z0) (es:Nat) (v:z0) (xs:List α) (L:List SP):dL (z3 (zX en es) v xs::L) v en es xs L:=⟨fun _ s=>s,fun _ s=>s⟩
instance PO {α:Type} (p:SP) (L:List SP) (v:z0) (en:α→List z0) (es:Nat) (xs:List α) (R:List SP) [t:dL L v en es xs R]:dL (p::L) v en es xs (p::R):=
 ⟨fun _ s=>(s.cons (fun _ e=>e) t.h).swap,fun _ s=>s.swap.cons (fun _ e=>e) t.b⟩
section
variable {P:Program} {F:zD} {zB:yy} {ops:Array Oper} {o:Oper} {l:List Oper} {T:Tm} {L R:List SP} {Q:Tm→List SP→Prop} {H:Hp}
variable {α:Type} {en:α→List z0} {es:Nat} {xs:List α} {v:z0}
theorem WH {t:TypeId} {y:Operand} {i a:Nat} {v:z0} {cs:List z0} [L1 P t] [Tk L zC i cs R] (ho:o.op= .load t y) (hx:zK T y=some (.ptr (some (i,a)))) (hv:cs[a]? =some v) (h:zU L H):yd P F T H o=some (.val v H):=Ix ho hx (an hv h)
theorem Jd {t:TypeId} {y:Operand} {i a n:Nat} {v:z0} {f:Nat→z0} [L1 P t] [Tk L zO i (n,f) R] (ho:o.op= .load t y) (hx:zK T y=some (.ptr (some (i,a)))) (hl:a<n) (hv:f a=v) (h:zU L H):yd P F T H o=some (.val v H):=Ix ho hx (N2 hl hv h)
theorem Ca {t:TypeId} {y:Operand} {i a n:Nat} {vs:List z0} {cs:List z0} [LN P t n] [Tk L zC i cs R] (ho:o.op= .load t y) (hx:zK T y=some (.ptr (some (i,a)))) (hv:(cs.drop a).take n=vs) (hl:a+n≤cs.length) (h:zU L H):yd P F T H o=some (.val (.agg vs) H):=E3 ho hx (yo hv hl h)
theorem vB {t:TypeId} {y:Operand} {i a n m:Nat} {vs:List z0} {f:Nat→z0} [LN P t n] [Tk L zO i (m,f) R] (ho:o.op= .load t y) (hx:zK T y=some (.ptr (some (i,a)))) (hl:a+n≤m) (hv:zj f a n=vs) (h:zU L H):yd P F T H o=some (.val (.agg vs) H):=E3 ho hx (HO hl hv h)
theorem zU.el [t:dL L v en es xs R] (h:zU L H):zX en es v xs fun k=>H.t.get k:=by
 obtain⟨a,b,h1,h2,h3,h4,h5⟩:=t.h _ h.s
 exact Uu h2 h4
theorem yI {c:Call} {t:TypeId} {ts:List TypeId} {x:Operand} {sz:Nat} [hs:SL P t sz] [dL L v en es xs R] (ho:o.op= .call c) (hc:c.callee= .builtin .len) (ht:c.argTypes.toList=t::ts) (ha:c.args.toList= [x]) (hx:zK T x=some v) (h:zU L H):
 yd P F T H o=some (.val (.int .i64 (.lit ((xs.length:Nat):Int))) H):=by
 obtain⟨a,c,e,rfl⟩:=Zh (h.el (en:=en) (es:=es) (v:=v) (xs:=xs))
 exact vD ho hc ht ha hx
theorem yg {t:TypeId} {x y:Operand} {k:IntKind} {z:Int} {sz:Nat} [hs:SL P t sz] [dL L v en es xs R] (ho:o.op= .indexAddr t x y) (hx:zK T x=some v) (hy:zK T y=some (.int k (.lit z))) (hz:0≤z) (hl:z<(xs.length:Nat)) (h:zU L H):
 yd P F T H o=some (.val (.ptr (some (KH v,z.toNat*sz+KI v))) H):=by
 have he:=h.el (en:=en) (es:=es) (v:=v) (xs:=xs)
 have hlen:=j9 he
 obtain⟨i,off,len,c,n,f,rfl,_⟩:=he.1.row (fun e=>by
  have:=wF he.2.1 xs
  rw [e]at this
  have h0:xs.length*es=0:=this.symm
  rcases Nat.mul_eq_zero.1 h0 with h0|h0
  ·omega
  have:=he.2.2;omega)
 have hlen':len=xs.length:=hlen
 exact uo ho hx hy hz (by omega)
theorem N0 [dL L v en es xs R] {k j a:Nat} {x:α} {w:z0} (ha:a=k*es+KI v+j) (hk:xs[k]? =some x) (hj:(en x)[j]? =some w) (h:zU L H):H.gP (KH v) a=some w:=by
 have he:=h.el (en:=en) (es:=es) (v:=v) (xs:=xs)
 have hlen:=j9 he
 have SC:=(List.getElem?_eq_some_iff.1 hk).1
 have lT:j<es:=by have:=(List.getElem?_eq_some_iff.1 hj).1;rw [he.2.1]at this;exact this
 have hm:k*es+j<xs.length*es:=by
  have:(k+1)*es≤xs.length*es:=Nat.mul_le_mul_right es SC
  rw [Nat.add_mul]at this;omega
 obtain⟨i,off,len,c,n,f,rfl,⟨r,w',h1,ay,h2⟩,h3,h4⟩:=he.1.row (fun e=>by
  have:=wF he.2.1 xs
  rw [e]at this
  simp at this;omega)
 have hlen':len=xs.length:=hlen
 subst hlen'
 have h5:=Y1 he.2.1 xs k j x hk lT
 rw [h4,y7 _ _ _ _ hm,hj]at h5
 have h6:H.t.get i=some (.cells true r w'):=h1
 have e:a=off+(k*es+j):=by subst ha;show k*es+off+j=_;omega
 show H.gP i a=some w
 unfold Hp.gP
 rw [h6,e]
 simp only
 rw [h2 _ (by omega)]
 exact h5
theorem HN [dL L v en es xs R] {k a:Nat} {x:α} (ha:a=k*es+KI v) (hk:xs[k]? =some x) (h:zU L H):H.read (KH v) a es=some (en x):=by
 have he:=h.el (en:=en) (es:=es) (v:=v) (xs:=xs)
 have hlen:=j9 he
 have SC:=(List.getElem?_eq_some_iff.1 hk).1
 have hm:k*es+es≤xs.length*es:=by
  have:(k+1)*es≤xs.length*es:=Nat.mul_le_mul_right es SC
  rw [Nat.add_mul]at this;omega
 obtain⟨i,off,len,c,n,f,rfl,⟨r,w',h1,ay,h2⟩,h3,h4⟩:=he.1.row (fun e=>by
  have:=wF he.2.1 xs
  rw [e]at this
  simp at this;have:=he.2.2;omega)
 have hlen':len=xs.length:=hlen
 subst hlen'
 have h6:H.t.get i=some (.cells true r w'):=h1
 have e:a=off+k*es:=by subst ha;show k*es+off=_;omega
 show H.read i a es=_
 have hr:H.read i (off+k*es) es=some (zj f (off+k*es) es):=by
  simp only [Hp.read,h6]
  exact um h2 _ _ (by omega)
 rw [e,hr]
 congr 1
 apply List.ext_getElem?
 intro j
 by_cases hj:j<es
 ·rw [y7 _ _ _ _ hj,←Y1 he.2.1 xs k j x hk hj,h4,y7 _ _ _ _ (by omega),Nat.add_assoc]
 rw [List.getElem?_eq_none (by rw [y8];omega),List.getElem?_eq_none (by rw [he.2.1];omega)]
theorem wX {t:TypeId} {y:Operand} {k j a:Nat} {x:α} {w:z0} [L1 P t] [dL L v en es xs R] (ho:o.op= .load t y) (hx:zK T y=some (.ptr (some (KH v,a)))) (ha:a=k*es+KI v+j) (hk:xs[k]? =some x) (hj:(en x)[j]? =some w) (h:zU L H):yd P F T H o=some (.val w H):=Ix ho hx (N0 ha hk hj h)
theorem Gt {t:TypeId} {y:Operand} {k a:Nat} {x:α} [LN P t es] [dL L v en es xs R] (ho:o.op= .load t y) (hx:zK T y=some (.ptr (some (KH v,a)))) (ha:a=k*es+KI v) (hk:xs[k]? =some x) (h:zU L H):yd P F T H o=some (.val (.agg (en x)) H):=E3 ho hx (HN ha hk h)
end
def sl (l:List (Int×Int)):List (Int×z0):=l.map fun p=>(p.1,.int .i64 (.lit p.2))
def qH (l:List (Int×Int)) (z:Int):Option Int:=match l with
 | []=>none
 |p::l=>if p.1=z then some p.2 else qH l z
def wG (l:List (Int×Int)) (z v:Int):List (Int×Int):=match l with
 | []=> [(z,v)]
 |p::l=>if p.1=z then(z,v)::l else p::wG l z v
def Wg (l:List (Int×Int)) (z:Int):List (Int×Int):=match l with
 | []=> []
 |p::l=>if p.1=z then l else p::Wg l z
theorem eP (l:List (Int×Int)) (z:Int):B3 (sl l) z=(qH l z).map fun x=> .int .i64 (.lit x):=by
 induction l with
 |nil=>rfl
 |cons p l ih=>simp only [sl,List.map_cons,B3,qH]at ih ⊢;split<;>simp [ih]
theorem Hr (l:List (Int×Int)) (z v:Int):ins (sl l) z (.int .i64 (.lit v))=sl (wG l z v):=by
 induction l with
 |nil=>rfl
 |cons p l ih=>simp only [sl,List.map_cons,ins,wG]at ih ⊢;split<;>simp [ih]
theorem H6 (l:List (Int×Int)) (z:Int):del (sl l) z=sl (Wg l z):=by
 induction l with
 |nil=>rfl
 |cons p l ih=>simp only [sl,List.map_cons,del,Wg]at ih ⊢;split<;>simp [ih]
theorem rE (l:List (Int×Int)) (z v y:Int):qH (wG l z v) y=if y=z then some v else qH l y:=by
 induction l with
 |nil=>simp only [wG,qH];split<;>split<;>first|rfl|(exfalso;omega)
 |cons p l ih=>
  simp only [wG]
  by_cases e:p.1=z
  ·rw [if_pos e];simp only [qH]
   by_cases e2:z=y
   ·rw [if_pos e2,if_pos e2.symm]
   rw [if_neg e2,if_neg (fun h=>e2 h.symm),if_neg (by omega)]
  rw [if_neg e];simp only [qH,ih]
  by_cases e2:p.1=y
  ·rw [if_pos e2,if_neg (by omega),if_pos e2]
  rw [if_neg e2,if_neg e2]
def ZM (i:Nat) (l:List (Int×Int)):SP:=dw i (sl l)
section
variable {P:Program} {F:zD} {zB:yy} {ops:Array Oper} {o:Oper} {l:List Oper} {T:Tm} {L R:List SP} {Q:Tm→List SP→Prop} {H:Hp}
theorem zU.mp {i:Nat} {m:List (Int×z0)} (h:zU (z3 dw i m::R) H):xH H i m:=by
 obtain⟨a,b,h1,h2,h3,⟨es,c,h4,h5⟩,h6⟩:=h.s
 exact⟨es,c,h2 _ _ h4,h5⟩
theorem jQ {t:TypeId} {x k:Operand} {i:Nat} {z:Int} {m:List (Int×Int)} [hM:MI P t (.int .i64 (.lit 0))] [tk:Tk L ZM i m R] (ho:o.op= .lookup t x k false) (hx:zK T x=some (.map (some i))) (hk:zK T k=some (.int .i64 (.lit z))) (h:zU L H):yd P F T H o=some (.val (.int .i64 (.lit ((qH m z).getD 0))) H):=by
 rw [bh ho hx hk (zU.mp (R:=R) (m:=sl m) ⟨h.ok,tk.h _ h.s⟩),cond_false,eP]
 cases qH m z<;>rfl
theorem Yv {t:TypeId} {x k:Operand} {i:Nat} {z:Int} {m:List (Int×Int)} [hM:MI P t (.int .i64 (.lit 0))] [tk:Tk L ZM i m R] (ho:o.op= .lookup t x k true) (hx:zK T x=some (.map (some i))) (hk:zK T k=some (.int .i64 (.lit z))) (h:zU L H):yd P F T H o=some (.val (.tuple [.int .i64 (.lit ((qH m z).getD 0)),.bool (qH m z).isSome]) H):=by
 rw [bh ho hx hk (zU.mp (R:=R) (m:=sl m) ⟨h.ok,tk.h _ h.s⟩),cond_true,eP]
 cases qH m z<;>rfl
theorem HP {c:Call} {t:TypeId} {ts:List TypeId} {x:Operand} {i:Nat} {m:List (Int×Int)} [hM:MI P t (.int .i64 (.lit 0))] [tk:Tk L ZM i m R] (ho:o.op= .call c) (hc:c.callee= .builtin .len) (ht:c.argTypes.toList=t::ts) (ha:c.args.toList= [x]) (hx:zK T x=some (.map (some i))) (h:zU L H):yd P F T H o=some (.val (.int .i64 (.lit ((m.length:Nat):Int))) H):=by
 rw [OA ho hc ht ha hx (zU.mp (R:=R) (m:=sl m) ⟨h.ok,tk.h _ h.s⟩)]
 unfold sl;rw [List.length_map];rfl
theorem zU.I9 {i:Nat} {m m':List (Int×z0)} {H':Hp} (h:zU (z3 dw i m::R) H) (h1:xH H' i m') (h2:Q3 (· =i) H H'):zU (z3 dw i m'::R) H':=by
 obtain⟨es,c,g1,g2⟩:=h1
 refine⟨h2.ok h.ok,h.s.isSome (i:=i) (fun f hf=> ?_) (o:= .map es c) (fun f hf=>⟨es,c,hf,g2⟩) _ g1 fun k hk z hz=>h2.same k z hk hz⟩
 obtain⟨Xx,c',k1,_⟩:=hf
 exact⟨_,k1⟩
theorem Zb {t:TypeId} {m k x:Operand} {i:Nat} {z y:Int} {es:List (Int×Int)} [hM:MI P t (.int .i64 (.lit 0))] [tk:Tk L ZM i es R] (hw:zP ops T o=some true) (ho:o.op= .mapUpdate t m k x) (h1:zK T m=some (.map (some i))) (h2:zK T k=some (.int .i64 (.lit z))) (h3:zK T x=some (.int .i64 (.lit y)))
 (kk:WO P F zB ops l (zp T o.dst unit) (z3 ZM i (wG es z y)::R) Q):WO P F zB ops (o::l) T L Q:=by
 intro H hH
 have h0:zU (z3 dw i (sl es)::R) H:=⟨hH.ok,tk.h _ hH.s⟩
 obtain⟨H',g1,g2,g3,_⟩:=rk (P:=P) (F:=F) (m:=m) (k:=k) (x:=x) (z:=z) (v:= .int .i64 (.lit y)) (hM:=hM) h0.mp
 rw [Hr]at g2
 exact qz hw (g1 ho h1 h2 h3) (kk H' (h0.I9 g2 g3))
theorem tT {t:TypeId} {c:Call} {ts:List TypeId} {m k:Operand} {i:Nat} {z:Int} {es:List (Int×Int)} [hM:MI P t (.int .i64 (.lit 0))] [tk:Tk L ZM i es R] (hw:zP ops T o=some true) (ho:o.op= .call c) (hc:c.callee= .builtin .delete) (ht:c.argTypes.toList=t::ts) (ha:c.args.toList= [m,k]) (h1:zK T m=some (.map (some i))) (h2:zK T k=some (.int .i64 (.lit z)))
 (kk:WO P F zB ops l (zp T o.dst unit) (z3 ZM i (Wg es z)::R) Q):WO P F zB ops (o::l) T L Q:=by
 intro H hH
 have h0:zU (z3 dw i (sl es)::R) H:=⟨hH.ok,tk.h _ hH.s⟩
 obtain⟨H',g1,g2,g3,_⟩:=rj (P:=P) (F:=F) (m:=m) (k:=k) (z:=z) (hM:=hM) h0.mp
 rw [H6]at g2
 exact qz hw (g1 ho hc ht ha h1 h2) (kk H' (h0.I9 g2 g3))
theorem zU.mw {i:Nat} {ks:List (Int×Int)} (h:zU (z3 bJ i ks::R) H):lb H i ks:=by
 obtain⟨a,b,h1,h2,h3,⟨es,c,h4,h5⟩,h6⟩:=h.s
 exact⟨es,c,h2 _ _ h4,h5⟩
theorem tU {t:TypeId} {m k x:Operand} {i:Nat} {p:Int×Int} {v:z0} {ks:List (Int×Int)} [hM:MW P t] [tk:Tk L bJ i ks R] (hw:zP ops T o=some true) (ho:o.op= .mapUpdate t m k x) (h1:zK T m=some (.map (some i))) (h2:zK T k=some (kW p)) (h3:zK T x=some v)
 (kk:WO P F zB ops l (zp T o.dst unit) (z3 bJ i (kH ks p)::R) Q):WO P F zB ops (o::l) T L Q:=by
 intro H hH
 have h0:zU (z3 bJ i ks::R) H:=⟨hH.ok,tk.h _ hH.s⟩
 refine aQ (hM:=hM) h0.mw ho hw h1 h2 h3 fun H' g1 g2 g3=>kk H' ?_
 obtain⟨es,c,q1,q2⟩:=g1
 refine⟨g2.ok hH.ok,h0.s.isSome (i:=i) (fun f hf=> ?_) (o:= .map es c) (fun f hf=>⟨es,c,hf,q2⟩) _ q1 fun k hk z hz=>g2.same k z hk hz⟩
 obtain⟨Xx,c',k1,_⟩:=hf
 exact⟨_,k1⟩
theorem N3 {c:Call} {t:TypeId} {ts:List TypeId} {x:Operand} {i:Nat} {ks:List (Int×Int)} [hM:MW P t] [tk:Tk L bJ i ks R] (ho:o.op= .call c) (hc:c.callee= .builtin .len) (ht:c.argTypes.toList=t::ts) (ha:c.args.toList= [x]) (hx:zK T x=some (.map (some i))) (h:zU L H):yd P F T H o=some (.val (.int .i64 (.lit ((ks.length:Nat):Int))) H):=
 OB (zU.mw (R:=R) ⟨h.ok,tk.h _ h.s⟩) ho hc ht ha hx
end
section
variable {L R:List SP} {H:Hp} {α:Type} {en:α→List z0} {es:Nat} {xs ys:List α} {v w:z0}
theorem zU.tail {p:SP} (h:zU (p::R) H):zU R H:=⟨h.ok,h.s.tail⟩
theorem zU.del {p:SP} {i:Nat} (h:zU (p::R) H) (hp: ∀f,p f→ ∃y,f i=some y):zU R ⟨H.t.del i,H.next⟩:=by
 obtain⟨a,b,h1,h2,h3,h4,h5⟩:=h.s
 obtain⟨y,hy⟩:=hp a h4
 have hb:b i=none:=(h1 i).resolve_left (by rw [hy];nofun)
 refine⟨fun k x hk=> ?_,h5.mono fun k x hk=> ?_⟩
 ·have hk':(H.t.del i).get k=some x:=hk
  rw [Tr.Qa]at hk'
  split at hk'
  ·cases hk'
  exact h.ok k x hk'
 show(H.t.del i).get k=some x
 rw [Tr.Qa,if_neg (fun e=>by subst e;rw [hb]at hk;cases hk)]
 exact h3 k x hk
theorem QU (cs:List z0):zj (jW cs) 0 cs.length=cs:=by
 apply List.ext_getElem?
 intro i
 by_cases hi:i<cs.length
 ·rw [y7 _ _ _ _ hi,Nat.zero_add,Qk hi]
 rw [List.getElem?_eq_none (by rw [y8];omega),List.getElem?_eq_none (by omega)]
theorem zU.TF (h:zU R H) (he: ∀x,(en x).length=es) (h0:0<es) {cs:List z0} (hc:cs=xs.flatMap en):zU (z3 (zX en es) (.slice (some (H.next,0)) xs.length none es) xs::R) (wy H cs):=by
 have hl:cs.length=xs.length*es:=by rw [hc,wF he]
 have:=h.new cs
 refine⟨this.ok,this.s.cons (fun f hf=> ?_) fun _ e=>e⟩
 obtain⟨c,w,h1,h3,h2⟩:=hf
 refine⟨.own H.next 0 xs.length cs.length es (jW cs) _ ⟨c,w,h1,h3,fun j hj=>by rw [h2 j hj,Qk hj]⟩ (by omega) ?_,he,h0⟩
 rw [←hl,QU,hc]
theorem VH (h:zX en es v xs fun k=>H.t.get k):sD v=some xs.length∧Yu H es xs.length v=some (xs.flatMap en):=by
 have hl:=j9 h
 obtain⟨h1,h2,h3⟩:=h
 generalize kD:xs.flatMap en=cs at h1
 have gE:cs.length=xs.length*es:=by rw [←kD,wF h2]
 have zero:xs.length=0→ ∀a c e,v= .slice a 0 c e→sD v=some xs.length∧Yu H es xs.length v=some cs:=by
  rintro h0 a c e rfl
  have:cs= []:=List.eq_nil_of_length_eq_zero (by rw [gE,h0,Nat.zero_mul])
  rw [h0,this]
  cases a<;>exact⟨rfl,rfl⟩
 by_cases h0:xs.length=0
 ·obtain⟨a,n,c,e,rfl⟩:=h1.shape
  have hl:n=xs.length:=hl
  exact zero h0 a c e (by rw [hl,h0])
 obtain⟨i,off,len,c,n,f,rfl,⟨r,w,g1,g5,g2⟩,g3,g4⟩:=h1.row (fun e=>by rw [e]at gE;have:=Nat.mul_pos (Nat.pos_of_ne_zero h0) h3;simp at gE;omega)
 have hl:len=xs.length:=hl
 subst hl
 have hr:H.read i off (xs.length*es)=some (zj f off (xs.length*es)):=by
  have g1:H.t.get i=_:=g1
  simp only [Hp.read,g1]
  exact um g2 _ _ g3
 have hb:Nat.ble xs.length xs.length=true:=Nat.ble_eq_true_of_le (Nat.le_refl _)
 have hz:Nat.beq xs.length 0=false:=by
  cases h:Nat.beq xs.length 0 with
  |false=>rfl
  |true=>exact absurd (Nat.eq_of_beq_eq_true h) h0
 refine⟨rfl,?_⟩
 simp only [Yu,hb,hz,cond_true,cond_false]
 rw [hr,g4]
theorem QV (f:Nat→z0) (off n m:Nat) (vs:List z0) (hm:vs.length=m):zj (ua f (off+n) vs) off (n+m)=zj f off n++vs:=by
 apply List.ext_getElem?
 intro i
 by_cases hi:i<n+m
 ·rw [y7 _ _ _ _ hi]
  by_cases h2:i<n
  ·rw [List.getElem?_append_left (by rw [y8];exact h2),y7 _ _ _ _ h2]
   unfold ua
   rw [if_neg (by omega)]
  rw [List.getElem?_append_right (by rw [y8];omega),y8]
  unfold ua
  rw [if_pos (by omega),show off+i-(off+n)=i-n by omega,List.getElem?_eq_getElem (by omega)];rfl
 rw [List.getElem?_eq_none (by rw [y8];omega),List.getElem?_eq_none (by rw [List.length_append,y8];omega)]
theorem nh.owned {h:q7} {i off len e es:Nat} {cs:List z0} (s:nh h (.slice (some (i,off)) len none e) es cs): ∃y,h i=some y:=by
 cases s with
 |own i off len n _ f _ hr hn hc=>obtain⟨c,w,h1,_⟩:=hr;exact⟨_,h1⟩
theorem Uf {P:Program} {F:zD} {t xt:TypeId} {a b:Operand} [ha:AP P t es] [hb:AP P xt es] (h:zU (z3 (zX en es) v xs::R) H) (hw:sD w=some ys.length∧Yu H es ys.length w=some (ys.flatMap en)) (hn:ys≠ []) (hlen:xs.length+ys.length≤1048576) (vk:yf (ys.flatMap en)=true):
 ∃i q c H',(∀ {o:Oper} {T:Tm} {c':Call} {ts:List TypeId},o.op= .call c'→c'.callee= .builtin .append→c'.argTypes.toList=t::xt::ts→c'.args.toList= [a,b]→zK T a=some v→zK T b=some w→yd P F T H o=some (.val (.slice (some (i,q)) (xs.length+ys.length) c es) H'))∧
  zU (z3 (zX en es) (.slice (some (i,q)) (xs.length+ys.length) c es) (xs++ys)::R) H'∧((∀p l k e,v≠ .slice (some p) l (some k) e)→q=0∧c=none):=by
 obtain⟨e,FL,z,h1,h2,h3,h4,h5,h6⟩:=ha.h
 obtain⟨e2,_,_,k1,_⟩:=hb.h
 obtain⟨g1,g3⟩:=hw
 have lU:1≤ys.length:=by cases ys with
  |nil=>exact absurd rfl hn
  |cons=>simp
 have UI:Nat.beq ys.length 0=false:=by
  cases h:Nat.beq ys.length 0 with
  |false=>rfl
  |true=>have:=Nat.eq_of_beq_eq_true h;omega
 have b1:Nat.beq z.cells.length es=true:=by rw [h6];exact Nat.beq_refl es
 have b2:Nat.ble (xs.length+ys.length) yi=true:=Nat.ble_eq_true_of_le hlen
 have b3:Nat.ble FL yi=true:=Nat.ble_eq_true_of_le h4
 have bes:Nat.beq es es=true:=Nat.beq_refl es
 obtain⟨p,q,q1,q2,q3,⟨he,iU,Yh⟩,q5⟩:=h.s
 have hl:=j9 (en:=en) (xs:=xs) ⟨he,iU,Yh⟩
 have N7:(xs++ys).flatMap en=xs.flatMap en++ys.flatMap en:=List.flatMap_append
 have hyl:=wF iU ys
 have Lc:=wF iU xs
 have fresh: ∀H1:Hp,zU R H1→H1.next=H.next→zU (z3 (zX en es) (.slice (some (H.next,0)) (xs.length+ys.length) none es) (xs++ys)::R) (wy H1 (xs.flatMap en++ys.flatMap en)):=by
  intro H1 dp kj
  have:=dp.TF (xs:=xs++ys) iU Yh N7.symm
  rw [List.length_append,kj]at this
  exact this
 generalize kD:xs.flatMap en=cs at he fresh N7 Lc
 have empty:xs.length=0→xs= []∧cs= []:=fun h0=>by
  have:xs= []:=List.eq_nil_of_length_eq_zero h0
  subst this;exact⟨rfl,by rw [←kD];rfl⟩
 cases he with
 |nil e0=>
  have hl:0=xs.length:=hl
  obtain⟨rfl,-⟩:=empty hl.symm
  refine⟨H.next,0,none,_,fun {o T c' ts} ho hc ht W7 hx hy=> ?_,fresh H h.tail rfl,fun _=>⟨rfl,rfl⟩⟩
  simp only [yd,ho,hc,ht,W7,wQ,hx,hy,yq,yc,uS,h1,k1,h2,h3,h5,g1,b1,b3,Bool.and_true,cond_true,g3,UI,cond_false,List.length_nil]at b2 ⊢
  simp only [b2,Bool.true_and,cond_true,List.nil_append]
 |emp i off=>
  have hl:0=xs.length:=hl
  obtain⟨rfl,-⟩:=empty hl.symm
  refine⟨H.next,0,none,_,fun {o T c' ts} ho hc ht W7 hx hy=> ?_,fresh H h.tail rfl,fun _=>⟨rfl,rfl⟩⟩
  have b6:Nat.ble (0+ys.length) 0=false:=by
   cases h:Nat.ble (0+ys.length) 0 with
   |false=>rfl
   |true=>have:=Nat.le_of_ble_eq_true h;omega
  have b7:Nat.beq 0 0=true:=rfl
  simp only [yd,ho,hc,ht,W7,wQ,hx,hy,yq,yc,uS,h1,k1,h2,h3,h5,g1,b1,b3,Bool.and_true,cond_true,g3,UI,cond_false,b6,b7,List.length_nil]at b2 ⊢
  simp only [b2,Bool.true_and,cond_true,List.nil_append]
 |own i off len n _ f _ hr Vn hc=>
  have hl:len=xs.length:=hl
  subst hl
  obtain⟨r,wd,r1,r3,r2⟩:=hr
  have r3:n≤wd:=r3
  have hi:H.t.get i=some (.cells true r wd):=q2 _ _ r1
  have cq:H.p6 i=some wd:=by simp only [Hp.p6,hi]
  have hO:H.read i off (xs.length*es)=some (zj f off (xs.length*es)):=by
   simp only [Hp.read,hi]
   exact um r2 _ _ Vn
  rw [←hc]at hO
  have b5:Nat.ble (off+xs.length*es) wd=true:=Nat.ble_eq_true_of_le (by omega)
  refine⟨H.next,0,none,_,fun {o T c' ts} ho hc ht W7 hx hy=> ?_,fresh ⟨H.t.del i,H.next⟩ (h.del fun f hf=> ?_) rfl,fun _=>⟨rfl,rfl⟩⟩
  ·simp only [yd,ho,hc,ht,W7,wQ,hx,hy,yq,yc,uS,h1,k1,h2,h3,h5,g1,b1,b2,b3,Bool.and_true,cond_true,g3,UI,cond_false,bes,cq,b5,hO]
  exact hf.1.owned
 |part i off len cap n _ f _ hr Vn hle hc=>
  have hl:len=xs.length:=hl
  subst hl
  have hr0:=hr
  obtain⟨r,wd,r1,r3,r2⟩:=hr
  have hi:H.t.get i=some (.cells true r wd):=q2 _ _ r1
  have hce:xs.length*es≤cap*es:=Nat.mul_le_mul_right es hle
  have hO:H.read i off (xs.length*es)=some (zj f off (xs.length*es)):=by
   simp only [Hp.read,hi]
   exact um r2 _ _ (by show off+xs.length*es≤n;omega)
  rw [←hc]at hO
  cases jC:Nat.ble (xs.length+ys.length) cap with
  |true=>
   have hroom':=Nat.le_of_ble_eq_true jC
   have fp:(xs.length+ys.length)*es≤cap*es:=Nat.mul_le_mul_right es hroom'
   rw [Nat.add_mul]at fp
   have hF:zU (z3 zO i (n,f)::R) H:=⟨h.ok,p,q,q1,q2,q3,hr0,q5⟩
   obtain⟨H',w1,w2⟩:=hF.Xi (a:=off+xs.length*es) (vs:=ys.flatMap en) (by omega) vk
   refine⟨i,off,some cap,H',fun {o T c' ts} ho hc ht W7 hx hy=> ?_,⟨w2.ok,w2.s.cons (fun g hg=>⟨.part i off _ cap n es (ua f (off+xs.length*es) (ys.flatMap en)) _ hg (by omega) hroom' ?_,iU,Yh⟩) fun _ e=>e⟩,fun h=>absurd rfl (h _ _ _ _)⟩
   ·simp only [yd,ho,hc,ht,W7,wQ,hx,hy,yq,yc,uS,h1,k1,h2,h3,h5,g1,b1,b2,b3,Bool.and_true,cond_true,g3,UI,cond_false,jC,w1]
   rw [N7,Nat.add_mul,QV f off (xs.length*es) (ys.length*es) _ hyl,←hc]
  |false=>
   cases Ck:Nat.beq xs.length 0 with
   |true=>
    obtain⟨rfl,rfl⟩:=empty (Nat.eq_of_beq_eq_true Ck)
    refine⟨H.next,0,none,_,fun {o T c' ts} ho hc ht W7 hx hy=> ?_,fresh H h.tail rfl,fun _=>⟨rfl,rfl⟩⟩
    simp only [yd,ho,hc,ht,W7,wQ,hx,hy,yq,yc,uS,h1,k1,h2,h3,h5,g1,b1,b2,b3,Bool.and_true,cond_true,g3,UI,cond_false,jC,Ck,List.nil_append]
   |false=>
    refine⟨H.next,0,none,_,fun {o T c' ts} ho hc ht W7 hx hy=> ?_,fresh H h.tail rfl,fun _=>⟨rfl,rfl⟩⟩
    simp only [yd,ho,hc,ht,W7,wQ,hx,hy,yq,yc,uS,h1,k1,h2,h3,h5,g1,b1,b2,b3,Bool.and_true,cond_true,g3,UI,cond_false,jC,Ck,hO]
end
section
variable {P:Program} {F:zD} {zB:yy} {ops:Array Oper} {o:Oper} {l:List Oper} {T:Tm} {L R R2:List SP} {Q:Tm→List SP→Prop} {H:Hp}
variable {α:Type} {en:α→List z0} {es:Nat} {xs ys:List α} {v w:z0}
theorem ZQ {c:Call} {ts:List TypeId} {t xt:TypeId} {a b:Operand} {id n:Nat} {ds:List z0} [AP P t es] [AP P xt es] [t1:dL L v en es xs R] [t2:Tk R zC id ds R2] (hw:zP ops T o=some true) (ho:o.op= .call c) (hc:c.callee= .builtin .append) (ht:c.argTypes.toList=t::xt::ts) (ha:c.args.toList= [a,b]) (hx:zK T a=some v) (hy:zK T b=some (.slice (some (id,0)) n (some n) es))
 (ys:List α) (hd:ds=ys.flatMap en) (hn:ys.length=n) (h0:ys≠ []) (hlen:xs.length+n≤1048576) (vk:yf ds=true)
 (k: ∀i q c,WO P F zB ops l (zp T o.dst (.slice (some (i,q)) (xs.length+n) c es)) (z3 (zX en es) (.slice (some (i,q)) (xs.length+n) c es) (xs++ys)::R) Q):WO P F zB ops (o::l) T L Q:=by
 intro H hH
 have dp:zU (z3 (zX en es) v xs::R) H:=⟨hH.ok,t1.h _ hH.s⟩
 have iU:(∀x,(en x).length=es)∧0<es:=by obtain⟨_,_,_,_,_,h,_⟩:=dp.s;exact h.2
 have hr:zU (z3 zC id ds::R2) H:=⟨hH.ok,t2.h _ dp.s.tail⟩
 subst hn hd
 have hz:Nat.beq ys.length 0=false:=by
  cases h:Nat.beq ys.length 0 with
  |false=>rfl
  |true=>exact absurd (List.eq_nil_of_length_eq_zero (Nat.eq_of_beq_eq_true h)) h0
 have hb:Nat.ble ys.length ys.length=true:=Nat.ble_eq_true_of_le (Nat.le_refl _)
 have cm:=hr.s.row.Xh (o:=0) (n:=(ys.flatMap en).length) (by omega)
 rw [QU,wF iU.1]at cm
 obtain⟨i,q,cap,H',g1,g2,g3⟩:=Uf (P:=P) (F:=F) (t:=t) (xt:=xt) (a:=a) (b:=b) dp (w:= .slice (some (id,0)) ys.length (some ys.length) es) (ys:=ys) ⟨rfl,by simp only [Yu,hz,hb,cond_true,cond_false];exact cm⟩ h0 hlen vk
 exact qz hw (g1 ho hc ht ha hx hy) (k i q cap H' g2)
theorem tS {c:Call} {ts:List TypeId} {t xt:TypeId} {a b:Operand} {id n:Nat} {ds:List z0} [AP P t es] [AP P xt es] [t1:dL L v en es xs R] [t2:Tk R zC id ds R2] (hw:zP ops T o=some true) (ho:o.op= .call c) (hc:c.callee= .builtin .append) (ht:c.argTypes.toList=t::xt::ts) (ha:c.args.toList= [a,b]) (hx:zK T a=some v) (hy:zK T b=some (.slice (some (id,0)) n (some n) es))
 (ys:List α) (hd:ds=ys.flatMap en) (hn:ys.length=n) (h0:ys≠ []) (hnc: ∀p l k e,v≠ .slice (some p) l (some k) e) (hlen:xs.length+n≤1048576) (vk:yf ds=true)
 (k: ∀i,WO P F zB ops l (zp T o.dst (.slice (some (i,0)) (xs.length+n) none es)) (z3 (zX en es) (.slice (some (i,0)) (xs.length+n) none es) (xs++ys)::R) Q):WO P F zB ops (o::l) T L Q:=by
 intro H hH
 have dp:zU (z3 (zX en es) v xs::R) H:=⟨hH.ok,t1.h _ hH.s⟩
 have iU:(∀x,(en x).length=es)∧0<es:=by obtain⟨_,_,_,_,_,h,_⟩:=dp.s;exact h.2
 have hr:zU (z3 zC id ds::R2) H:=⟨hH.ok,t2.h _ dp.s.tail⟩
 subst hn hd
 have hz:Nat.beq ys.length 0=false:=by
  cases h:Nat.beq ys.length 0 with
  |false=>rfl
  |true=>exact absurd (List.eq_nil_of_length_eq_zero (Nat.eq_of_beq_eq_true h)) h0
 have hb:Nat.ble ys.length ys.length=true:=Nat.ble_eq_true_of_le (Nat.le_refl _)
 have cm:=hr.s.row.Xh (o:=0) (n:=(ys.flatMap en).length) (by omega)
 rw [QU,wF iU.1]at cm
 obtain⟨i,q,cap,H',g1,g2,g3⟩:=Uf (P:=P) (F:=F) (t:=t) (xt:=xt) (a:=a) (b:=b) dp (w:= .slice (some (id,0)) ys.length (some ys.length) es) (ys:=ys) ⟨rfl,by simp only [Yu,hz,hb,cond_true,cond_false];exact cm⟩ h0 hlen vk
 obtain⟨rfl,rfl⟩:=g3 hnc
 exact qz hw (g1 ho hc ht ha hx hy) (k i H' g2)
theorem tR {c:Call} {ts:List TypeId} {t xt:TypeId} {a b:Operand} [AP P t es] [AP P xt es] [t1:dL L v en es xs R] [t2:dL R w en es ys R2] (hw:zP ops T o=some true) (ho:o.op= .call c) (hc:c.callee= .builtin .append) (ht:c.argTypes.toList=t::xt::ts) (ha:c.args.toList= [a,b]) (hx:zK T a=some v) (hy:zK T b=some w)
 (hlen:xs.length+ys.length≤1048576) (vk: ∀y,yf (en y)=true)
 (k: ∀a c e,WO P F zB ops l (zp T o.dst (.slice a (xs.length+ys.length) c e)) (z3 (zX en es) (.slice a (xs.length+ys.length) c e) (xs++ys)::R) Q):WO P F zB ops (o::l) T L Q:=by
 intro H hH
 have dp:zU (z3 (zX en es) v xs::R) H:=⟨hH.ok,t1.h _ hH.s⟩
 have hr:zU (z3 (zX en es) w ys::R2) H:=⟨hH.ok,t2.h _ dp.s.tail⟩
 have Ci:zX en es w ys fun k=>H.t.get k:=by
  obtain⟨a,b,h1,h2,h3,h4,h5⟩:=hr.s
  exact Uu h2 h4
 by_cases h0:ys= []
 ·subst h0
  have NA:zX en es v xs fun k=>H.t.get k:=by
   obtain⟨a,b,h1,h2,h3,h4,h5⟩:=dp.s
   exact Uu h2 h4
  obtain⟨p,q,e,rfl⟩:=Zh NA
  obtain⟨e1,FL,z,h1,h2,h3,h4,h5,h6⟩:=(inferInstance:AP P t es).h
  obtain⟨e2,_,_,k1,_⟩:=(inferInstance:AP P xt es).h
  obtain⟨g1,g3⟩:=VH Ci
  have b1:Nat.beq z.cells.length es=true:=by rw [h6];exact Nat.beq_refl es
  have b2:Nat.ble (xs.length+0) yi=true:=Nat.ble_eq_true_of_le (by show xs.length+0≤1048576;simpa using hlen)
  have b3:Nat.ble FL yi=true:=Nat.ble_eq_true_of_le h4
  have b4:Nat.beq 0 0=true:=rfl
  have kk:=k p q e H (by simpa using dp)
  refine qz hw (v:= .slice p xs.length q e) ?_ kk
  rw [List.length_nil]at g1 g3
  cases p with
  |none=>simp only [yd,ho,hc,ht,ha,wQ,hx,hy,yq,yc,uS,h1,k1,h2,h3,h5,g1,b1,b2,b3,Bool.and_true,cond_true,g3,b4]
  |some p=>cases q<;>simp only [yd,ho,hc,ht,ha,wQ,hx,hy,yq,yc,uS,h1,k1,h2,h3,h5,g1,b1,b2,b3,Bool.and_true,cond_true,g3,b4]
 obtain⟨i,q,cap,H',g1,g2,g3⟩:=Uf (P:=P) (F:=F) (t:=t) (xt:=xt) (a:=a) (b:=b) dp (VH Ci) h0 hlen ((vH _).2 fun u hu=>by
  obtain⟨y,_,hy⟩:=List.mem_flatMap.1 hu
  exact(vH _).1 (vk y) u hy)
 exact qz hw (g1 ho hc ht ha hx hy) (k _ _ _ H' g2)
end
section
variable {P:Program} {F:zD} {zB:yy} {ops:Array Oper} {l:List Oper} {m:List It} {T:Tm} {d:Option Tmp} {L:List SP} {Q:Tm→List SP→Prop}
theorem z5 {p:Prop} [Decidable p] (ht:p→WO P F zB ops l (zp T d (.bool true)) L Q) (hf: ¬p→WO P F zB ops l (zp T d (.bool false)) L Q):WO P F zB ops l (zp T d (.bool (decide p))) L Q:=by
 by_cases hp:p
 ·rw [decide_eq_true hp];exact ht hp
 rw [decide_eq_false hp];exact hf hp
theorem zV {b:Bool} (ht:b=true→WO P F zB ops l (zp T d (.bool true)) L Q) (hf:b=false→WO P F zB ops l (zp T d (.bool false)) L Q):WO P F zB ops l (zp T d (.bool b)) L Q:=by
 cases b with
 |true=>exact ht rfl
 |false=>exact hf rfl
theorem ql {p:Prop} [Decidable p] (ht:p→WK P F ops m (zp T d (.bool true)) L Q) (hf: ¬p→WK P F ops m (zp T d (.bool false)) L Q):WK P F ops m (zp T d (.bool (decide p))) L Q:=by
 by_cases hp:p
 ·rw [decide_eq_true hp];exact ht hp
 rw [decide_eq_false hp];exact hf hp
theorem jD {b:Bool} (ht:b=true→WK P F ops m (zp T d (.bool true)) L Q) (hf:b=false→WK P F ops m (zp T d (.bool false)) L Q):WK P F ops m (zp T d (.bool b)) L Q:=by
 cases b with
 |true=>exact ht rfl
 |false=>exact hf rfl
theorem dx {p:Prop} [Decidable p] (hp:p) (k:WO P F zB ops l (zp T d (.bool true)) L Q):WO P F zB ops l (zp T d (.bool (decide p))) L Q:=by rw [decide_eq_true hp];exact k
theorem qm {p:Prop} [Decidable p] (hp: ¬p) (k:WO P F zB ops l (zp T d (.bool false)) L Q):WO P F zB ops l (zp T d (.bool (decide p))) L Q:=by rw [decide_eq_false hp];exact k
theorem z2I {p:Prop} [Decidable p] (hp:p) (k:WK P F ops m (zp T d (.bool true)) L Q):WK P F ops m (zp T d (.bool (decide p))) L Q:=by rw [decide_eq_true hp];exact k
theorem qI {v w:z0} (e:v=w) (k:WO P F zB ops l (zp T d w) L Q):WO P F zB ops l (zp T d v) L Q:=by subst e;exact k
end
def kN:z0→Bool
 | .bool _=>true
 | .int _ (.lit _)=>true
 | .ptr _=>true
 | .slice none _ none _=>false
 | .slice _ _ _ _=>true
 | .map _=>true
 | .chan _=>true
 |_=>false
def Da:z0→Bool
 | .agg cs=>cs.all kN
 | .tuple cs=>cs.all kN
 |v=>kN v
theorem xO (n:Nat) (v:z0) (h:kN v=true):ju (n+1) v v=true:=by
 have hk: ∀k,gN k k=true:=fun k=>by cases k<;>rfl
 have hz: ∀z:Int,Z9 z z=true:=fun z=>(ZA z z).2 rfl
 cases v with
 |bool b=>simp [ju]
 |int k n=>cases n with
  |lit z=>simp [ju,hk,hz]
  |G9=>cases h
 |ptr a=>cases a with
  |none=>rfl
  |some p=>simp [ju]
 |slice a n c e=>cases a with
  |none=>cases c with
   |none=>cases h
   |some c=>simp [ju]
  |some p=>cases c<;>simp [ju]
 |map r=>cases r<;>simp [ju]
 |chan r=>cases r<;>simp [ju]
 |_=>cases h
theorem Jj (n:Nat): ∀cs:List z0,cs.all kN=true→Ql (ju (n+1)) cs cs=true:=by
 intro cs
 induction cs with
 |nil=>intro _;rfl
 |cons c cs ih=>
  intro h
  rw [List.all_cons,Bool.and_eq_true]at h
  simp [Ql,xO n c h.1,ih h.2]
theorem z6 (v:z0) (h:Da v=true):Vi v v=true:=by
 cases v with
 |agg cs=>exact Jj 2 cs h
 |tuple cs=>exact Jj 2 cs h
 |_=>exact xO 3 _ h
theorem Yd {b c:Bool} (h:c=b):Vi (.bool b) (.bool c)=true:=by subst h;exact oY c
instance TY (L:List SP):Sub L L:=Sub.refl L
instance (priority:=50) sub_drop (p:SP) (L M:List SP) [h:Sub L M]:Sub (p::L) M:=Sub.drop h
instance (priority:=100) sub_get {κ α:Type} (L M R:List SP) (K:κ→α→SP) (a:κ) (x:α) [t:Tk L K a x R] [h:Sub R M]:Sub L (z3 K a x::M):=Sub.get rfl h
theorem qk {α β:Type} (f:β→α→β) (b:β) (l:List α) (c:Nat) (x:α) (h:l[c]? =some x):(l.take (c+1)).foldl f b=f ((l.take c).foldl f b) x:=by
 rw [List.take_add_one,h];simp
theorem Sub.DS {κ1 α1:Type} {K1:κ1→α1→SP} {a1:κ1} {x1:α1} {L M R1:List SP} {p:SP} [t1:Tk L K1 a1 x1 R1] (hc: ∀h,Sat [z3 K1 a1 x1] h→p h) (k:Sub R1 M):Sub L (p::M):=⟨fun h s=>by
 have s1:=t1.h h s
 exact(qo (L:= [z3 K1 a1 x1]) s1).cons hc k.h⟩
theorem Sub.qi {κ1 α1 κ2 α2:Type} {K1:κ1→α1→SP} {a1:κ1} {x1:α1} {K2:κ2→α2→SP} {a2:κ2} {x2:α2} {L M R1 R2:List SP} {p:SP} [t1:Tk L K1 a1 x1 R1] [t2:Tk R1 K2 a2 x2 R2] (hc: ∀h,Sat [z3 K1 a1 x1,z3 K2 a2 x2] h→p h) (k:Sub R2 M):Sub L (p::M):=⟨fun h s=>by
 have s1:=(t1.h h s).cons (fun _ e=>e) t2.h
 exact(qo (L:= [z3 K1 a1 x1,z3 K2 a2 x2]) s1).cons hc k.h⟩
theorem Sub.nd {κ1 α1 κ2 α2 κ3 α3:Type} {K1:κ1→α1→SP} {a1:κ1} {x1:α1} {K2:κ2→α2→SP} {a2:κ2} {x2:α2} {K3:κ3→α3→SP} {a3:κ3} {x3:α3} {L M R1 R2 R3:List SP} {p:SP} [t1:Tk L K1 a1 x1 R1] [t2:Tk R1 K2 a2 x2 R2] [t3:Tk R2 K3 a3 x3 R3] (hc: ∀h,Sat [z3 K1 a1 x1,z3 K2 a2 x2,z3 K3 a3 x3] h→p h) (k:Sub R3 M):Sub L (p::M):=⟨fun h s=>by
 have s1:=(t1.h h s).cons (fun _ e=>e) fun _ e=>(t2.h _ e).cons (fun _ e=>e) t3.h
 exact(qo (L:= [z3 K1 a1 x1,z3 K2 a2 x2,z3 K3 a3 x3]) s1).cons hc k.h⟩
theorem Sub.I8 {κ1 α1 κ2 α2 κ3 α3 κ4 α4:Type} {K1:κ1→α1→SP} {a1:κ1} {x1:α1} {K2:κ2→α2→SP} {a2:κ2} {x2:α2} {K3:κ3→α3→SP} {a3:κ3} {x3:α3} {K4:κ4→α4→SP} {a4:κ4} {x4:α4} {L M R1 R2 R3 R4:List SP} {p:SP} [t1:Tk L K1 a1 x1 R1] [t2:Tk R1 K2 a2 x2 R2] [t3:Tk R2 K3 a3 x3 R3] [t4:Tk R3 K4 a4 x4 R4]
 (hc: ∀h,Sat [z3 K1 a1 x1,z3 K2 a2 x2,z3 K3 a3 x3,z3 K4 a4 x4] h→p h) (k:Sub R4 M):Sub L (p::M):=⟨fun h s=>by
 have s1:=(t1.h h s).cons (fun _ e=>e) fun _ e=>(t2.h _ e).cons (fun _ e=>e) fun _ e=>(t3.h _ e).cons (fun _ e=>e) t4.h
 exact(qo (L:= [z3 K1 a1 x1,z3 K2 a2 x2,z3 K3 a3 x3,z3 K4 a4 x4]) s1).cons hc k.h⟩
theorem Sub.W9 {κ1 α1 κ2 α2 κ3 α3 κ4 α4 κ5 α5:Type} {K1:κ1→α1→SP} {a1:κ1} {x1:α1} {K2:κ2→α2→SP} {a2:κ2} {x2:α2} {K3:κ3→α3→SP} {a3:κ3} {x3:α3} {K4:κ4→α4→SP} {a4:κ4} {x4:α4} {K5:κ5→α5→SP} {a5:κ5} {x5:α5} {L M R1 R2 R3 R4 R5:List SP} {p:SP} [t1:Tk L K1 a1 x1 R1] [t2:Tk R1 K2 a2 x2 R2] [t3:Tk R2 K3 a3 x3 R3] [t4:Tk R3 K4 a4 x4 R4] [t5:Tk R4 K5 a5 x5 R5]
 (hc: ∀h,Sat [z3 K1 a1 x1,z3 K2 a2 x2,z3 K3 a3 x3,z3 K4 a4 x4,z3 K5 a5 x5] h→p h) (k:Sub R5 M):Sub L (p::M):=⟨fun h s=>by
 have s1:=(t1.h h s).cons (fun _ e=>e) fun _ e=>(t2.h _ e).cons (fun _ e=>e) fun _ e=>(t3.h _ e).cons (fun _ e=>e) fun _ e=>(t4.h _ e).cons (fun _ e=>e) t5.h
 exact(qo (L:= [z3 K1 a1 x1,z3 K2 a2 x2,z3 K3 a3 x3,z3 K4 a4 x4,z3 K5 a5 x5]) s1).cons hc k.h⟩
theorem AL {p q:SP} {L:List SP} {h:q7} (s:Sat (p::L) h) (k: ∀f,p f→q f):Sat (q::L) h:=s.cons k fun _ e=>e
theorem so {p q:SP} {a:SP} {L:List SP} {h:q7} (s:Sat (a::p::L) h) (k: ∀f,p f→q f):Sat (a::q::L) h:=s.cons (fun _ e=>e) fun _ e=>AL e k
theorem TU {p q:SP} {a b:SP} {L:List SP} {h:q7} (s:Sat (a::b::p::L) h) (k: ∀f,p f→q f):Sat (a::b::q::L) h:=s.cons (fun _ e=>e) fun _ e=>so e k
section
variable {P:Program} {F:zD} {zB:yy} {ops:Array Oper} {l:List Oper} {T:Tm} {L R:List SP} {Q:Tm→List SP→Prop}
theorem wj {κ α β:Type} {K:κ→α→SP} {a:κ} {x:α} {E:β→List SP} {φ:β→Prop} [t:Tk L K a x R] (hu: ∀h,K a x h→ ∃y,φ y∧Sat (E y) h) (k: ∀y,φ y→WO P F zB ops l T (E y++R) Q):WO P F zB ops l T L Q:=
 Nt (J:=fun L'=> ∃y,φ y∧L'=E y++R) (fun h s=>by
  obtain⟨a,b,h1,h2,h3,h4,h5⟩:=t.h h s
  obtain⟨y,hy,hs⟩:=hu a h4
  exact⟨_,⟨y,hy,rfl⟩,Sat.join h1 h2 h3 hs h5⟩) (by rintro _ ⟨y,hy,rfl⟩;exact k y hy)
theorem ze {κ α β:Type} {K:κ→α→SP} {a:κ} {x:α} {E:β→List SP} {φ:β→Prop} {f:FuncId} {zC0:List z0} {Q:z0→List SP→Prop} [t:Tk L K a x R] (hu: ∀h,K a x h→ ∃y,φ y∧Sat (E y) h) (k: ∀y,φ y→SW P F zB f zC0 (E y++R) Q):SW P F zB f zC0 L Q:=
 SW.view (J:=fun L'=> ∃y,φ y∧L'=E y++R) (fun h s=>by
  obtain⟨a,b,h1,h2,h3,h4,h5⟩:=t.h h s
  obtain⟨y,hy,hs⟩:=hu a h4
  exact⟨_,⟨y,hy,rfl⟩,Sat.join h1 h2 h3 hs h5⟩) (by rintro _ ⟨y,hy,rfl⟩;exact k y hy)
end
section
variable {P:Program} {F:zD} {o:Oper} {T:Tm} {H:Hp}
theorem tp {c:Call} {x y:Operand} {k:IntKind} {a b:Int} (ho:o.op= .call c) (hc:c.callee= .builtin .max) (ha:c.args.toList= [x,y]) (hx:zK T x=some (.int k (.lit a))) (hy:zK T y=some (.int k (.lit b))):yd P F T H o=some (.val (.int k (.lit (max a b))) H):=by
 have e:max a b=if a<b then b else a:=by omega
 simp only [yd,ho,hc,ha,wQ,hx,hy,yq,yc,xg,I5,SInt.lt,Qd,e]
 by_cases h:a<b
 ·rw [if_pos h,decide_eq_true h];rfl
 rw [if_neg h,decide_eq_false h];rfl
theorem tq {c:Call} {x y:Operand} {k:IntKind} {a b:Int} (ho:o.op= .call c) (hc:c.callee= .builtin .min) (ha:c.args.toList= [x,y]) (hx:zK T x=some (.int k (.lit a))) (hy:zK T y=some (.int k (.lit b))):yd P F T H o=some (.val (.int k (.lit (min a b))) H):=by
 have e:min a b=if b<a then b else a:=by omega
 simp only [yd,ho,hc,ha,wQ,hx,hy,yq,yc,xg,I7,SInt.lt,Qd,e]
 by_cases h:b<a
 ·rw [if_pos h,decide_eq_true h];rfl
 rw [if_neg h,decide_eq_false h];rfl
end
section
variable {P:Program} {F:zD} {zB:yy} {L R:List SP}
theorem yl {κ α:Type} {K:κ→α→SP} {a:κ} {x:α} {f:FuncId} {vs:List z0} {Q:z0→List SP→Prop} {p:Prop} [t:Tk L K a x R] (hu: ∀h,K a x h→p) (k:p→SW P F zB f vs L Q):SW P F zB f vs L Q:=fun H hH=>by
 obtain⟨a,b,h1,h2,h3,h4,h5⟩:=t.h _ hH.s
 exact k (hu _ h4) H hH
end
section
variable {P:Program} {F:zD} {zB:yy} {ops:Array Oper} {o:Oper} {l:List Oper} {T:Tm} {L R:List SP} {Q:Tm→List SP→Prop} {x:It} {m:List It}
theorem sS {t:TypeId} [hM:MT P t] (hw:zP ops T o=some true) (ho:o.op= .makeMap t none) (k: ∀i,WO P F zB ops l (zp T o.dst (.map (some i))) (z3 ZM i []::L) Q):WO P F zB ops (o::l) T L Q:=pe hw ho k
theorem xz {t:TypeId} [hM:MT P t] (hw:zP ops T x.o=some true) (ho:x.o.op= .makeMap t none) (k: ∀i,WK P F ops m (zp T x.o.dst (.map (some i))) (z3 ZM i []::L) Q):WK P F ops (x::m) T L Q:=by
 intro H hH
 obtain⟨kt,et,h1⟩:=hM.h
 exact nO (v:= .map (some H.next)) (H':=H.alloc (.map [] 0)) (by rw [ho];rfl) hw (by simp only [yd,ho,gq,h1];rfl) (k _ _ (hH.alloc fun f hf=>⟨[],0,hf,.nil⟩))
end
end Go.Px
