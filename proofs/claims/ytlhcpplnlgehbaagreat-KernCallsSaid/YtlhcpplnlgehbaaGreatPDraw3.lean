/- A region whose order is drawn: every order. -/
import Derived.Test.YtlhcpplnlgehbaaGreatPDraw2
namespace Go.Px
open Go Go.RowKit

variable {P : Program} {F : Facts} {G : (Nat → Int) → Prop} {B : Nat} {w0 : World} {ops : Array Oper} {its : List It}

/-- The temporaries once more operations are done. -/
theorem pt_put {pend pend2 : List It} {T T2 : Tm} {V V2 : Val} {a : Act} {d : Option Tmp} {v : AVal} {v' : Value} (hpt : ∀ t x, Tm.get t T = some x → (∃ p, p ∈ pend ∧ p.o.dst = some t) ∨ ∃ v, a.tmps[t]? = some v ∧ VRel V x v)
    (hV : V.le V2) (hv : VRel V2 v v') (hsz : ∀ t, d = some t → t < a.tmps.size) (hT : ∀ t x, Tm.get t T2 = some x → (d = some t ∧ x = v) ∨ (d ≠ some t ∧ Tm.get t T = some x))
    (hp : ∀ p, p ∈ pend → p ∈ pend2 ∨ p.o.dst = d) : ∀ t x, Tm.get t T2 = some x → (∃ p, p ∈ pend2 ∧ p.o.dst = some t) ∨ ∃ u, (a.put d v').tmps[t]? = some u ∧ VRel V2 x u := by
  intro t x hx
  rcases hT t x hx with ⟨rfl, rfl⟩ | ⟨hne, hx⟩
  · exact .inr ⟨v', by simp [Act.put, hsz t rfl], hv⟩
  · rcases hpt t x hx with ⟨p, hpp, hpd⟩ | ⟨u, h1, h2⟩
    · rcases hp p hpp with h | h
      · exact .inl ⟨p, h, hpd⟩
      · exact absurd (by rw [← h]; exact hpd) hne
    · refine .inr ⟨u, ?_, h2.mono hV⟩
      cases d with
      | none => exact h1
      | some e =>
        have : e ≠ t := fun h => hne (by rw [h])
        simp only [Act.put, Array.getElem?_setIfInBounds_ne this]; exact h1

theorem draw_main (hI : Items ops its) (hA : Apart ops its) (hlen : its.length = ops.size) {rec : Rec} (hC : CallOk P F G B w0 rec.call) {Q : Exit → Act → World → Prop} {Tf : Tm} {Hf H0 : Hp} {V0 : Val} {sz : Nat} {df : List Deferred} (hF : FG F G V0.ρ)
    (hd : ∀ x, x ∈ its → ∀ d, x.o.dst = some d → d < sz)
    (hQ : ∀ V' a' w', Ext V0 V' H0 Hf → WRel B w0 V' Hf w' → TRel V' Tf a'.tmps → a'.tmps.size = sz → a'.defers = df → Q .normal a' w') :
    ∀ (k : Nat) (gh : Nat → Nat) (pend rest : List It) (T : Tm) (H : Hp) (V : Val) (a : Act) (w : World) (listed : Array Bool), Mid P F ops its B w0 gh H0.next True pend rest T H V a w → Cont P F rec ops pend rest T H Tf Hf →
      Lst its pend rest listed → pend.length + rest.length ≤ k → Ext V0 V H0 H → a.tmps.size = sz → a.defers = df → wpAny P .any ops Q k listed a w := by
  intro k
  induction k with
  | zero =>
    intro gh pend rest T H V a w listed hM hc hL hk hE hsz hdf
    have hp : pend = [] := List.eq_nil_of_length_eq_zero (by omega)
    have hr : rest = [] := List.eq_nil_of_length_eq_zero (by omega)
    subst hp hr
    refine ⟨?_, ?_⟩
    · cases hrd : Region.ready .any ops listed with
      | nil => rfl
      | cons i l =>
        have : i ∈ Region.ready .any ops listed := by rw [hrd]; simp
        obtain ⟨x, h1, rfl, h3, h4, h5⟩ := (ready_iff hI hlen hL.size).1 this
        have := (hL.iff_ x h1).2 (by simp)
        rw [h4] at this; cases this
    · cases hc with
      | last _ hT hH =>
        subst hT hH
        exact hQ V a w hE hM.wrel (fun t x hx => (hM.pt t x hx).resolve_left (fun ⟨p, hp, _⟩ => by simp at hp)) hsz hdf
      | next c R n prev ss T1 H1 hr => cases hr
  | succ k ih =>
    intro gh pend rest T H V a w listed hM hc hL hk hE hsz hdf
    have hFV : FG F G V.ρ := by rw [hE.le.ρ]; exact hF
    refine ⟨fun hrd => ?_, fun i hi => ?_⟩
    · -- all are listed
      have none_ : ∀ (n : Nat) x, its[n]? = some x → ¬ (x ∈ pend ∨ x ∈ rest) := by
        intro n
        induction n using Nat.strongRecOn with
        | _ n ihn =>
          intro x hx hm
          obtain ⟨hi, ho⟩ := hI.at_ n x hx
          have hnl : listed.getD n false = false := by
            cases hl : listed.getD n false with
            | false => rfl
            | true => exact absurd hm ((hL.iff_ x (by rw [hi]; exact hx)).1 (by rw [hi]; exact hl))
          have : n ∈ Region.ready .any ops listed := (ready_iff hI hlen hL.size).2 ⟨x, hx, hi, ho, hnl, fun e he hb => by
            have hlt := hI.lin n x hx e he hb
            have hnn : n < its.length := (List.getElem?_eq_some_iff.1 hx).1
            have hy : its[e.on]? = some (its[e.on]'(by omega)) := by simp [show e.on < its.length by omega]
            obtain ⟨h1, _⟩ := hI.at_ e.on _ hy
            have h2 := (hL.iff_ (its[e.on]'(by omega)) (by rw [h1]; exact hy)).2 (ihn e.on hlt _ hy)
            rw [h1] at h2; exact h2⟩
          rw [hrd] at this; simp at this
      have hr : rest = [] := by
        cases rest with
        | nil => rfl
        | cons x l => exact absurd (.inr (by simp)) (none_ x.i x (hM.inits x (.inr (by simp))))
      have hp : pend = [] := by
        cases pend with
        | nil => rfl
        | cons x l => exact absurd (.inl (by simp)) (none_ x.i x (hM.inits x (.inl (by simp))))
      cases hc with
      | last _ hT hH =>
        subst hT hH hp
        exact hQ V a w hE hM.wrel (fun t x hx => (hM.pt t x hx).resolve_left (fun ⟨p, hp, _⟩ => by simp at hp)) hsz hdf
      | next c R n prev ss T1 H1 hr' => rw [hr] at hr'; cases hr'
    · obtain ⟨x, hx, rfl, ho, hnl, hrd⟩ := (ready_iff hI hlen hL.size).1 hi
      have hxm : x ∈ pend ∨ x ∈ rest := by
        refine Classical.byContradiction fun hno => ?_
        have := (hL.iff_ x hx).2 hno
        rw [hnl] at this; cases this
      -- what comes before is done
      have done : ∀ j, x.m.testBit j = true → listed.getD j false = true := hI.done hL.closed x.i x hx hrd
      have notpend : ∀ p, p ∈ pend → x.m.testBit p.i = false := by
        intro p hp
        cases hb : x.m.testBit p.i with
        | false => rfl
        | true => exact absurd (.inl hp) ((hL.iff_ p (hM.inits p (.inl hp))).1 (done _ hb))
      have notrest : ∀ p, p ∈ rest → x.m.testBit p.i = false := by
        intro p hp
        cases hb : x.m.testBit p.i with
        | false => rfl
        | true => exact absurd (.inr hp) ((hL.iff_ p (hM.inits p (.inr hp))).1 (done _ hb))
      have seen : ∀ d, looksD ops x.o d = true → ∀ u, Tm.get d T = some u → ∃ v, a.tmps[d]? = some v ∧ VRel V u v := by
        intro d hl u hu
        rcases hM.pt d u hu with ⟨p, hp, hpd⟩ | h
        · have := hA.look p (List.mem_of_getElem? (hM.inits p (.inl hp))) x (List.mem_of_getElem? hx) d hpd hl
          rw [notpend p hp] at this; cases this
        · exact h
      have looks : ∀ T', Same ops T' T x.o → Looks V T' a x.o.op.operands := by
        intro T' hs y hy v hv
        rw [hs.opnd hy] at hv
        exact opnd_rel' (fun t ht u hu => seen t (looksD_op (ht ▸ hy)) u hu) hv
      have guard : ∀ g want q d, x.o.guard = some (g, want) → ops[g]? = some q → q.dst = some d → ∀ u, Tm.get d T = some u → ∃ v, a.tmps[d]? = some v ∧ VRel V u v :=
        fun g want q d h1 h2 h3 => seen d (looksD_guard h1 h2 h3)
      have hdx : ∀ t, x.o.dst = some t → t < a.tmps.size := fun t ht => by rw [hsz]; exact hd x (List.mem_of_getElem? hx) t ht
      have uniq : ∀ y, (y ∈ pend ∨ y ∈ rest) → y.i = x.i → y = x := fun y hy e => by
        have := hM.inits y hy
        rw [e, hx] at this; cases this; rfl
      rcases hxm with hxp | hxr
      · -- one that waits
        have hp' : ∀ y, y ∈ pend.filter (fun y => !Nat.beq y.i x.i) ↔ y ∈ pend ∧ y.i ≠ x.i := by
          intro y; rw [List.mem_filter]
          refine and_congr_right fun _ => ?_
          cases hb : Nat.beq y.i x.i with
          | false => simp; intro e; rw [e] at hb; simp at hb
          | true => simp; exact Nat.eq_of_beq_eq_true hb
        have hlen' : (pend.filter (fun y => !Nat.beq y.i x.i)).length < pend.length := by
          have := List.length_filter_lt_length_iff_exists (l := pend) (p := fun y => !Nat.beq y.i x.i)
          exact this.2 ⟨x, hxp, by simp⟩
        have hL2 : Lst its (pend.filter (fun y => !Nat.beq y.i x.i)) rest (listed.setIfInBounds x.i true) := hL.add hx hrd fun y hy => by
          rw [hp']
          constructor
          · rintro (⟨h1, h2⟩ | h)
            · exact ⟨.inl h1, h2⟩
            · exact ⟨.inr h, fun e => hM.apart x y hxp h e.symm⟩
          · rintro ⟨h1 | h1, h2⟩
            · exact .inl ⟨h1, h2⟩
            · exact .inr h1
        have hc2 : Cont P F rec ops (pend.filter (fun y => !Nat.beq y.i x.i)) rest T H Tf Hf := by
          cases hc with
          | last h1 h2 h3 => exact .last h1 h2 h3
          | next c R n prev ss T1 H1 hr hc hs hru hdep hprev hnd => exact .next c R n prev ss T1 H1 hr hc hs hru hdep (fun p hp => hprev p ((hp' p).1 hp).1) hnd
        -- its value told
        have go : ∀ (v : AVal) (v' : Value) (V2 : Val) (w2 : World), DstIs T x.o v → V.le V2 → WRel B w0 V2 H w2 → VRel V2 v v' → (∀ p, p ∈ pend → p.i ≠ x.i → wantedA ops T p.o = some true → allocOp p.o.op = true → V.blk (gh p.i) = none → V2.blk (gh p.i) = none) → Ext V0 V2 H0 H →
            wpAny P .any ops Q k (listed.setIfInBounds x.i true) (a.put x.o.dst v') w2 := by
          intro v v' V2 w2 hdst hle hW2 hv hg hE2
          refine ih gh _ rest T H V2 _ w2 _ ⟨hW2, fun y hy => hM.inits y (hy.imp (fun h => ((hp' y).1 h).1) id), fun p y hp hy => hM.apart p y ((hp' p).1 hp).1 hy, fun p y hp hy => hM.sep p y ((hp' p).1 hp).1 hy, fun p hp => ?_,
            fun p q hp hq => hM.gd p q ((hp' p).1 hp).1 ((hp' q).1 hq).1, fun p hp => hM.gl p ((hp' p).1 hp).1, ?_⟩ hc2 hL2 (by omega) hE2 (by rw [Act.size_put]; exact hsz) (by rw [Act.defers_put]; exact hdf)
          · obtain ⟨h1, h2⟩ := (hp' p).1 hp
            exact (hM.pnd p h1).move (fun _ _ => rfl) rfl (fun _ _ _ => rfl) (Nat.le_refl _) (fun hw ha _ hb => hg p h1 h2 hw ha hb) (fun s => ⟨s, rfl⟩)
          · refine pt_put hM.pt hle hv hdx (fun t u hu => ?_) (fun p hp => ?_)
            · by_cases ht : x.o.dst = some t
              · exact .inl ⟨ht, hdst t u ht hu⟩
              · exact .inr ⟨ht, hu⟩
            · by_cases hpi : p.i = x.i
              · exact .inr (by rw [uniq p (.inl hp) hpi])
              · exact .inl ((hp' p).2 ⟨hp, hpi⟩)
        unfold wpOp
        simp only [ho]
        cases hM.pnd x hxp with
        | off hw hdst =>
          rw [if_neg (by rw [wanted_of hw guard]; simp)]
          exact go unit undef V w hdst (.refl V) hM.wrel (undef_rel V) (fun _ _ _ _ _ h => h) hE
        | made hw ha T' Hq v ob hs hdst he hn hN hl hob hv =>
          rw [if_pos (wanted_of hw guard)]
          refine .inl ?_
          obtain ⟨v1, ob1, xo, base, S, v', h1, h2, h3, h4⟩ := alloc_sound (P := P) (F := F) hM.wrel.size (looks T' hs) ha he
          have hv1 : v = v1 := by injection h1
          have hob1 : Hq.alloc ob = Hq.alloc ob1 := by injection h1
          have hobe : ob1 = ob := by
            have e := congrArg (fun h : Hp => h.t.get Hq.next) hob1
            simp only [Hp.alloc, Tr.get_set, if_true] at e
            exact (Option.some.inj e).symm
          subst hv1 hobe
          have hble := Val.bind_le hv (w.heap.size, base, S)
          unfold Oper.wp
          rw [h2]
          refine go v v' _ _ hdst hble (hM.wrel.bindGhost hv hl hob h3) (h4 _ hble (by rw [hn]; exact Val.bind_at _ _ _)) (fun p hp hne hwp hap hbp => ?_)
            ⟨hE.le.trans hble, fun id hid => ?_, hE.next, hE.ghost⟩
          · have := hM.gd p x hp hxp hap ha hwp hw hne
            simp [Val.bind, this, hbp]
          · have : id ≠ gh x.i := by omega
            simp only [Val.bind, this, if_false]
            exact hE.old id hid
        | flat hw hp T' v hs hdst he =>
          rw [if_pos (wanted_of hw guard)]
          refine .inl ?_
          obtain ⟨v1, v', h1, h2, h3⟩ := quiet_sound hFV.1 hM.wrel (looks T' hs) (pure_quiet hp) (he H)
          cases h1
          unfold Oper.wp
          rw [h3]
          exact go v v' V w hdst (.refl V) hM.wrel h2 (fun _ _ _ _ _ h => h) hE
        | read hw hr he =>
          rw [if_pos (wanted_of hw guard)]
          refine .inl ?_
          obtain ⟨T', v, H1, hs, hdst, hop⟩ := he trivial
          have hq : quietOp x.o.op = true := by simp only [readOp, Bool.and_eq_true] at hr; exact hr.1
          obtain ⟨v1, v', h1, h2, h3⟩ := quiet_sound hFV.1 hM.wrel (looks T' hs) hq hop
          cases h1
          unfold Oper.wp
          rw [h3]
          exact go v v' V w hdst (.refl V) hM.wrel h2 (fun _ _ _ _ _ h => h) hE
      · -- the next of those in order
        cases hc with
        | last h1 => rw [h1] at hxr; simp at hxr
        | next c R n prev ss T1 H1 hr hst hs hru hdep hprev hnd =>
        subst hr
        have hxc : x = c := by
          rcases List.mem_cons.1 hxr with h | h
          · exact h
          · have h1 := (hdep x h).1
            rw [notrest c (by simp)] at h1; cases h1
        subst hxc
        refine stepOp_wp hC hFV hM.wrel ho (looks T fun _ _ => rfl) guard hst fun v V2 w2 v' hT1 hE2 hW2 hv => ?_
        subst hT1
        have hxi : its[x.i]? = some x := hx
        have away : ∀ p, p ∈ pend → ∀ d, looksD ops p.o d = true ∨ p.o.dst = some d → Tm.get d (putD T x.o.dst v) = Tm.get d T := fun p hp =>
          put_away hA hxi (hM.inits p (.inl hp)) (hM.sep p x hp (by simp)) (hM.apart p x hp (by simp)) T v
        have awayS : ∀ p, p ∈ pend → Same ops (putD T x.o.dst v) T p.o := fun p hp d hd => away p hp d (.inl hd)
        have hM2 : Mid P F ops its B w0 gh H0.next False pend R (putD T x.o.dst v) H1 V2 (a.put x.o.dst v') w2 := by
          refine ⟨hW2, fun y hy => hM.inits y (hy.imp id (fun h => by simp [h])), fun p y hp hy => hM.apart p y hp (by simp [hy]), fun p y hp hy => hM.sep p y hp (by simp [hy]), fun p hp => ?_, fun p q hp hq ha hb hwp hwq => ?_, fun p hp ha hw => ?_, ?_⟩
          · exact (hM.pnd p hp).move (away p hp) rfl hE2.ghost hE2.next (fun _ _ hl h => by rw [hE2.old _ hl]; exact h) nofun
          · exact hM.gd p q hp hq ha hb (by rw [← (awayS p hp).wanted]; exact hwp) (by rw [← (awayS q hq).wanted]; exact hwq)
          · exact Nat.lt_of_lt_of_le (hM.gl p hp ha (by rw [← (awayS p hp).wanted]; exact hw)) hE2.next
          · exact pt_put hM.pt hE2.le hv hdx (fun t u hu => get_putD hu) (fun p hp => .inl hp)
        obtain ⟨gh1, pend1, rest1, T2, H2, hM3, hE3, hc3, hmem, hlen3⟩ := enter hI hA hs hru hM2 hnd (fun p hp hrd => hprev p hp hrd (notpend p hp)) (Nat.le_trans hE.next hE2.next)
        refine ih gh1 pend1 rest1 T2 H2 V2 _ w2 _ hM3 hc3 (hL.add hxi hrd fun y hy => ?_) (by simp only [List.length_cons] at hk; omega) ((hE.trans hE2).trans hE3) (by rw [Act.size_put]; exact hsz) (by rw [Act.defers_put]; exact hdf)
        rw [hmem y]
        constructor
        · rintro (h | h)
          · exact ⟨.inl h, hM.apart y x h (by simp)⟩
          · exact ⟨.inr (by simp [h]), (hdep y h).2.2⟩
        · rintro ⟨h | h, hne⟩
          · exact .inl h
          · rcases List.mem_cons.1 h with rfl | h
            · exact absurd rfl hne
            · exact .inr h
end Go.Px
