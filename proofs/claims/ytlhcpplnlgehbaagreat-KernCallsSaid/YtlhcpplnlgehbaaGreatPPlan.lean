/- The plan of a region whose order is drawn: what its marks say. -/
import Derived.Test.YtlhcpplnlgehbaaGreatPRun
namespace Go.Px
open Go Go.RowKit

theorem bindsAny_eq (e : Edge) : Region.binds .any e = bindsAny e := by
  obtain ⟨on, g⟩ := e
  cases g <;> rfl

theorem testBit_one_shl (n i : Nat) : (1 <<< n).testBit i = true → i = n := by
  intro h
  rw [Nat.testBit_shiftLeft] at h
  simp only [Bool.and_eq_true, decide_eq_true_eq] at h
  have := Nat.testBit_one_eq_true_iff_self_eq_zero.1 h.2
  omega

theorem maskE_spec {acc : List It} : ∀ {es : List Edge} {s : Nat}, maskE acc es = some s →
    (∀ e, e ∈ es → bindsAny e = true → ∃ y, acc[e.on]? = some y) ∧ (∀ i, s.testBit i = true → ∃ e, e ∈ es ∧ bindsAny e = true ∧ ∃ y, acc[e.on]? = some y ∧ (i = e.on ∨ y.m.testBit i = true)) := by
  intro es
  induction es with
  | nil => intro s h; cases h; exact ⟨fun e h => by simp at h, fun i h => by simp at h⟩
  | cons e es ih =>
    intro s h
    simp only [maskE] at h
    cases h1 : maskE acc es with
    | none => rw [h1] at h; cases h
    | some s1 =>
      rw [h1] at h
      obtain ⟨ih1, ih2⟩ := ih h1
      cases hb : bindsAny e with
      | false =>
        simp only [hb, cond_false, Option.some.injEq] at h
        subst h
        refine ⟨fun e' he' hb' => ?_, fun i hi => ?_⟩
        · rcases List.mem_cons.1 he' with rfl | he'
          · rw [hb] at hb'; cases hb'
          · exact ih1 e' he' hb'
        · obtain ⟨e', a, b⟩ := ih2 i hi
          exact ⟨e', List.mem_cons_of_mem _ a, b⟩
      | true =>
        simp only [hb, cond_true] at h
        split at h
        case h_2 => cases h
        rename_i y hy
        cases h
        refine ⟨fun e' he' hb' => ?_, fun i hi => ?_⟩
        · rcases List.mem_cons.1 he' with rfl | he'
          · exact ⟨y, hy⟩
          · exact ih1 e' he' hb'
        · rw [Nat.testBit_or, Nat.testBit_or, Bool.or_eq_true, Bool.or_eq_true] at hi
          rcases hi with hi | hi | hi
          · obtain ⟨e', a, b⟩ := ih2 i hi
            exact ⟨e', List.mem_cons_of_mem _ a, b⟩
          · exact ⟨e, by simp, hb, y, hy, .inl (testBit_one_shl _ _ hi)⟩
          · exact ⟨e, by simp, hb, y, hy, .inr hi⟩

/-- What a list of items says of a region. -/
structure Items (ops : Array Oper) (its : List It) : Prop where
  at_ : ∀ (k : Nat) x, its[k]? = some x → x.i = k ∧ ops[k]? = some x.o
  lin : ∀ (k : Nat) x, its[k]? = some x → ∀ e, e ∈ x.o.after.toList → bindsAny e = true → e.on < k
  bit : ∀ (k : Nat) x, its[k]? = some x → ∀ i, x.m.testBit i = true → ∃ e, e ∈ x.o.after.toList ∧ bindsAny e = true ∧ ∃ y, its[e.on]? = some y ∧ (i = e.on ∨ y.m.testBit i = true)

theorem itemsL_spec {ops : Array Oper} : ∀ {l : List Oper} {acc its : List It}, (∀ k, (ops.toList)[acc.length + k]? = l[k]?) → Items ops acc → itemsL l acc = some its → Items ops its ∧ its.length = acc.length + l.length := by
  intro l
  induction l with
  | nil => intro acc its _ hI h; cases h; exact ⟨hI, rfl⟩
  | cons o os ih =>
    intro acc its hl hI h
    simp only [itemsL] at h
    split at h
    case h_2 => cases h
    rename_i m hm
    obtain ⟨m1, m2⟩ := maskE_spec hm
    have old : ∀ (k : Nat) x, (acc ++ [(⟨acc.length, o, m⟩ : It)])[k]? = some x → acc[k]? = some x ∨ (k = acc.length ∧ x = ⟨acc.length, o, m⟩) := by
      intro k x hx
      by_cases hk : k < acc.length
      · rw [List.getElem?_append_left hk] at hx; exact .inl hx
      · rw [List.getElem?_append_right (by omega)] at hx
        cases hd : k - acc.length with
        | zero => rw [hd] at hx; simp at hx; exact .inr ⟨by omega, hx.symm⟩
        | succ n => rw [hd] at hx; simp at hx
    have keep : ∀ (k : Nat) y, acc[k]? = some y → (acc ++ [(⟨acc.length, o, m⟩ : It)])[k]? = some y := by
      intro k y hy
      rw [List.getElem?_append_left (List.getElem?_eq_some_iff.1 hy).1]; exact hy
    have := ih (acc := acc ++ [⟨acc.length, o, m⟩]) (its := its) (fun k => by
      have := hl (k + 1)
      simp only [List.length_append, List.length_singleton]
      rw [show acc.length + 1 + k = acc.length + (k + 1) by omega, this]; simp) ⟨?_, ?_, ?_⟩ h
    · obtain ⟨h1, h2⟩ := this
      exact ⟨h1, by simp at h2 ⊢; omega⟩
    · intro k x hx
      rcases old k x hx with hx | ⟨rfl, rfl⟩
      · exact hI.at_ k x hx
      · have := hl 0
        simp at this
        exact ⟨rfl, by simpa using this⟩
    · intro k x hx e he hb
      rcases old k x hx with hx | ⟨rfl, rfl⟩
      · exact hI.lin k x hx e he hb
      · obtain ⟨y, hy⟩ := m1 e he hb
        exact (List.getElem?_eq_some_iff.1 hy).1
    · intro k x hx i hi
      rcases old k x hx with hx | ⟨rfl, rfl⟩
      · obtain ⟨e, h1, h2, y, h3, h4⟩ := hI.bit k x hx i hi
        exact ⟨e, h1, h2, y, keep _ _ h3, h4⟩
      · obtain ⟨e, h1, h2, y, h3, h4⟩ := m2 i hi
        exact ⟨e, h1, h2, y, keep _ _ h3, h4⟩

theorem items_spec {ops : Array Oper} {its : List It} (h : itemsL ops.toList [] = some its) : Items ops its ∧ its.length = ops.size := by
  have := itemsL_spec (ops := ops) (acc := []) (by simp) ⟨by simp, by simp, by simp⟩ h
  simpa using this

/-- What comes before is done. -/
theorem Items.done {ops : Array Oper} {its : List It} (hI : Items ops its) {S : Nat → Prop} (hS : ∀ (k : Nat) x, its[k]? = some x → S k → ∀ e, e ∈ x.o.after.toList → bindsAny e = true → S e.on) :
    ∀ (k : Nat) x, its[k]? = some x → (∀ e, e ∈ x.o.after.toList → bindsAny e = true → S e.on) → ∀ i, x.m.testBit i = true → S i := by
  intro k
  induction k using Nat.strongRecOn with
  | _ k ih =>
    intro x hx hr i hi
    obtain ⟨e, h1, h2, y, h3, h4⟩ := hI.bit k x hx i hi
    have hs := hr e h1 h2
    rcases h4 with rfl | h4
    · exact hs
    · exact ih e.on (hI.lin k x hx e h1 h2) y h3 (hS e.on y h3 hs) i h4

theorem firstChain_some {l : List It} {c : It} (h : firstChain l = some c) : c ∈ l ∧ chainOp c.o.op = true := by
  induction l with
  | nil => cases h
  | cons x l ih =>
    simp only [firstChain] at h
    cases hx : chainOp x.o.op with
    | true => simp only [hx, cond_true, Option.some.injEq] at h; subst h; exact ⟨by simp, hx⟩
    | false => simp only [hx, cond_false] at h; exact ⟨by simp [(ih h).1], (ih h).2⟩

theorem firstChain_none {l : List It} (h : firstChain l = none) : ∀ x, x ∈ l → chainOp x.o.op = false := by
  induction l with
  | nil => intro x hx; simp at hx
  | cons y l ih =>
    intro x hx
    simp only [firstChain] at h
    cases hy : chainOp y.o.op with
    | true => simp [hy] at h
    | false =>
      simp only [hy, cond_false] at h
      rcases List.mem_cons.1 hx with rfl | hx
      · exact hy
      · exact ih h x hx

theorem testBit_shl (n : Nat) : (1 <<< n).testBit n = true := by
  rw [Nat.testBit_shiftLeft]
  simp
theorem maskL_mem {l : List It} {x : It} (h : x ∈ l) : (maskL l).testBit x.i = true := by
  induction l with
  | nil => simp at h
  | cons y l ih =>
    simp only [maskL, Nat.testBit_or, Bool.or_eq_true]
    rcases List.mem_cons.1 h with rfl | h
    · exact .inl (testBit_shl _)
    · exact .inr (ih h)
theorem land_zero {a b i : Nat} (h : Nat.beq (Nat.land a b) 0 = true) (hb : b.testBit i = true) : a.testBit i = false := by
  have h0 : a &&& b = 0 := Nat.eq_of_beq_eq_true h
  have := congrArg (fun n => n.testBit i) h0
  simp only [Nat.testBit_and, hb, Bool.and_true, Nat.zero_testBit] at this
  exact this
theorem sepM_spec {M : Nat} : ∀ {l : List It} {N : Nat}, sepM M l = some N → (∀ i, M.testBit i = true → N.testBit i = true) ∧ (∀ x, x ∈ l → N.testBit x.i = true) ∧ l.Pairwise (fun p x => p.m.testBit x.i = false) ∧ ∀ p, p ∈ l → ∀ i, M.testBit i = true → p.m.testBit i = false := by
  intro l
  induction l with
  | nil => intro N h; cases h; exact ⟨fun _ h => h, fun x h => by simp at h, .nil, fun p h => by simp at h⟩
  | cons p l ih =>
    intro N h
    simp only [sepM] at h
    split at h
    · cases h
    rename_i N1 h1
    obtain ⟨a1, a2, a3, a4⟩ := ih h1
    cases hb : Nat.beq (Nat.land p.m N1) 0 with
    | false => rw [hb] at h; cases h
    | true =>
      rw [hb] at h; cases h
      have up : ∀ i, N1.testBit i = true → (1 <<< p.i ||| N1).testBit i = true := fun i hi => by rw [Nat.testBit_or, hi, Bool.or_true]
      refine ⟨fun i hi => up i (a1 i hi), fun x hx => ?_, .cons (fun x hx => land_zero hb (a2 x hx)) a3, fun q hq i hi => ?_⟩
      · rcases List.mem_cons.1 hx with rfl | hx
        · rw [Nat.testBit_or, testBit_shl, Bool.true_or]
        · exact up _ (a2 x hx)
      · rcases List.mem_cons.1 hq with rfl | hq
        · exact land_zero hb (a1 i hi)
        · exact a4 q hq i hi

theorem looksD_mem {ops : Array Oper} {o : Oper} {d : Nat} (h : looksD ops o d = false) : (.tmp d ∉ o.op.operands) ∧ ∀ g want q, o.guard = some (g, want) → ops[g]? = some q → q.dst ≠ some d := by
  simp only [looksD, Bool.or_eq_false_iff] at h
  refine ⟨fun hm => ?_, fun g want q h1 h2 h3 => ?_⟩
  · have := h.1
    rw [List.any_eq_false] at this
    exact this (.tmp d) (by simpa using hm) (by simp [isTmp])
  · have := h.2
    rw [h1] at this
    simp only [h2, h3] at this
    simp at this

/-- Operations apart: one that writes what another looks at comes before it. -/
structure Apart (ops : Array Oper) (its : List It) : Prop where
  look : ∀ x, x ∈ its → ∀ y, y ∈ its → ∀ d, x.o.dst = some d → looksD ops y.o d = true → y.m.testBit x.i = true
  dst : ∀ x, x ∈ its → ∀ y, y ∈ its → ∀ d, x.o.dst = some d → y.o.dst = some d → x.i = y.i

theorem writers_spec : ∀ {l : List It} {W : Tr Nat}, writers l = some W → ∀ x, x ∈ l → ∀ d, x.o.dst = some d → W.get d = some x.i := by
  intro l
  induction l with
  | nil => intro W _ x hx; simp at hx
  | cons y l ih =>
    intro W h x hx d hd
    simp only [writers] at h
    split at h
    · cases h
    rename_i W1 h1
    split at h
    · rename_i hn
      cases h
      rcases List.mem_cons.1 hx with rfl | hx
      · rw [hn] at hd; cases hd
      · exact ih h1 x hx d hd
    · rename_i e he
      split at h
      case h_2 => cases h
      rename_i hg
      cases h
      rw [Tr.get_set]
      rcases List.mem_cons.1 hx with rfl | hx
      · rw [he] at hd; cases hd; rw [if_pos rfl]
      · have := ih h1 x hx d hd
        by_cases hde : d = e
        · subst hde; rw [hg] at this; cases this
        · rw [if_neg hde]; exact this

theorem apartAll_spec {ops : Array Oper} {its : List It} (h : apartAll ops its = true) : Apart ops its := by
  unfold apartAll at h
  split at h
  · cases h
  rename_i W hW
  have hw := writers_spec hW
  simp only [List.all_eq_true, Bool.and_eq_true] at h
  refine ⟨fun x hx y hy d hd hl => ?_, fun x hx y hy d hd he => ?_⟩
  · obtain ⟨h1, h2⟩ := h y hy
    have hg := hw x hx d hd
    simp only [looksD, Bool.or_eq_true, List.any_eq_true] at hl
    rcases hl with ⟨o, ho, ht⟩ | hl
    · have := h1 o ho
      cases o with
      | tmp t =>
        have := Nat.eq_of_beq_eq_true ht
        subst this
        simpa [opndOk, lookOk, hg] using h1 (.tmp t) ho
      | _ => cases ht
    · unfold guardOk at h2
      split at hl
      · rename_i g want hgd
        rw [hgd] at h2
        split at hl
        · rename_i q hq
          simp only [hq] at h2
          split at hl
          · rename_i e he
            have := Nat.eq_of_beq_eq_true hl
            subst this
            simpa [he, lookOk, hg] using h2
          · cases hl
        · cases hl
      · cases hl
  · have h1 := hw x hx d hd
    have h2 := hw y hy d he
    rw [h1] at h2
    exact Option.some.inj h2
end Go.Px
