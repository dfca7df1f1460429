/- Symbolic integers: what is reckoned holds of every reading of the tokens. -/
import Derived.Test.YtlhcpplnlgehbaaGreatPWorld
namespace Go.Px
open Go Go.RowKit

theorem ilt_iff (a b : Int) : ilt a b = true ↔ a < b := by
  cases a with
  | ofNat m => cases b with
    | ofNat n => show Nat.blt m n = true ↔ _; rw [Nat.blt_eq]; exact Int.ofNat_lt.symm
    | negSucc n => exact ⟨fun h => absurd h Bool.false_ne_true, fun h => absurd h (by have := Int.negSucc_lt_zero n; have := Int.natCast_nonneg m; show ¬ ((m : Int) < _); omega)⟩
  | negSucc m => cases b with
    | ofNat n => exact ⟨fun _ => by have := Int.negSucc_lt_zero m; have := Int.natCast_nonneg n; show _ < (n : Int); omega, fun _ => rfl⟩
    | negSucc n => show Nat.blt n m = true ↔ _; rw [Nat.blt_eq, Int.negSucc_eq, Int.negSucc_eq]; omega
theorem ilt_false (a b : Int) : ilt a b = false ↔ b ≤ a := by
  cases h : ilt a b with
  | true => have := (ilt_iff a b).1 h; constructor <;> intro h' <;> first | cases h' | omega
  | false =>
    refine ⟨fun _ => ?_, fun _ => rfl⟩
    by_cases hh : a < b
    · rw [(ilt_iff a b).2 hh] at h; cases h
    · omega
theorem ibeq_iff (a b : Int) : ibeq a b = true ↔ a = b := by
  cases a with
  | ofNat m => cases b with
    | ofNat n => show Nat.beq m n = true ↔ _; rw [Nat.beq_eq]; exact ⟨fun h => by rw [h], fun h => Int.ofNat.inj h⟩
    | negSucc n => exact ⟨fun h => absurd h Bool.false_ne_true, fun h => by cases h⟩
  | negSucc m => cases b with
    | ofNat n => exact ⟨fun h => absurd h Bool.false_ne_true, fun h => by cases h⟩
    | negSucc n => show Nat.beq m n = true ↔ _; rw [Nat.beq_eq]; exact ⟨fun h => by rw [h], fun h => Int.negSucc.inj h⟩
theorem ibeq_eq (a b : Int) : ibeq a b = decide (a = b) := by
  rw [Bool.eq_iff_iff, ibeq_iff, decide_eq_true_eq]
theorem ilt_eq (a b : Int) : ilt a b = decide (a < b) := by
  rw [Bool.eq_iff_iff, ilt_iff, decide_eq_true_eq]

theorem kin_iff (k : IntKind) (z : Int) : kin k z = true ↔ kmin k ≤ z ∧ z ≤ kmax k := by
  unfold kin
  rw [ilt_eq, ilt_eq]
  by_cases h1 : z < kmin k
  · rw [decide_eq_true h1]; exact ⟨fun h => absurd h Bool.false_ne_true, fun h => by omega⟩
  · rw [decide_eq_false h1]
    by_cases h2 : kmax k < z
    · rw [decide_eq_true h2]; exact ⟨fun h => absurd h Bool.false_ne_true, fun h => by omega⟩
    · rw [decide_eq_false h2]; exact ⟨fun _ => by omega, fun _ => rfl⟩

theorem wrap_id {k : IntKind} {z : Int} (h : kin k z = true) : k.wrap z = z := by
  have h := (kin_iff k z).1 h
  have hs : ∀ (m M : Int) (c : Prop) [Decidable c], (c ↔ m ≤ z % M) → M = 2 * m → 0 < m → -m ≤ z → z < m → (if c then z % M - M else z % M) = z := by
    intro m M c _ hc hM hm h1 h2
    subst hM
    by_cases hz : 0 ≤ z
    · have : z % (2 * m) = z := Int.emod_eq_of_lt hz (by omega)
      rw [this] at hc ⊢
      rw [if_neg (by rw [hc]; omega)]
    · have : z % (2 * m) = z + 2 * m := by
        rw [← Int.add_emod_right]
        exact Int.emod_eq_of_lt (by omega) (by omega)
      rw [this] at hc ⊢
      rw [if_pos (by rw [hc]; omega)]
      omega
  have hu : ∀ (M : Int), 0 ≤ z → z < M → z % M = z := fun M h1 h2 => Int.emod_eq_of_lt h1 h2
  cases k <;> simp only [kmin, kmax] at h <;> simp only [IntKind.wrap, IntKind.bits, IntKind.signed, Bool.true_and, Bool.false_and, Bool.false_eq_true, if_false] <;>
    first
      | (refine hu _ h.1 ?_; simp only [Int.reducePow]; omega)
      | (refine hs (2 ^ 7) _ _ (by simp) (by decide) (by decide) ?_ ?_ <;> simp only [Int.reducePow] <;> omega)
      | (refine hs (2 ^ 15) _ _ (by simp) (by decide) (by decide) ?_ ?_ <;> simp only [Int.reducePow] <;> omega)
      | (refine hs (2 ^ 31) _ _ (by simp) (by decide) (by decide) ?_ ?_ <;> simp only [Int.reducePow] <;> omega)
      | (refine hs (2 ^ 63) _ _ (by simp) (by decide) (by decide) ?_ ?_ <;> simp only [Int.reducePow] <;> omega)

theorem SInt.mk_ev (ρ : Nat → Int) (a : Int) (i : Nat) (c : Int) : (SInt.mk a i c).ev ρ = a * ρ i + c := by
  unfold SInt.mk
  cases h : ibeq a 0 with
  | true => have := (ibeq_iff _ _).1 h; subst this; simp [SInt.ev]
  | false => rfl

theorem SInt.add_ev {ρ : Nat → Int} {x y r : SInt} (h : x.add y = some r) : r.ev ρ = x.ev ρ + y.ev ρ := by
  cases x <;> cases y <;> simp only [SInt.add] at h
  · cases h; rfl
  · cases h; simp only [SInt.ev]; omega
  · cases h; simp only [SInt.ev]; omega
  · rename_i a i c b j d
    cases e : Nat.beq i j with
    | false => rw [e] at h; cases h
    | true =>
      have := Nat.eq_of_beq_eq_true e
      subst this
      simp only [e, cond_true, Option.some.injEq] at h
      subst h
      rw [SInt.mk_ev]
      simp only [SInt.ev, Int.add_mul]
      omega
theorem SInt.sub_ev {ρ : Nat → Int} {x y r : SInt} (h : x.sub y = some r) : r.ev ρ = x.ev ρ - y.ev ρ := by
  cases x <;> cases y <;> simp only [SInt.sub] at h
  · cases h; rfl
  · cases h; simp only [SInt.ev, Int.neg_mul]; omega
  · cases h; simp only [SInt.ev]; omega
  · rename_i a i c b j d
    cases e : Nat.beq i j with
    | false => rw [e] at h; cases h
    | true =>
      have := Nat.eq_of_beq_eq_true e
      subst this
      simp only [e, cond_true, Option.some.injEq] at h
      subst h
      rw [SInt.mk_ev]
      simp only [SInt.ev, Int.sub_mul]
      omega
theorem SInt.mul_ev {ρ : Nat → Int} {x y r : SInt} (h : x.mul y = some r) : r.ev ρ = x.ev ρ * y.ev ρ := by
  cases x <;> cases y <;> simp only [SInt.mul] at h
  · cases h; rfl
  · cases h; rw [SInt.mk_ev]; simp only [SInt.ev, Int.mul_add, Int.mul_assoc]
  · cases h; rw [SInt.mk_ev]; simp only [SInt.ev, Int.add_mul]; rw [Int.mul_assoc, Int.mul_comm _ (ρ _), ← Int.mul_assoc, Int.mul_right_comm]
  · cases h

theorem SInt.span_ev {F : Facts} {ρ : Nat → Int} (hF : FOk F ρ) {x : SInt} {lo hi : Int} (h : x.span F = some (lo, hi)) : lo ≤ x.ev ρ ∧ x.ev ρ ≤ hi := by
  cases x with
  | lit z => cases h; exact ⟨Int.le_refl _, Int.le_refl _⟩
  | lin a i c =>
    simp only [SInt.span] at h
    split at h
    · cases h
    · rename_i l u hf
      obtain ⟨h1, h2⟩ := hF i l u hf
      simp only [SInt.ev]
      cases e : ilt a 0 with
      | true =>
        have ha := (ilt_iff _ _).1 e
        simp only [e, cond_true, Option.some.injEq, Prod.mk.injEq] at h
        obtain ⟨rfl, rfl⟩ := h
        have m1 := Int.mul_le_mul_of_nonpos_left (a := a) (b := u) (c := ρ i) (by omega) h2
        have m2 := Int.mul_le_mul_of_nonpos_left (a := a) (b := ρ i) (c := l) (by omega) h1
        omega
      | false =>
        have ha := (ilt_false _ _).1 e
        simp only [e, cond_false, Option.some.injEq, Prod.mk.injEq] at h
        obtain ⟨rfl, rfl⟩ := h
        have m1 := Int.mul_le_mul_of_nonneg_left h1 ha
        have m2 := Int.mul_le_mul_of_nonneg_left h2 ha
        omega

theorem SInt.lt_ev {F : Facts} {ρ : Nat → Int} (hF : FOk F ρ) {x y : SInt} {b : Bool} (h : SInt.lt F x y = some b) : b = decide (x.ev ρ < y.ev ρ) := by
  have gen : ∀ (d : SInt), x.sub y = some d → (match d.span F with
      | none => none
      | some (lo, hi) => bif ilt hi 0 then some true else bif ilt lo 0 then none else some false) = some b → b = decide (x.ev ρ < y.ev ρ) := by
    intro d hd h
    have e := SInt.sub_ev (ρ := ρ) hd
    cases hs : d.span F with
    | none => rw [hs] at h; cases h
    | some p =>
      obtain ⟨lo, hi⟩ := p
      obtain ⟨h1, h2⟩ := SInt.span_ev hF hs
      rw [hs] at h
      cases e1 : ilt hi 0 with
      | true =>
        have := (ilt_iff _ _).1 e1
        simp only [e1, cond_true, Option.some.injEq] at h
        subst h
        exact (decide_eq_true (by omega)).symm
      | false =>
        cases e2 : ilt lo 0 with
        | true => simp only [e1, e2, cond_true, cond_false] at h; cases h
        | false =>
          have := (ilt_false _ _).1 e2
          simp only [e1, e2, cond_false, Option.some.injEq] at h
          subst h
          exact (decide_eq_false (by omega)).symm
  unfold SInt.lt at h
  split at h
  · cases h; rw [ilt_eq]; rfl
  · split at h
    · cases h
    · rename_i d hd
      exact gen d hd h

theorem SInt.eq_ev {F : Facts} {ρ : Nat → Int} (hF : FOk F ρ) {x y : SInt} {b : Bool} (h : SInt.eq F x y = some b) : b = decide (x.ev ρ = y.ev ρ) := by
  unfold SInt.eq at h
  split at h
  · cases h; rw [ibeq_eq]; rfl
  · split at h
    · cases h
    · rename_i d hd
      have e := SInt.sub_ev (ρ := ρ) hd
      split at h
      · rename_i z
        cases h
        have e : z = x.ev ρ - y.ev ρ := e
        rw [ibeq_eq]
        by_cases hz : z = 0
        · rw [decide_eq_true hz, decide_eq_true (by omega)]
        · rw [decide_eq_false hz, decide_eq_false (by omega)]
      · cases hs : d.span F with
        | none => rw [hs] at h; cases h
        | some p =>
          obtain ⟨lo, hi⟩ := p
          obtain ⟨h1, h2⟩ := SInt.span_ev hF hs
          rw [hs] at h
          cases e1 : ilt hi 0 with
          | true =>
            have := (ilt_iff _ _).1 e1
            simp only [e1, cond_true, Option.some.injEq] at h
            subst h
            exact (decide_eq_false (by omega)).symm
          | false =>
            cases e2 : ilt 0 lo with
            | true =>
              have := (ilt_iff _ _).1 e2
              simp only [e1, e2, cond_true, cond_false, Option.some.injEq] at h
              subst h
              exact (decide_eq_false (by omega)).symm
            | false => simp only [e1, e2, cond_false] at h; cases h

theorem SInt.wrap_ev {F : Facts} {ρ : Nat → Int} (hF : FOk F ρ) {k : IntKind} {x r : SInt} (h : SInt.wrap F k x = some r) : r.ev ρ = k.wrap (x.ev ρ) := by
  unfold SInt.wrap at h
  split at h
  · rename_i z
    cases h
    cases e : kin k z with
    | true => simp only [cond_true, SInt.ev]; exact (wrap_id e).symm
    | false => simp only [cond_false, SInt.ev]
  · cases hs : SInt.span F x with
    | none => rw [hs] at h; cases h
    | some p =>
      obtain ⟨lo, hi⟩ := p
      obtain ⟨h1, h2⟩ := SInt.span_ev hF hs
      rw [hs] at h
      cases e1 : kin k lo && kin k hi with
      | false => simp only [e1, cond_false] at h; cases h
      | true =>
        simp only [e1, cond_true, Option.some.injEq] at h
        subst h
        rw [Bool.and_eq_true] at e1
        have a := (kin_iff _ _).1 e1.1
        have b := (kin_iff _ _).1 e1.2
        exact (wrap_id ((kin_iff _ _).2 ⟨by omega, by omega⟩)).symm
end Go.Px
