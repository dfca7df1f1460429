/- Operations that turn nothing: slices, maps that are read, parts. -/
import Derived.Test.YtlhcpplnlgehbaaGreatPQuiet3
namespace Go.Px
open Go Go.RowKit

variable {P : Program} {F : Facts} {V : Val} {B : Nat} {w0 w : World} {H : Hp}

/-- An operand that may be left out. -/
inductive OptRel (V : Val) : Option AVal → Option Value → Prop
  | none : OptRel V none none
  | some {a v} (h : VRel V a v) : OptRel V (some a) (some v)


theorem run_bound {v : Value} {k : IntKind} {n y : Nat} (hv : v = .int k (n : Int)) (hy : n ≤ y) (c : BoundsCode) (w : World) : (Instr.sliceBound v y c).run P w = .ok n w := by
  subst hv
  simp only [Instr.sliceBound, asIntOf, Sem.run_bind, Sem.run_pure, Result.andThen_ok]
  rw [if_pos ⟨by omega, by omega⟩]
  simp

theorem bounds_sound {len cap : Nat} {cap' : Option Nat} (hc : ∀ c, cap' = some c → cap = c) (hl : len ≤ cap) {lo hi mx : Option AVal} {vl vh vm : Option Value}
    (h1 : OptRel V lo vl) (h2 : OptRel V hi vh) (h3 : OptRel V mx vm) {l h : Nat} {m : Option Nat} (hb : boundsA len cap' lo hi mx = some (l, h, m)) (isS : Bool) (w : World) :
    ∃ M, (Instr.sliceBounds isS len cap vl vh vm).run P w = .ok (l, h, M) w ∧ (∀ c, m = some c → M = c) ∧ (m = none → M = cap ∧ h ≤ len) ∧ l ≤ h ∧ h ≤ M ∧ M ≤ cap := by
  unfold boundsA at hb
  split at hb
  · cases hb
  · rename_i hno
    split at hb
    · cases hb
    · rename_i m' hm
      split at hb
      · cases hb
      · rename_i h' hh
        split at hb
        · cases hb
        · rename_i l' hl'
          cases hb
          have key : ∃ M, (match vm with
              | some v => Instr.sliceBound v cap (if isS then .slice3Acap else .slice3Alen)
              | none => pure cap : Sem Nat).run P w = .ok M w ∧ (∀ c, m = some c → M = c) ∧ (m = none → M = cap) ∧ M ≤ cap ∧ endOf len m ≤ M := by
            cases h3 with
            | none =>
              cases hm
              refine ⟨cap, rfl, fun c hc' => hc c hc', fun _ => rfl, Nat.le_refl _, ?_⟩
              cases cap' with
              | some c => exact Nat.le_of_eq (hc c rfl).symm
              | none => exact hl
            | some hv =>
              unfold endA at hm
              simp only at hm
              split at hm
              · rename_i n hn
                cases hle : Nat.ble n (endOf len cap') with
                | false => rw [hle] at hm; cases hm
                | true =>
                  rw [hle] at hm
                  cases hm
                  have hle := Nat.le_of_ble_eq_true hle
                  have hle' : n ≤ cap := by
                    cases cap' with
                    | some c => have := hc c rfl; simp only [endOf] at hle; omega
                    | none => simp only [endOf] at hle; omega
                  obtain ⟨k, hk⟩ := natOf_some hn hv
                  exact ⟨n, run_bound hk hle' _ w, (fun c hc' => by cases hc'; rfl), (fun h => nomatch h), hle', Nat.le_refl _⟩
              · cases hm
          obtain ⟨M, r1, hM1, hM2, hM3, hM4⟩ := key
          have keyh : (h ≤ endOf len m) ∧ (match vh, vm with
              | some v, some _ => Instr.sliceBound v M .slice3B
              | some v, none => Instr.sliceBound v M (if isS then .sliceAcap else .sliceAlen)
              | none, none => pure len
              | none, some _ => stuck "Slice: max without high" : Sem Nat).run P w = .ok h w := by
            cases h2 with
            | none =>
              cases hh
              cases h3 with
              | none =>
                cases hm
                refine ⟨?_, rfl⟩
                cases cap' with
                | some c => have := hc c rfl; show len ≤ c; omega
                | none => exact Nat.le_refl _
              | some hv => exact absurd rfl (hno _ rfl)
            | some hv =>
              simp only [boundA] at hh
              split at hh
              · rename_i n hn
                cases hle : Nat.ble n (endOf len m) with
                | false => rw [hle] at hh; cases hh
                | true =>
                  rw [hle] at hh
                  cases hh
                  have hle := Nat.le_of_ble_eq_true hle
                  obtain ⟨k, hk⟩ := natOf_some hn hv
                  refine ⟨hle, ?_⟩
                  cases h3 with
                  | none => exact run_bound hk (Nat.le_trans hle hM4) _ w
                  | some _ => exact run_bound hk (Nat.le_trans hle hM4) _ w
              · cases hh
          obtain ⟨hhle, r2⟩ := keyh
          have keyl : l ≤ h ∧ (match vl with
              | some v => Instr.sliceBound v h (if vm.isSome then .slice3C else .sliceB)
              | none => pure 0 : Sem Nat).run P w = .ok l w := by
            cases h1 with
            | none => cases hl'; exact ⟨Nat.zero_le _, rfl⟩
            | some hv =>
              simp only [boundA] at hl'
              split at hl'
              · rename_i n hn
                cases hle : Nat.ble n h with
                | false => rw [hle] at hl'; cases hl'
                | true =>
                  rw [hle] at hl'
                  cases hl'
                  have hle := Nat.le_of_ble_eq_true hle
                  obtain ⟨k, hk⟩ := natOf_some hn hv
                  exact ⟨hle, run_bound hk hle _ w⟩
              · cases hl'
          obtain ⟨hlh, r3⟩ := keyl
          refine ⟨M, ?_, hM1, fun e => ⟨hM2 e, by subst e; exact hhle⟩, hlh, Nat.le_trans hhle hM4, hM3⟩
          unfold Instr.sliceBounds
          cases vm <;> cases vh <;> cases vl <;> first
            | (exfalso; simp [stuck] at r2; done)
            | (simp only [Sem.run_pure, Result.ok.injEq, and_true] at r1 r2 r3; subst_vars; simp_all; done)
            | (simp_all; done)
end Go.Px
