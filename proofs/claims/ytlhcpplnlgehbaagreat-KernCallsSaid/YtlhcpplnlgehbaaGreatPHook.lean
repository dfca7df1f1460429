/- A call whose answer is a truth, and that leaves all old blocks as they were: its contract as a hook. -/
import Derived.Test.YtlhcpplnlgehbaaGreatPFast
namespace Go.Px
open Go Go.RowKit

variable {P : Program} {F : Facts} {G : (Nat → Int) → Prop} {V : Val} {B : Nat} {w0 w : World} {H : Hp}

theorem WRel.grow (hW : WRel B w0 V H w) {w' : World} (hb : Below w.heap.size w w') (hz : ∀ (b : Nat) arr el z, w.heap.size ≤ b → w'.heap[b]? = some (.cells arr el z) → z = (0, 0)) : WRel B w0 V H w' := by
  refine ⟨hW.below.trans (hb.mono hW.size), Nat.le_trans hW.size hb.size, hW.next, fun id b base S h => Nat.lt_of_lt_of_le (hW.lt id b base S h) hb.size, fun id o b base S h1 h2 => ?_, hW.inj, fun b arr el z hB h => ?_⟩
  · obtain ⟨x, h3, h4⟩ := hW.obj id o b base S h1 h2
    exact ⟨x, by rw [hb.block b (hW.lt id b base S h2)]; exact h3, h4⟩
  · by_cases hlt : b < w.heap.size
    · rw [hb.block b hlt] at h
      exact hW.fz b arr el z hB h
    · exact hz b arr el z (by omega) h

noncomputable def hookTrue (args : List AVal) (H : Hp) : Option (AVal × Hp) := match args with
  | [] => some (.bool true, H)
  | _ => none

theorem hookTrue_ok {f : FuncId} (hf : Callable P f) (h : ∀ w, Calls P f #[] w fun e w' => e = .returned (.bool true) ∧ Below w.heap.size w w' ∧ ∀ b arr el z, w.heap.size ≤ b → w'.heap[b]? = some (.cells arr el z) → z = (0, 0)) :
    CallOk P F G B w0 fun f' args H => if f' = f then hookTrue args H else none := by
  intro f' args H v H' hh
  simp only at hh
  split at hh
  case isFalse => cases hh
  rename_i hf'
  subst hf'
  unfold hookTrue at hh
  split at hh
  case h_2 => cases hh
  cases hh
  refine ⟨hf, fun V w args' hF hW hl => ?_⟩
  have e : args' = #[] := by
    cases ha : args'.toList with
    | nil => exact Array.toList_inj.1 ha
    | cons x l => rw [ha] at hl; cases hl
  subst e
  refine (h w).mono fun e w' he => ?_
  obtain ⟨rfl, h1, h2⟩ := he
  exact ⟨V, _, rfl, .refl V _, hW.grow h1 h2, .bool true⟩
end Go.Px
