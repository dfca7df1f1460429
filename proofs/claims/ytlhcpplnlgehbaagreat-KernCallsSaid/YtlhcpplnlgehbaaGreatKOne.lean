import Derived.Test.YtlhcpplnlgehbaaGreatPFast
import Derived.Test.YtlhcpplnlgehbaaGreatRows
import Derived.WalkKit
import Derived.ProofKit
namespace Go.Proofs.YtlhcpplnlgehbaaGreat
open Go.RowKit Go.Px
theorem tmod_cases (v n : Int) (hn : 1 ≤ n) : v.tmod n = v % n ∨ v.tmod n = v % n - n := by
  rw [Int.tmod_eq_emod]
  split
  · left; simp
  · right
    have : (n.natAbs : Int) = n := by omega
    rw [this]
theorem within_spec (v n : Int) (hn : 1 ≤ n) (hn2 : n ≤ 1000000) (w : World) :
    Calls Tryz.prog 15 #[.int .i64 v, .int .i64 n] w fun e w' => e = .returned (.int .i64 (v % n)) ∧ w' = w := by
  have hc := tmod_cases v n hn
  have e0 := Int.emod_nonneg v (show n ≠ 0 by omega)
  have e1 := Int.emod_lt_of_pos v (show 0 < n by omega)
  by_cases h : Int.tmod v n < 0
  · have e : wrap64 (v.tmod n + n) = v % n := by
      have : v.tmod n + n = v % n := by omega
      rw [this]; unfold wrap64; omega
    clear hc e0 e1
    go_enter Tryz.func15, Tryz.ntmps15
    go_wp2
    go_ret
    refine ⟨?_, rfl⟩
    rw [← e]; rfl
  · have e : v.tmod n = v % n := by omega
    clear hc e0 e1
    go_enter Tryz.func15, Tryz.ntmps15
    go_wp2
    go_ret
    refine ⟨?_, rfl⟩
    rw [← e]; rfl

noncomputable section
def tok (i : Nat) : AVal := .int .i64 (.lin 1 i 0)
def lit (n : Int) : AVal := .int .i64 (.lit n)
/-- 'Within' of the first token is the second. -/
def hookW (n : Int) (args : List AVal) (H : Hp) : Option (AVal × Hp) := match args with
  | [a, b] => bif avEq a (tok 0) && avEq b (lit n) then some (tok 1, H) else none
  | _ => none
def hook (n : Int) : Hooks := fun f => bif Nat.beq f 15 then some (hookW n) else none
end

theorem fnsOk : Tryz.prog.funcs.toList.all funcOk = true := by kernel_rfl
theorem pok : POk Tryz.prog := by
  refine ⟨fun f fn h => ?_, Tryz.checked.mixed⟩
  have := fnsOk
  rw [List.all_eq_true] at this
  exact this fn (List.mem_of_getElem? (by rw [Array.getElem?_toList]; exact h))

theorem callable15 : Callable Tryz.prog 15 := ⟨Tryz.f15, Tryz.func15, by kernel_rfl, by kernel_rfl⟩

theorem hook_ok {F : Facts} {n : Int} (hn : 1 ≤ n) (hn2 : n ≤ 1000000) (B : Nat) (w0 : World) : HookOk Tryz.prog F (fun ρ => ρ 1 = ρ 0 % n) B w0 (hook n) := by
  intro f g hg
  unfold hook at hg
  cases hf : Nat.beq f 15 with
  | false => rw [hf] at hg; cases hg
  | true =>
    rw [hf] at hg
    cases hg
    have := Nat.eq_of_beq_eq_true hf
    subst this
    intro f' args H v H' h
    simp only at h
    split at h
    case isFalse => cases h
    rename_i hf'
    subst hf'
    refine ⟨callable15, fun V w args' hF hW hl => ?_⟩
    unfold hookW at h
    split at h
    case h_2 => cases h
    rename_i a b
    cases hc : avEq a (tok 0) && avEq b (lit n) with
    | false => rw [hc] at h; cases h
    | true =>
      rw [hc] at h
      cases h
      rw [Bool.and_eq_true] at hc
      obtain rfl := avEq_eq hc.1
      obtain rfl := avEq_eq hc.2
      cases hargs : args'.toList with
      | nil => rw [hargs] at hl; cases hl
      | cons x l =>
        rw [hargs] at hl
        cases hl with
        | cons hx hl =>
        cases hl with
        | cons hy hl =>
        cases hl
        have e1 := hx.inv_int
        have e2 := hy.inv_int
        have e : args' = #[.int .i64 (V.ρ 0), .int .i64 n] := by
          apply Array.toList_inj.1
          rw [hargs, e1, e2]
          simp [SInt.ev]
        rw [e]
        refine (within_spec (V.ρ 0) n hn hn2 w).mono fun e w' he => ?_
        obtain ⟨rfl, rfl⟩ := he
        refine ⟨V, _, rfl, .refl V _, hW, ?_⟩
        have := VRel.int (V := V) .i64 (.lin 1 1 0)
        have hG : V.ρ 1 = V.ρ 0 % n := hF.2
        simpa [tok, SInt.ev, hG] using this

/-- A law of one number and one truth, run by the abstract run. -/
theorem law_one {K : FuncId} {n : Int} (hn : 1 ≤ n) (hn2 : n ≤ 1000000) (a0 : Int) (w0 : (Lit.int .i64 a0).wf = true) (a1 : Bool) {k : Nat}
    (h : trueF ((execF Tryz.prog [(-9223372036854775808, 9223372036854775807), (0, n - 1)] (hook n) k).call K [tok 0, .bool a1] ⟨.nil, 0⟩) = true) (w : World) :
    Calls Tryz.prog K #[.int .i64 a0, .bool a1] w fun e w' => e = .returned (.bool true) ∧ Grown w w' := by
  obtain ⟨H', h⟩ := trueF_exec h
  have hw : -9223372036854775808 ≤ a0 ∧ a0 ≤ 9223372036854775807 := by
    simp only [Lit.wf, IntKind.min, IntKind.max, IntKind.signed, IntKind.bits, Bool.and_eq_true, decide_eq_true_eq, if_true] at w0
    omega
  have e0 := Int.emod_nonneg a0 (show n ≠ 0 by omega)
  have e1 := Int.emod_lt_of_pos a0 (show 0 < n by omega)
  have hF : FG [(-9223372036854775808, 9223372036854775807), (0, n - 1)] (fun ρ => ρ 1 = ρ 0 % n) (fun i => if i = 0 then a0 else a0 % n) := by
    refine ⟨fun i lo hi hi' => ?_, by simp⟩
    match i, hi' with
    | 0, hi' => simp at hi'; obtain ⟨rfl, rfl⟩ := hi'; simpa using hw
    | 1, hi' => simp at hi'; obtain ⟨rfl, rfl⟩ := hi'; simp; omega
    | i + 2, hi' => simp at hi'
  refine (calls_true pok hF (fun B w0 => hook_ok hn hn2 B w0) h ?_ w).mono fun e w' he => ?_
  · have hx := VRel.int (V := ⟨fun i => if i = 0 then a0 else a0 % n, fun _ => none⟩) .i64 (.lin 1 0 0)
    have hx' : VRel ⟨fun i => if i = 0 then a0 else a0 % n, fun _ => none⟩ (tok 0) (.int .i64 a0) := by simpa [SInt.ev, tok] using hx
    exact .cons hx' (.cons (.bool a1) .nil)
  · obtain ⟨h1, h2, h3⟩ := he
    exact ⟨h1, grown_of h2 h3⟩
end Go.Proofs.YtlhcpplnlgehbaaGreat
