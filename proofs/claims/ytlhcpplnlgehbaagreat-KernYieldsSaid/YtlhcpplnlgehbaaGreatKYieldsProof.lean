/- The law KernYields: for all numbers and truths the Go text answers true and leaves what it was given as it was. No condition. The walk is the abstract run of KYields, sound by PTop. -/
import Derived.Test.YtlhcpplnlgehbaaGreatRows
import Derived.WalkKit
import Derived.ProofKit
import Derived.OpenShut
import Derived.Test.YtlhcpplnlgehbaaGreatKYieldsa
import Derived.Test.YtlhcpplnlgehbaaGreatKYieldsb
import Derived.Test.YtlhcpplnlgehbaaGreatKYieldsc
import Derived.Test.YtlhcpplnlgehbaaGreatKYieldsd
import Derived.Test.YtlhcpplnlgehbaaGreatKYieldsFacts
namespace Go.Proofs.YtlhcpplnlgehbaaGreat.kernYields
open Go.ChangeShapes Go.WideShapes Go.ChangeAt Go.RowKit
set_option linter.unusedVariables false      -- a walk need not use every 'w<i>' (that an integer argument fits its kind)

theorem own : ownKnob Tryz.prog.godebug = none := by kernel_rfl

/-! ### STEP 1: THE WALK: the Go text returns true. -/
theorem walk (a0 : Int) (a1 : Int) (a2 : Int) (a3 : Bool) (w0 : (Lit.int .i64 a0).wf = true) (w1 : (Lit.int .i64 a1).wf = true) (w2 : (Lit.int .i64 a2).wf = true) (w : World) :
    Calls Tryz.prog 4 #[.int .i64 a0, .int .i64 a1, .int .i64 a2, .bool a3] w fun e w' => e = .returned (.bool true) ∧ Grown w w' :=
  by
  obtain ⟨c0, hc0, he0⟩ : ∃ c : Nat, c < 4 ∧ a0 % ((4 : Nat) : Int) = (c : Int) := ⟨(a0 % ((4 : Nat) : Int)).toNat, by omega, by omega⟩
  obtain ⟨c1, hc1, he1⟩ : ∃ c : Nat, c < 20 ∧ a1 % ((20 : Nat) : Int) = (c : Int) := ⟨(a1 % ((20 : Nat) : Int)).toNat, by omega, by omega⟩
  have hr0 : rhoP (casesL 4 4 ++ (casesL 20 20 ++ [(60000, none)])) (casesX 4 a0 4 ++ (casesX 20 a1 20 ++ [a2])) (2 * (0 + c0)) = a0 := by
    have e := cases_rho (n := 4) (a := a0) (casesL 20 20 ++ [(60000, none)]) (casesX 20 a1 20 ++ [a2]) 4 c0 (by omega) (by omega) hc0 he0
    rw [Nat.sub_self, Nat.sub_zero] at e
    have hk : 2 * (0 + c0) = 2 * c0 := by omega
    rw [hk]; exact e
  have hr1 : rhoP (casesL 4 4 ++ (casesL 20 20 ++ [(60000, none)])) (casesX 4 a0 4 ++ (casesX 20 a1 20 ++ [a2])) (2 * (4 + c1)) = a1 := by
    have e := cases_rho (n := 20) (a := a1) ([(60000, none)]) ([a2]) 20 c1 (by omega) (by omega) hc1 he1
    rw [Nat.sub_self, Nat.sub_zero] at e
    have e := (rhoP_append (casesL 4 4) (casesX 4 a0 4) (casesL 20 20 ++ [(60000, none)]) (casesX 20 a1 20 ++ [a2]) (casesX_len _ _ _) _).trans e
    rw [casesL_len] at e
    have hk : 2 * (4 + c1) = 2 * 4 + (2 * c1) := by omega
    rw [hk]; exact e
  refine law_many (casesL 4 4 ++ (casesL 20 20 ++ [(60000, none)])) (casesX 4 a0 4 ++ (casesX 20 a1 20 ++ [a2])) (cases_ok (L := casesL 20 20 ++ [(60000, none)]) (xs := casesX 20 a1 20 ++ [a2]) (by omega) (by omega) (wf_i64 w0) (cases_ok (L := [(60000, none)]) (xs := [a2]) (by omega) (by omega) (wf_i64 w1) ⟨⟨by omega, by omega, (wf_i64 w2).1, (wf_i64 w2).2, nofun⟩, trivial⟩ 20 (by omega)) 4 (by omega)) (.cons (tok_rel _ _ a0 hr0) (.cons (tok_rel _ _ a1 hr1) (.cons (tok_rel _ 48 a2 rfl) (.cons (.bool a3) .nil)))) (k := 200000) ?_ w
  clear hr0 he0 hr1 he1
  cases a3
  · have h : c0 = 0 ∨ c0 = 1 ∨ c0 = 2 ∨ c0 = 3 := by omega
    rcases h with rfl | rfl | rfl | rfl
    · have e := (allN_at runKYieldsF_0 c1 hc1)
      exact e
    · have e := (allN_at runKYieldsF_1 c1 hc1)
      exact e
    · have e := (allN_at runKYieldsF_2 c1 hc1)
      exact e
    · have e := (allN_at runKYieldsF_3 c1 hc1)
      exact e
  · have h : c0 = 0 ∨ c0 = 1 ∨ c0 = 2 ∨ c0 = 3 := by omega
    rcases h with rfl | rfl | rfl | rfl
    · have e := (allN_at runKYieldsT_0 c1 hc1)
      exact e
    · have e := (allN_at runKYieldsT_1 c1 hc1)
      exact e
    · have e := (allN_at runKYieldsT_2 c1 hc1)
      exact e
    · have e := (allN_at runKYieldsT_3 c1 hc1)
      exact e

/-! ### THE ROW's STEP: WRITTEN OUT: LEAVE IT -/
set_option maxRecDepth 100000 in
theorem lifted (os : Os) (started : os.Started) (H : Type) (enc : TypeId × Value → H) :
    ReturnsInHanded {} Tryz.checked os 4 .any (Rows.kernYieldsSpec.pre6 enc Tryz.prog Tryz.f4 Rows.kernYieldsRow.domain false) (Rows.kernYieldsSpec.post enc Tryz.prog Tryz.f4 false true false false) := by
  refine returnsInHanded_of_change (C := Tryz.checked) own started (by kernel_rfl) Tryz.func4
    (ChangeSpec.witness6 (enc := enc) (C := Tryz.checked) false ⟨#[], #[.int .i64 0, .int .i64 0, .int .i64 0, .bool false], []⟩ 8 (by kernel_rfl) (by kernel_rfl) (by kernel_rfl) (by kernel_rfl)) ?_
  intro W base args ds gs before hval0 hW hcnd _
  have hval : ∀ (j : Nat) t v, Tryz.f4.params[j]? = some t → args[j]? = some v → Value.okWide Tryz.prog W .any base t v := hval0
  have hW' := hW
  obtain ⟨p, q, hA0, hV, rfl, hfz, hnd⟩ := hW
  have hA : DataW.TrodAll enc Tryz.prog W 0 (fun _ => true) true Tryz.f4.params.toList args.toList ds p := hA0
  rw [Tryz.params4] at hA hval
  obtain ⟨v0, vs0, d0, ds0, p0, q0, hargs, rfl, rfl, h0, r0⟩ := trodAll_cons hA
  obtain ⟨v1, vs1, d1, ds1, p1, q1, rfl, rfl, rfl, h1, r1⟩ := trodAll_cons r0
  obtain ⟨v2, vs2, d2, ds2, p2, q2, rfl, rfl, rfl, h2, r2⟩ := trodAll_cons r1
  obtain ⟨v3, vs3, d3, ds3, p3, q3, rfl, rfl, rfl, h3, r3⟩ := trodAll_cons r2
  obtain ⟨rfl, rfl, rfl⟩ := trodAll_nil r3
  obtain rfl : args = #[v0, v1, v2, v3] := by cases args; simp_all
  obtain ⟨rfl, rfl⟩ := trodVars_none hV
  obtain ⟨a0, rfl, rfl, rfl, w0⟩ := open_int Tryz.underlying3 (hval 0 3 v0 rfl rfl) h0
  obtain ⟨a1, rfl, rfl, rfl, w1⟩ := open_int Tryz.underlying3 (hval 1 3 v1 rfl rfl) h1
  obtain ⟨a2, rfl, rfl, rfl, w2⟩ := open_int Tryz.underlying3 (hval 2 3 v2 rfl rfl) h2
  obtain ⟨a3, rfl, rfl, rfl⟩ := open_bool Tryz.underlying4 (hval 3 4 v3 rfl rfl) h3
  clear hA0 hval0
  simp only [List.append_nil] at hW'
  refine (walk a0 a1 a2 a3 w0 w1 w2 W).mono fun e W' ⟨he, hg⟩ => ?_
  subst he
  exact ⟨_, rfl, post_of_same (pa := []) (pv := []) hW' (fun _ _ _ => (trodAll_cons_mk (shut_bool Tryz.underlying4 _) trodAll_mk0)) (fun sp _ => (trodAll_cons_mk (shut_int Tryz.underlying3 w0) (trodAll_cons_mk (shut_int Tryz.underlying3 w1) (trodAll_cons_mk (shut_int Tryz.underlying3 w2) (trodAll_cons_mk (shut_bool Tryz.underlying4 _) trodAll_mk0))))) (fun _ _ => rfl) rfl
    (hg.frame _) hg.2.1 (ok_one (by kernel_rfl) rfl (okWide_bool_mk Tryz.underlying4 _))⟩

theorem over : Rows.kernYieldsRow.holds Tryz.pinned (OpenSpec.ofChange Rows.kernYieldsSpec) :=
  OpenClaim.holds_of_wide 4 Tryz.f4 rfl rfl rfl rfl rfl rfl rfl ⟨rfl, rfl, rfl, rfl, rfl⟩ rfl rfl rfl rfl rfl (by kernel_rfl) Tryz.func4 facts
    (of_decide_eq_true (by kernel_rfl)) (by unfold Func.isWrapper; first | (rw [if_pos (by decide +kernel)]; kernel_rfl) | (rw [if_neg (by decide +kernel)]; exact ⟨rfl, rfl⟩))
    (fun os started H enc _ => lifted os started H enc)

/-- ████ THE STATEMENT ████ -/
theorem proved : Rows.KernYieldsSaid :=
  over
end Go.Proofs.YtlhcpplnlgehbaaGreat.kernYields
