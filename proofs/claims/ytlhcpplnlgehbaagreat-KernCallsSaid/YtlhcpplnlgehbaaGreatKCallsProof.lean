/- The law KernCalls: for all numbers and truths the Go text answers true and leaves what it was given as it was. No condition. The walk is the abstract run of KCalls, sound by PTop. -/
import Derived.Test.YtlhcpplnlgehbaaGreatRows
import Derived.WalkKit
import Derived.ProofKit
import Derived.OpenShut
import Derived.Test.YtlhcpplnlgehbaaGreatKCallsa
import Derived.Test.YtlhcpplnlgehbaaGreatKCallsb
import Derived.Test.YtlhcpplnlgehbaaGreatKCallsc
import Derived.Test.YtlhcpplnlgehbaaGreatKCallsd
import Derived.Test.YtlhcpplnlgehbaaGreatKCallse
import Derived.Test.YtlhcpplnlgehbaaGreatKCallsf
import Derived.Test.YtlhcpplnlgehbaaGreatKCallsg
import Derived.Test.YtlhcpplnlgehbaaGreatKCallsh
import Derived.Test.YtlhcpplnlgehbaaGreatKCallsFacts
namespace Go.Proofs.YtlhcpplnlgehbaaGreat.kernCalls
open Go.ChangeShapes Go.WideShapes Go.ChangeAt Go.RowKit
set_option linter.unusedVariables false      -- a walk need not use every 'w<i>' (that an integer argument fits its kind)

theorem own : ownKnob Tryz.prog.godebug = none := by kernel_rfl

/-! ### STEP 1: THE WALK: the Go text returns true. -/
theorem walk (a0 : Int) (a1 : Int) (a2 : Int) (a3 : Int) (a4 : Bool) (w0 : (Lit.int .i64 a0).wf = true) (w1 : (Lit.int .i64 a1).wf = true) (w2 : (Lit.int .i64 a2).wf = true) (w3 : (Lit.int .i64 a3).wf = true) (w : World) :
    Calls Tryz.prog 5 #[.int .i64 a0, .int .i64 a1, .int .i64 a2, .int .i64 a3, .bool a4] w fun e w' => e = .returned (.bool true) ∧ Grown w w' :=
  by
  obtain ⟨c0, hc0, he0⟩ : ∃ c : Nat, c < 4 ∧ a0 % ((4 : Nat) : Int) = (c : Int) := ⟨(a0 % ((4 : Nat) : Int)).toNat, by omega, by omega⟩
  obtain ⟨c1, hc1, he1⟩ : ∃ c : Nat, c < 4 ∧ a1 % ((4 : Nat) : Int) = (c : Int) := ⟨(a1 % ((4 : Nat) : Int)).toNat, by omega, by omega⟩
  obtain ⟨c2, hc2, he2⟩ : ∃ c : Nat, c < 4 ∧ a2 % ((4 : Nat) : Int) = (c : Int) := ⟨(a2 % ((4 : Nat) : Int)).toNat, by omega, by omega⟩
  obtain ⟨c3, hc3, he3⟩ : ∃ c : Nat, c < 4 ∧ a3 % ((4 : Nat) : Int) = (c : Int) := ⟨(a3 % ((4 : Nat) : Int)).toNat, by omega, by omega⟩
  have hr0 : rhoP (casesL 4 4 ++ (casesL 4 4 ++ (casesL 4 4 ++ (casesL 4 4 ++ [])))) (casesX 4 a0 4 ++ (casesX 4 a1 4 ++ (casesX 4 a2 4 ++ (casesX 4 a3 4 ++ [])))) (2 * c0) = a0 := by
    have e := cases_rho (n := 4) (a := a0) (casesL 4 4 ++ (casesL 4 4 ++ (casesL 4 4 ++ []))) (casesX 4 a1 4 ++ (casesX 4 a2 4 ++ (casesX 4 a3 4 ++ []))) 4 c0 (by omega) (by omega) hc0 he0
    rw [Nat.sub_self, Nat.sub_zero] at e
    exact e
  have hr1 : rhoP (casesL 4 4 ++ (casesL 4 4 ++ (casesL 4 4 ++ (casesL 4 4 ++ [])))) (casesX 4 a0 4 ++ (casesX 4 a1 4 ++ (casesX 4 a2 4 ++ (casesX 4 a3 4 ++ [])))) (2 * (4 + c1)) = a1 := by
    have e := cases_rho (n := 4) (a := a1) (casesL 4 4 ++ (casesL 4 4 ++ [])) (casesX 4 a2 4 ++ (casesX 4 a3 4 ++ [])) 4 c1 (by omega) (by omega) hc1 he1
    rw [Nat.sub_self, Nat.sub_zero] at e
    have e := (rhoP_append (casesL 4 4) (casesX 4 a0 4) (casesL 4 4 ++ (casesL 4 4 ++ (casesL 4 4 ++ []))) (casesX 4 a1 4 ++ (casesX 4 a2 4 ++ (casesX 4 a3 4 ++ []))) (casesX_len _ _ _) _).trans e
    rw [casesL_len] at e
    have hk : 2 * (4 + c1) = 2 * 4 + (2 * c1) := by omega
    rw [hk]; exact e
  have hr2 : rhoP (casesL 4 4 ++ (casesL 4 4 ++ (casesL 4 4 ++ (casesL 4 4 ++ [])))) (casesX 4 a0 4 ++ (casesX 4 a1 4 ++ (casesX 4 a2 4 ++ (casesX 4 a3 4 ++ [])))) (2 * (8 + c2)) = a2 := by
    have e := cases_rho (n := 4) (a := a2) (casesL 4 4 ++ []) (casesX 4 a3 4 ++ []) 4 c2 (by omega) (by omega) hc2 he2
    rw [Nat.sub_self, Nat.sub_zero] at e
    have e := (rhoP_append (casesL 4 4) (casesX 4 a1 4) (casesL 4 4 ++ (casesL 4 4 ++ [])) (casesX 4 a2 4 ++ (casesX 4 a3 4 ++ [])) (casesX_len _ _ _) _).trans e
    rw [casesL_len] at e
    have e := (rhoP_append (casesL 4 4) (casesX 4 a0 4) (casesL 4 4 ++ (casesL 4 4 ++ (casesL 4 4 ++ []))) (casesX 4 a1 4 ++ (casesX 4 a2 4 ++ (casesX 4 a3 4 ++ []))) (casesX_len _ _ _) _).trans e
    rw [casesL_len] at e
    have hk : 2 * (8 + c2) = 2 * 4 + (2 * 4 + (2 * c2)) := by omega
    rw [hk]; exact e
  have hr3 : rhoP (casesL 4 4 ++ (casesL 4 4 ++ (casesL 4 4 ++ (casesL 4 4 ++ [])))) (casesX 4 a0 4 ++ (casesX 4 a1 4 ++ (casesX 4 a2 4 ++ (casesX 4 a3 4 ++ [])))) (2 * (12 + c3)) = a3 := by
    have e := cases_rho (n := 4) (a := a3) ([]) ([]) 4 c3 (by omega) (by omega) hc3 he3
    rw [Nat.sub_self, Nat.sub_zero] at e
    have e := (rhoP_append (casesL 4 4) (casesX 4 a2 4) (casesL 4 4 ++ []) (casesX 4 a3 4 ++ []) (casesX_len _ _ _) _).trans e
    rw [casesL_len] at e
    have e := (rhoP_append (casesL 4 4) (casesX 4 a1 4) (casesL 4 4 ++ (casesL 4 4 ++ [])) (casesX 4 a2 4 ++ (casesX 4 a3 4 ++ [])) (casesX_len _ _ _) _).trans e
    rw [casesL_len] at e
    have e := (rhoP_append (casesL 4 4) (casesX 4 a0 4) (casesL 4 4 ++ (casesL 4 4 ++ (casesL 4 4 ++ []))) (casesX 4 a1 4 ++ (casesX 4 a2 4 ++ (casesX 4 a3 4 ++ []))) (casesX_len _ _ _) _).trans e
    rw [casesL_len] at e
    have hk : 2 * (12 + c3) = 2 * 4 + (2 * 4 + (2 * 4 + (2 * c3))) := by omega
    rw [hk]; exact e
  refine law_boot (casesL 4 4 ++ (casesL 4 4 ++ (casesL 4 4 ++ (casesL 4 4 ++ [])))) (casesX 4 a0 4 ++ (casesX 4 a1 4 ++ (casesX 4 a2 4 ++ (casesX 4 a3 4 ++ [])))) (cases_ok (L := casesL 4 4 ++ (casesL 4 4 ++ (casesL 4 4 ++ []))) (xs := casesX 4 a1 4 ++ (casesX 4 a2 4 ++ (casesX 4 a3 4 ++ []))) (by omega) (by omega) (wf_i64 w0) (cases_ok (L := casesL 4 4 ++ (casesL 4 4 ++ [])) (xs := casesX 4 a2 4 ++ (casesX 4 a3 4 ++ [])) (by omega) (by omega) (wf_i64 w1) (cases_ok (L := casesL 4 4 ++ []) (xs := casesX 4 a3 4 ++ []) (by omega) (by omega) (wf_i64 w2) (cases_ok (L := []) (xs := []) (by omega) (by omega) (wf_i64 w3) trivial 4 (by omega)) 4 (by omega)) 4 (by omega)) 4 (by omega)) (.cons (tok_rel _ _ a0 hr0) (.cons (tok_rel _ _ a1 hr1) (.cons (tok_rel _ _ a2 hr2) (.cons (tok_rel _ _ a3 hr3) (.cons (.bool a4) .nil))))) (k := 200000) ?_ w
  clear hr0 he0 hr1 he1 hr2 he2 hr3 he3
  cases a4
  · have h : c1 = 0 ∨ c1 = 1 ∨ c1 = 2 ∨ c1 = 3 := by omega
    rcases h with rfl | rfl | rfl | rfl
    · have h : c2 = 0 ∨ c2 = 1 ∨ c2 = 2 ∨ c2 = 3 := by omega
      rcases h with rfl | rfl | rfl | rfl
      · have e := (allN_at (allN_at runKCallsF_0_0 c0 hc0) c3 hc3)
        exact e
      · have e := (allN_at (allN_at runKCallsF_0_1 c0 hc0) c3 hc3)
        exact e
      · have e := (allN_at (allN_at runKCallsF_0_2 c0 hc0) c3 hc3)
        exact e
      · have e := (allN_at (allN_at runKCallsF_0_3 c0 hc0) c3 hc3)
        exact e
    · have h : c2 = 0 ∨ c2 = 1 ∨ c2 = 2 ∨ c2 = 3 := by omega
      rcases h with rfl | rfl | rfl | rfl
      · have e := (allN_at (allN_at runKCallsF_1_0 c0 hc0) c3 hc3)
        exact e
      · have e := (allN_at (allN_at runKCallsF_1_1 c0 hc0) c3 hc3)
        exact e
      · have e := (allN_at (allN_at runKCallsF_1_2 c0 hc0) c3 hc3)
        exact e
      · have e := (allN_at (allN_at runKCallsF_1_3 c0 hc0) c3 hc3)
        exact e
    · have h : c2 = 0 ∨ c2 = 1 ∨ c2 = 2 ∨ c2 = 3 := by omega
      rcases h with rfl | rfl | rfl | rfl
      · have e := (allN_at (allN_at runKCallsF_2_0 c0 hc0) c3 hc3)
        exact e
      · have e := (allN_at (allN_at runKCallsF_2_1 c0 hc0) c3 hc3)
        exact e
      · have e := (allN_at (allN_at runKCallsF_2_2 c0 hc0) c3 hc3)
        exact e
      · have e := (allN_at (allN_at runKCallsF_2_3 c0 hc0) c3 hc3)
        exact e
    · have h : c2 = 0 ∨ c2 = 1 ∨ c2 = 2 ∨ c2 = 3 := by omega
      rcases h with rfl | rfl | rfl | rfl
      · have e := (allN_at (allN_at runKCallsF_3_0 c0 hc0) c3 hc3)
        exact e
      · have e := (allN_at (allN_at runKCallsF_3_1 c0 hc0) c3 hc3)
        exact e
      · have e := (allN_at (allN_at runKCallsF_3_2 c0 hc0) c3 hc3)
        exact e
      · have e := (allN_at (allN_at runKCallsF_3_3 c0 hc0) c3 hc3)
        exact e
  · have h : c1 = 0 ∨ c1 = 1 ∨ c1 = 2 ∨ c1 = 3 := by omega
    rcases h with rfl | rfl | rfl | rfl
    · have h : c2 = 0 ∨ c2 = 1 ∨ c2 = 2 ∨ c2 = 3 := by omega
      rcases h with rfl | rfl | rfl | rfl
      · have e := (allN_at (allN_at runKCallsT_0_0 c0 hc0) c3 hc3)
        exact e
      · have e := (allN_at (allN_at runKCallsT_0_1 c0 hc0) c3 hc3)
        exact e
      · have e := (allN_at (allN_at runKCallsT_0_2 c0 hc0) c3 hc3)
        exact e
      · have e := (allN_at (allN_at runKCallsT_0_3 c0 hc0) c3 hc3)
        exact e
    · have h : c2 = 0 ∨ c2 = 1 ∨ c2 = 2 ∨ c2 = 3 := by omega
      rcases h with rfl | rfl | rfl | rfl
      · have e := (allN_at (allN_at runKCallsT_1_0 c0 hc0) c3 hc3)
        exact e
      · have e := (allN_at (allN_at runKCallsT_1_1 c0 hc0) c3 hc3)
        exact e
      · have e := (allN_at (allN_at runKCallsT_1_2 c0 hc0) c3 hc3)
        exact e
      · have e := (allN_at (allN_at runKCallsT_1_3 c0 hc0) c3 hc3)
        exact e
    · have h : c2 = 0 ∨ c2 = 1 ∨ c2 = 2 ∨ c2 = 3 := by omega
      rcases h with rfl | rfl | rfl | rfl
      · have e := (allN_at (allN_at runKCallsT_2_0 c0 hc0) c3 hc3)
        exact e
      · have e := (allN_at (allN_at runKCallsT_2_1 c0 hc0) c3 hc3)
        exact e
      · have e := (allN_at (allN_at runKCallsT_2_2 c0 hc0) c3 hc3)
        exact e
      · have e := (allN_at (allN_at runKCallsT_2_3 c0 hc0) c3 hc3)
        exact e
    · have h : c2 = 0 ∨ c2 = 1 ∨ c2 = 2 ∨ c2 = 3 := by omega
      rcases h with rfl | rfl | rfl | rfl
      · have e := (allN_at (allN_at runKCallsT_3_0 c0 hc0) c3 hc3)
        exact e
      · have e := (allN_at (allN_at runKCallsT_3_1 c0 hc0) c3 hc3)
        exact e
      · have e := (allN_at (allN_at runKCallsT_3_2 c0 hc0) c3 hc3)
        exact e
      · have e := (allN_at (allN_at runKCallsT_3_3 c0 hc0) c3 hc3)
        exact e

/-! ### THE ROW's STEP: WRITTEN OUT: LEAVE IT -/
set_option maxRecDepth 100000 in
theorem lifted (os : Os) (started : os.Started) (H : Type) (enc : TypeId × Value → H) :
    ReturnsInHanded {} Tryz.checked os 5 .any (Rows.kernCallsSpec.pre6 enc Tryz.prog Tryz.f5 Rows.kernCallsRow.domain false) (Rows.kernCallsSpec.post enc Tryz.prog Tryz.f5 false true false false) := by
  refine returnsInHanded_of_change (C := Tryz.checked) own started (by kernel_rfl) Tryz.func5
    (ChangeSpec.witness6 (enc := enc) (C := Tryz.checked) false ⟨#[], #[.int .i64 0, .int .i64 0, .int .i64 0, .int .i64 0, .bool false], []⟩ 8 (by kernel_rfl) (by kernel_rfl) (by kernel_rfl) (by kernel_rfl)) ?_
  intro W base args ds gs before hval0 hW hcnd _
  have hval : ∀ (j : Nat) t v, Tryz.f5.params[j]? = some t → args[j]? = some v → Value.okWide Tryz.prog W .any base t v := hval0
  have hW' := hW
  obtain ⟨p, q, hA0, hV, rfl, hfz, hnd⟩ := hW
  have hA : DataW.TrodAll enc Tryz.prog W 0 (fun _ => true) true Tryz.f5.params.toList args.toList ds p := hA0
  rw [Tryz.params5] at hA hval
  obtain ⟨v0, vs0, d0, ds0, p0, q0, hargs, rfl, rfl, h0, r0⟩ := trodAll_cons hA
  obtain ⟨v1, vs1, d1, ds1, p1, q1, rfl, rfl, rfl, h1, r1⟩ := trodAll_cons r0
  obtain ⟨v2, vs2, d2, ds2, p2, q2, rfl, rfl, rfl, h2, r2⟩ := trodAll_cons r1
  obtain ⟨v3, vs3, d3, ds3, p3, q3, rfl, rfl, rfl, h3, r3⟩ := trodAll_cons r2
  obtain ⟨v4, vs4, d4, ds4, p4, q4, rfl, rfl, rfl, h4, r4⟩ := trodAll_cons r3
  obtain ⟨rfl, rfl, rfl⟩ := trodAll_nil r4
  obtain rfl : args = #[v0, v1, v2, v3, v4] := by cases args; simp_all
  obtain ⟨rfl, rfl⟩ := trodVars_none hV
  obtain ⟨a0, rfl, rfl, rfl, w0⟩ := open_int Tryz.underlying3 (hval 0 3 v0 rfl rfl) h0
  obtain ⟨a1, rfl, rfl, rfl, w1⟩ := open_int Tryz.underlying3 (hval 1 3 v1 rfl rfl) h1
  obtain ⟨a2, rfl, rfl, rfl, w2⟩ := open_int Tryz.underlying3 (hval 2 3 v2 rfl rfl) h2
  obtain ⟨a3, rfl, rfl, rfl, w3⟩ := open_int Tryz.underlying3 (hval 3 3 v3 rfl rfl) h3
  obtain ⟨a4, rfl, rfl, rfl⟩ := open_bool Tryz.underlying4 (hval 4 4 v4 rfl rfl) h4
  clear hA0 hval0
  simp only [List.append_nil] at hW'
  refine (walk a0 a1 a2 a3 a4 w0 w1 w2 w3 W).mono fun e W' ⟨he, hg⟩ => ?_
  subst he
  exact ⟨_, rfl, post_of_same (pa := []) (pv := []) hW' (fun _ _ _ => (trodAll_cons_mk (shut_bool Tryz.underlying4 _) trodAll_mk0)) (fun sp _ => (trodAll_cons_mk (shut_int Tryz.underlying3 w0) (trodAll_cons_mk (shut_int Tryz.underlying3 w1) (trodAll_cons_mk (shut_int Tryz.underlying3 w2) (trodAll_cons_mk (shut_int Tryz.underlying3 w3) (trodAll_cons_mk (shut_bool Tryz.underlying4 _) trodAll_mk0)))))) (fun _ _ => rfl) rfl
    (hg.frame _) hg.2.1 (ok_one (by kernel_rfl) rfl (okWide_bool_mk Tryz.underlying4 _))⟩

theorem over : Rows.kernCallsRow.holds Tryz.pinned (OpenSpec.ofChange Rows.kernCallsSpec) :=
  OpenClaim.holds_of_wide 5 Tryz.f5 rfl rfl rfl rfl rfl rfl rfl ⟨rfl, rfl, rfl, rfl, rfl⟩ rfl rfl rfl rfl rfl (by kernel_rfl) Tryz.func5 facts
    (of_decide_eq_true (by kernel_rfl)) (by unfold Func.isWrapper; first | (rw [if_pos (by decide +kernel)]; kernel_rfl) | (rw [if_neg (by decide +kernel)]; exact ⟨rfl, rfl⟩))
    (fun os started H enc _ => lifted os started H enc)

/-- ████ THE STATEMENT ████ -/
theorem proved : Rows.KernCallsSaid :=
  over
end Go.Proofs.YtlhcpplnlgehbaaGreat.kernCalls
