/- The law KernTurns: for all numbers and truths the Go text answers true and leaves what it was given as it was. No condition. The walk is the abstract run of KTurns, sound by PTop. -/
import Derived.Test.YtlhcpplnlgehbaaGreatRows
import Derived.WalkKit
import Derived.ProofKit
import Derived.OpenShut
import Derived.Test.YtlhcpplnlgehbaaGreatKTurnsa
import Derived.Test.YtlhcpplnlgehbaaGreatKTurnsb
import Derived.Test.YtlhcpplnlgehbaaGreatKTurnsc
import Derived.Test.YtlhcpplnlgehbaaGreatKTurnsd
import Derived.Test.YtlhcpplnlgehbaaGreatKTurnsFacts
namespace Go.Proofs.YtlhcpplnlgehbaaGreat.kernTurns
open Go.ChangeShapes Go.WideShapes Go.ChangeAt Go.RowKit
set_option linter.unusedVariables false      -- a walk need not use every 'w<i>' (that an integer argument fits its kind)

theorem own : ownKnob Tryz.prog.godebug = none := by kernel_rfl

/-! ### STEP 1: THE WALK: the Go text returns true. -/
theorem walk (a0 : Int) (a1 : Int) (a2 : Int) (a3 : Bool) (a4 : Bool) (w0 : (Lit.int .i64 a0).wf = true) (w1 : (Lit.int .i64 a1).wf = true) (w2 : (Lit.int .i64 a2).wf = true) (w : World) :
    Calls Tryz.prog 10 #[.int .i64 a0, .int .i64 a1, .int .i64 a2, .bool a3, .bool a4] w fun e w' => e = .returned (.bool true) ∧ Grown w w' :=
  by
  obtain ⟨c, hc1, hc2⟩ : ∃ c : Nat, c < 6 ∧ a2 % ((6 : Nat) : Int) = (c : Int) := ⟨(a2 % ((6 : Nat) : Int)).toNat, by omega, by omega⟩
  have hr : rhoP (casesL 6 6 ++ [(60000, none), (60000, none)]) (casesX 6 a2 6 ++ [a0, a1]) (2 * c) = a2 := by
    have := cases_rho (n := 6) (a := a2) [(60000, none), (60000, none)] [a0, a1] 6 c (by omega) (by omega) hc1 hc2
    simpa only [Nat.sub_self, Nat.sub_zero] using this
  refine law_many (casesL 6 6 ++ [(60000, none), (60000, none)]) (casesX 6 a2 6 ++ [a0, a1]) (cases_ok (L := [(60000, none), (60000, none)]) (xs := [a0, a1]) (by omega) (by omega) (wf_i64 w2) ⟨⟨by omega, by omega, (wf_i64 w0).1, (wf_i64 w0).2, nofun⟩, ⟨⟨by omega, by omega, (wf_i64 w1).1, (wf_i64 w1).2, nofun⟩, trivial⟩⟩ 6 (by omega)) (.cons (tok_rel _ 12 a0 rfl) (.cons (tok_rel _ 14 a1 rfl) (.cons (tok_rel _ (2 * c) a2 hr) (.cons (.bool a3) (.cons (.bool a4) .nil))))) (k := 200000) ?_ w
  cases a3 <;> cases a4
  · by_cases h0 : c < 3
    · exact allN_at runKTurnsFF0 c (by omega)
    have e := allN_at runKTurnsFF3 (c - 3) (by omega)
    rwa [show 3 + (c - 3) = c by omega] at e
  · by_cases h0 : c < 3
    · exact allN_at runKTurnsFT0 c (by omega)
    have e := allN_at runKTurnsFT3 (c - 3) (by omega)
    rwa [show 3 + (c - 3) = c by omega] at e
  · by_cases h0 : c < 3
    · exact allN_at runKTurnsTF0 c (by omega)
    have e := allN_at runKTurnsTF3 (c - 3) (by omega)
    rwa [show 3 + (c - 3) = c by omega] at e
  · by_cases h0 : c < 3
    · exact allN_at runKTurnsTT0 c (by omega)
    have e := allN_at runKTurnsTT3 (c - 3) (by omega)
    rwa [show 3 + (c - 3) = c by omega] at e

/-! ### THE ROW's STEP: WRITTEN OUT: LEAVE IT -/
set_option maxRecDepth 100000 in
theorem lifted (os : Os) (started : os.Started) (H : Type) (enc : TypeId × Value → H) :
    ReturnsInHanded {} Tryz.checked os 10 .any (Rows.kernTurnsSpec.pre6 enc Tryz.prog Tryz.f10 Rows.kernTurnsRow.domain false) (Rows.kernTurnsSpec.post enc Tryz.prog Tryz.f10 false true false false) := by
  refine returnsInHanded_of_change (C := Tryz.checked) own started (by kernel_rfl) Tryz.func10
    (ChangeSpec.witness6 (enc := enc) (C := Tryz.checked) false ⟨#[], #[.int .i64 0, .int .i64 0, .int .i64 0, .bool false, .bool false], []⟩ 8 (by kernel_rfl) (by kernel_rfl) (by kernel_rfl) (by kernel_rfl)) ?_
  intro W base args ds gs before hval0 hW hcnd _
  have hval : ∀ (j : Nat) t v, Tryz.f10.params[j]? = some t → args[j]? = some v → Value.okWide Tryz.prog W .any base t v := hval0
  have hW' := hW
  obtain ⟨p, q, hA0, hV, rfl, hfz, hnd⟩ := hW
  have hA : DataW.TrodAll enc Tryz.prog W 0 (fun _ => true) true Tryz.f10.params.toList args.toList ds p := hA0
  rw [Tryz.params10] at hA hval
  obtain ⟨v0, vs0, d0, ds0, p0, q0, hargs, rfl, rfl, h0, r0⟩ := trodAll_cons hA
  obtain ⟨v1, vs1, d1, ds1, p1, q1, rfl, rfl, rfl, h1, r1⟩ := trodAll_cons r0
  obtain ⟨v2, vs2, d2, ds2, p2, q2, rfl, rfl, rfl, h2, r2⟩ := trodAll_cons r1
  obtain ⟨v3, vs3, d3, ds3, p3, q3, rfl, rfl, rfl, h3, r3⟩ := trodAll_cons r2
  obtain ⟨v4, vs4, d4, ds4, p4, q4, rfl, rfl, rfl, h4, r4⟩ := trodAll_cons r3
  obtain ⟨rfl, rfl, rfl⟩ := trodAll_nil r4
  obtain rfl : args = #[v0, v1, v2, v3, v4] := by cases args; simp_all
  obtain ⟨rfl, rfl⟩ := trodVars_none hV
  obtain ⟨a0, rfl, rfl, rfl, w0⟩ := open_int Tryz.underlying3 (hval 0 3 v0 rfl rfl) h0
  obtain ⟨a1, rfl, rfl, rfl, w1⟩ := open_int Tryz.underlying3 (hval 1 3 v1 rfl rfl) h1
  obtain ⟨a2, rfl, rfl, rfl, w2⟩ := open_int Tryz.underlying3 (hval 2 3 v2 rfl rfl) h2
  obtain ⟨a3, rfl, rfl, rfl⟩ := open_bool Tryz.underlying4 (hval 3 4 v3 rfl rfl) h3
  obtain ⟨a4, rfl, rfl, rfl⟩ := open_bool Tryz.underlying4 (hval 4 4 v4 rfl rfl) h4
  clear hA0 hval0
  simp only [List.append_nil] at hW'
  refine (walk a0 a1 a2 a3 a4 w0 w1 w2 W).mono fun e W' ⟨he, hg⟩ => ?_
  subst he
  exact ⟨_, rfl, post_of_same (pa := []) (pv := []) hW' (fun _ _ _ => (trodAll_cons_mk (shut_bool Tryz.underlying4 _) trodAll_mk0)) (fun sp _ => (trodAll_cons_mk (shut_int Tryz.underlying3 w0) (trodAll_cons_mk (shut_int Tryz.underlying3 w1) (trodAll_cons_mk (shut_int Tryz.underlying3 w2) (trodAll_cons_mk (shut_bool Tryz.underlying4 _) (trodAll_cons_mk (shut_bool Tryz.underlying4 _) trodAll_mk0)))))) (fun _ _ => rfl) rfl
    (hg.frame _) hg.2.1 (ok_one (by kernel_rfl) rfl (okWide_bool_mk Tryz.underlying4 _))⟩

theorem over : Rows.kernTurnsRow.holds Tryz.pinned (OpenSpec.ofChange Rows.kernTurnsSpec) :=
  OpenClaim.holds_of_wide 10 Tryz.f10 rfl rfl rfl rfl rfl rfl rfl ⟨rfl, rfl, rfl, rfl, rfl⟩ rfl rfl rfl rfl rfl (by kernel_rfl) Tryz.func10 facts
    (of_decide_eq_true (by kernel_rfl)) (by unfold Func.isWrapper; first | (rw [if_pos (by decide +kernel)]; kernel_rfl) | (rw [if_neg (by decide +kernel)]; exact ⟨rfl, rfl⟩))
    (fun os started H enc _ => lifted os started H enc)

/-- ████ THE STATEMENT ████ -/
theorem proved : Rows.KernTurnsSaid :=
  over
end Go.Proofs.YtlhcpplnlgehbaaGreat.kernTurns
