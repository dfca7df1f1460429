import Derived.Test.YtlhcpplnlgehbaaGreatRows
import Derived.JoinedOf
import Derived.KernelRfl
namespace Go.Proofs.YtlhcpplnlgehbaaGreat.kernErrors
theorem p_laid : laidOutB Tryz.prog = true := by kernel_rfl
theorem p_rowed : mapsRowed Tryz.prog = true := by kernel_rfl
theorem p_inPlace : (Rows.kernErrorsRow.inPlace == Tryz.prog.inPlace 8) = true := by kernel_rfl
theorem p_unf : (Rows.kernErrorsRow.unfollowed == Tryz.prog.unfollowed 8) = true := by kernel_rfl
theorem p_rec : (Rows.kernErrorsRow.recurses == Tryz.prog.recurses 8) = true := by kernel_rfl
theorem p_named : (Rows.kernErrorsRow.named == Tryz.prog.varsNamed 8) = true := by kernel_rfl
theorem p_plain : (Rows.kernErrorsRow.plainKeys == Tryz.prog.plainKeys) = true := by kernel_rfl
theorem p_heard : Tryz.prog.stopsHeard = true := by kernel_rfl
theorem p_enter : Tryz.prog.mayEnter = true := by kernel_rfl
theorem p_lift : (Rows.kernErrorsRow.lifted == Tryz.prog.liftsFinal) = true := by kernel_rfl
theorem p_make : (Tryz.prog.make == some Rows.kernErrorsRow.make) = true := by kernel_rfl
theorem facts : joinedFacts Tryz.pinned.checked.prog 8 Tryz.f8 Rows.kernErrorsSpec Rows.kernErrorsRow = true := by
  show joinedFacts Tryz.prog 8 Tryz.f8 Rows.kernErrorsSpec Rows.kernErrorsRow = true
  unfold joinedFacts
  rw [p_laid, p_rowed, p_inPlace, p_unf, p_rec, p_named, p_plain, p_heard, p_enter, p_lift, p_make]
  kernel_rfl
end Go.Proofs.YtlhcpplnlgehbaaGreat.kernErrors
