import Derived.Test.YtlhcpplnlgehbaaGreatRows
import Derived.JoinedOf
import Derived.KernelRfl
namespace Go.Proofs.YtlhcpplnlgehbaaGreat.kernTurns
theorem p_laid : laidOutB Tryz.prog = true := by kernel_rfl
theorem p_rowed : mapsRowed Tryz.prog = true := by kernel_rfl
theorem p_inPlace : (Rows.kernTurnsRow.inPlace == Tryz.prog.inPlace 10) = true := by kernel_rfl
theorem p_unf : (Rows.kernTurnsRow.unfollowed == Tryz.prog.unfollowed 10) = true := by kernel_rfl
theorem p_rec : (Rows.kernTurnsRow.recurses == Tryz.prog.recurses 10) = true := by kernel_rfl
theorem p_named : (Rows.kernTurnsRow.named == Tryz.prog.varsNamed 10) = true := by kernel_rfl
theorem p_plain : (Rows.kernTurnsRow.plainKeys == Tryz.prog.plainKeys) = true := by kernel_rfl
theorem p_heard : Tryz.prog.stopsHeard = true := by kernel_rfl
theorem p_enter : Tryz.prog.mayEnter = true := by kernel_rfl
theorem p_lift : (Rows.kernTurnsRow.lifted == Tryz.prog.liftsFinal) = true := by kernel_rfl
theorem p_make : (Tryz.prog.make == some Rows.kernTurnsRow.make) = true := by kernel_rfl
theorem facts : joinedFacts Tryz.pinned.checked.prog 10 Tryz.f10 Rows.kernTurnsSpec Rows.kernTurnsRow = true := by
  show joinedFacts Tryz.prog 10 Tryz.f10 Rows.kernTurnsSpec Rows.kernTurnsRow = true
  unfold joinedFacts
  rw [p_laid, p_rowed, p_inPlace, p_unf, p_rec, p_named, p_plain, p_heard, p_enter, p_lift, p_make]
  kernel_rfl
end Go.Proofs.YtlhcpplnlgehbaaGreat.kernTurns
