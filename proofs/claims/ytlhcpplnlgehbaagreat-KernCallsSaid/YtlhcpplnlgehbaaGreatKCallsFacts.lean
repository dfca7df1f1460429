import Derived.Test.YtlhcpplnlgehbaaGreatRows
import Derived.JoinedOf
import Derived.KernelRfl
namespace Go.Proofs.YtlhcpplnlgehbaaGreat.kernCalls
theorem p_laid : laidOutB Tryz.prog = true := by kernel_rfl
theorem p_rowed : mapsRowed Tryz.prog = true := by kernel_rfl
theorem p_inPlace : (Rows.kernCallsRow.inPlace == Tryz.prog.inPlace 5) = true := by kernel_rfl
theorem p_unf : (Rows.kernCallsRow.unfollowed == Tryz.prog.unfollowed 5) = true := by kernel_rfl
theorem p_rec : (Rows.kernCallsRow.recurses == Tryz.prog.recurses 5) = true := by kernel_rfl
theorem p_named : (Rows.kernCallsRow.named == Tryz.prog.varsNamed 5) = true := by kernel_rfl
theorem p_plain : (Rows.kernCallsRow.plainKeys == Tryz.prog.plainKeys) = true := by kernel_rfl
theorem p_heard : Tryz.prog.stopsHeard = true := by kernel_rfl
theorem p_enter : Tryz.prog.mayEnter = true := by kernel_rfl
theorem p_lift : (Rows.kernCallsRow.lifted == Tryz.prog.liftsFinal) = true := by kernel_rfl
theorem p_make : (Tryz.prog.make == some Rows.kernCallsRow.make) = true := by kernel_rfl
theorem facts : joinedFacts Tryz.pinned.checked.prog 5 Tryz.f5 Rows.kernCallsSpec Rows.kernCallsRow = true := by
  show joinedFacts Tryz.prog 5 Tryz.f5 Rows.kernCallsSpec Rows.kernCallsRow = true
  unfold joinedFacts
  rw [p_laid, p_rowed, p_inPlace, p_unf, p_rec, p_named, p_plain, p_heard, p_enter, p_lift, p_make]
  kernel_rfl
end Go.Proofs.YtlhcpplnlgehbaaGreat.kernCalls
