import Derived.Test.YtlhcpplnlgehbaaGreatRows
import Derived.JoinedOf
import Derived.KernelRfl
namespace Go.Proofs.YtlhcpplnlgehbaaGreat.kernAway
theorem p_laid : laidOutB Tryz.prog = true := by kernel_rfl
theorem p_rowed : mapsRowed Tryz.prog = true := by kernel_rfl
theorem p_inPlace : (Rows.kernAwayRow.inPlace == Tryz.prog.inPlace 6) = true := by kernel_rfl
theorem p_unf : (Rows.kernAwayRow.unfollowed == Tryz.prog.unfollowed 6) = true := by kernel_rfl
theorem p_rec : (Rows.kernAwayRow.recurses == Tryz.prog.recurses 6) = true := by kernel_rfl
theorem p_named : (Rows.kernAwayRow.named == Tryz.prog.varsNamed 6) = true := by kernel_rfl
theorem p_plain : (Rows.kernAwayRow.plainKeys == Tryz.prog.plainKeys) = true := by kernel_rfl
theorem p_heard : Tryz.prog.stopsHeard = true := by kernel_rfl
theorem p_enter : Tryz.prog.mayEnter = true := by kernel_rfl
theorem p_lift : (Rows.kernAwayRow.lifted == Tryz.prog.liftsFinal) = true := by kernel_rfl
theorem p_make : (Tryz.prog.make == some Rows.kernAwayRow.make) = true := by kernel_rfl
theorem facts : joinedFacts Tryz.pinned.checked.prog 6 Tryz.f6 Rows.kernAwaySpec Rows.kernAwayRow = true := by
  show joinedFacts Tryz.prog 6 Tryz.f6 Rows.kernAwaySpec Rows.kernAwayRow = true
  unfold joinedFacts
  rw [p_laid, p_rowed, p_inPlace, p_unf, p_rec, p_named, p_plain, p_heard, p_enter, p_lift, p_make]
  kernel_rfl
end Go.Proofs.YtlhcpplnlgehbaaGreat.kernAway
