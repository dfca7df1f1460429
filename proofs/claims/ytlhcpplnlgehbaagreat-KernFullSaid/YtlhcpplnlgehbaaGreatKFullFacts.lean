import Derived.Test.YtlhcpplnlgehbaaGreatRows
import Derived.JoinedOf
import Derived.KernelRfl
namespace Go.Proofs.YtlhcpplnlgehbaaGreat.kernFull
theorem p_laid : laidOutB Tryz.prog = true := by kernel_rfl
theorem p_rowed : mapsRowed Tryz.prog = true := by kernel_rfl
theorem p_inPlace : (Rows.kernFullRow.inPlace == Tryz.prog.inPlace 13) = true := by kernel_rfl
theorem p_unf : (Rows.kernFullRow.unfollowed == Tryz.prog.unfollowed 13) = true := by kernel_rfl
theorem p_rec : (Rows.kernFullRow.recurses == Tryz.prog.recurses 13) = true := by kernel_rfl
theorem p_named : (Rows.kernFullRow.named == Tryz.prog.varsNamed 13) = true := by kernel_rfl
theorem p_plain : (Rows.kernFullRow.plainKeys == Tryz.prog.plainKeys) = true := by kernel_rfl
theorem p_heard : Tryz.prog.stopsHeard = true := by kernel_rfl
theorem p_enter : Tryz.prog.mayEnter = true := by kernel_rfl
theorem p_lift : (Rows.kernFullRow.lifted == Tryz.prog.liftsFinal) = true := by kernel_rfl
theorem p_make : (Tryz.prog.make == some Rows.kernFullRow.make) = true := by kernel_rfl
theorem facts : joinedFacts Tryz.pinned.checked.prog 13 Tryz.f13 Rows.kernFullSpec Rows.kernFullRow = true := by
  show joinedFacts Tryz.prog 13 Tryz.f13 Rows.kernFullSpec Rows.kernFullRow = true
  unfold joinedFacts
  rw [p_laid, p_rowed, p_inPlace, p_unf, p_rec, p_named, p_plain, p_heard, p_enter, p_lift, p_make]
  kernel_rfl
end Go.Proofs.YtlhcpplnlgehbaaGreat.kernFull
