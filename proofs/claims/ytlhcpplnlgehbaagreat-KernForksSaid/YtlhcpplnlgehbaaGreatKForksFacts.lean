import Derived.Test.YtlhcpplnlgehbaaGreatRows
import Derived.JoinedOf
import Derived.KernelRfl
namespace Go.Proofs.YtlhcpplnlgehbaaGreat.kernForks
theorem p_laid : laidOutB Tryz.prog = true := by kernel_rfl
theorem p_rowed : mapsRowed Tryz.prog = true := by kernel_rfl
theorem p_inPlace : (Rows.kernForksRow.inPlace == Tryz.prog.inPlace 14) = true := by kernel_rfl
theorem p_unf : (Rows.kernForksRow.unfollowed == Tryz.prog.unfollowed 14) = true := by kernel_rfl
theorem p_rec : (Rows.kernForksRow.recurses == Tryz.prog.recurses 14) = true := by kernel_rfl
theorem p_named : (Rows.kernForksRow.named == Tryz.prog.varsNamed 14) = true := by kernel_rfl
theorem p_plain : (Rows.kernForksRow.plainKeys == Tryz.prog.plainKeys) = true := by kernel_rfl
theorem p_heard : Tryz.prog.stopsHeard = true := by kernel_rfl
theorem p_enter : Tryz.prog.mayEnter = true := by kernel_rfl
theorem p_lift : (Rows.kernForksRow.lifted == Tryz.prog.liftsFinal) = true := by kernel_rfl
theorem p_make : (Tryz.prog.make == some Rows.kernForksRow.make) = true := by kernel_rfl
theorem facts : joinedFacts Tryz.pinned.checked.prog 14 Tryz.f14 Rows.kernForksSpec Rows.kernForksRow = true := by
  show joinedFacts Tryz.prog 14 Tryz.f14 Rows.kernForksSpec Rows.kernForksRow = true
  unfold joinedFacts
  rw [p_laid, p_rowed, p_inPlace, p_unf, p_rec, p_named, p_plain, p_heard, p_enter, p_lift, p_make]
  kernel_rfl
end Go.Proofs.YtlhcpplnlgehbaaGreat.kernForks
