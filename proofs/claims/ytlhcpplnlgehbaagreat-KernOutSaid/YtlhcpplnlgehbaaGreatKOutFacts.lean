import Derived.Test.YtlhcpplnlgehbaaGreatRows
import Derived.JoinedOf
import Derived.KernelRfl
namespace Go.Proofs.YtlhcpplnlgehbaaGreat.kernOut
theorem p_laid : laidOutB Tryz.prog = true := by kernel_rfl
theorem p_rowed : mapsRowed Tryz.prog = true := by kernel_rfl
theorem p_inPlace : (Rows.kernOutRow.inPlace == Tryz.prog.inPlace 11) = true := by kernel_rfl
theorem p_unf : (Rows.kernOutRow.unfollowed == Tryz.prog.unfollowed 11) = true := by kernel_rfl
theorem p_rec : (Rows.kernOutRow.recurses == Tryz.prog.recurses 11) = true := by kernel_rfl
theorem p_named : (Rows.kernOutRow.named == Tryz.prog.varsNamed 11) = true := by kernel_rfl
theorem p_plain : (Rows.kernOutRow.plainKeys == Tryz.prog.plainKeys) = true := by kernel_rfl
theorem p_heard : Tryz.prog.stopsHeard = true := by kernel_rfl
theorem p_enter : Tryz.prog.mayEnter = true := by kernel_rfl
theorem p_lift : (Rows.kernOutRow.lifted == Tryz.prog.liftsFinal) = true := by kernel_rfl
theorem p_make : (Tryz.prog.make == some Rows.kernOutRow.make) = true := by kernel_rfl
theorem facts : joinedFacts Tryz.pinned.checked.prog 11 Tryz.f11 Rows.kernOutSpec Rows.kernOutRow = true := by
  show joinedFacts Tryz.prog 11 Tryz.f11 Rows.kernOutSpec Rows.kernOutRow = true
  unfold joinedFacts
  rw [p_laid, p_rowed, p_inPlace, p_unf, p_rec, p_named, p_plain, p_heard, p_enter, p_lift, p_make]
  kernel_rfl
end Go.Proofs.YtlhcpplnlgehbaaGreat.kernOut
