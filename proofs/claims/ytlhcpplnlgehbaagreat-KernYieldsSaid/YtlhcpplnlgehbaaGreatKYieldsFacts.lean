import Derived.Test.YtlhcpplnlgehbaaGreatRows
import Derived.JoinedOf
import Derived.KernelRfl
namespace Go.Proofs.YtlhcpplnlgehbaaGreat.kernYields
theorem p_laid : laidOutB Tryz.prog = true := by kernel_rfl
theorem p_rowed : mapsRowed Tryz.prog = true := by kernel_rfl
theorem p_inPlace : (Rows.kernYieldsRow.inPlace == Tryz.prog.inPlace 4) = true := by kernel_rfl
theorem p_unf : (Rows.kernYieldsRow.unfollowed == Tryz.prog.unfollowed 4) = true := by kernel_rfl
theorem p_rec : (Rows.kernYieldsRow.recurses == Tryz.prog.recurses 4) = true := by kernel_rfl
theorem p_named : (Rows.kernYieldsRow.named == Tryz.prog.varsNamed 4) = true := by kernel_rfl
theorem p_plain : (Rows.kernYieldsRow.plainKeys == Tryz.prog.plainKeys) = true := by kernel_rfl
theorem p_heard : Tryz.prog.stopsHeard = true := by kernel_rfl
theorem p_enter : Tryz.prog.mayEnter = true := by kernel_rfl
theorem p_lift : (Rows.kernYieldsRow.lifted == Tryz.prog.liftsFinal) = true := by kernel_rfl
theorem p_make : (Tryz.prog.make == some Rows.kernYieldsRow.make) = true := by kernel_rfl
theorem facts : joinedFacts Tryz.pinned.checked.prog 4 Tryz.f4 Rows.kernYieldsSpec Rows.kernYieldsRow = true := by
  show joinedFacts Tryz.prog 4 Tryz.f4 Rows.kernYieldsSpec Rows.kernYieldsRow = true
  unfold joinedFacts
  rw [p_laid, p_rowed, p_inPlace, p_unf, p_rec, p_named, p_plain, p_heard, p_enter, p_lift, p_make]
  kernel_rfl
end Go.Proofs.YtlhcpplnlgehbaaGreat.kernYields
