import Derived.Test.YtlhcpplnlgehbaaGreatKOne
import Derived.KernelRfl
namespace Go.Proofs.YtlhcpplnlgehbaaGreat
open Go.RowKit Go.Px
theorem runErrF : trueF ((execF Tryz.prog [(-9223372036854775808, 9223372036854775807), (0, 1000 - 1)] (hook 1000) 100000).call 8 [tok 0, .bool false] ⟨.nil, 0⟩) = true := by kernel_rfl
theorem runErrT : trueF ((execF Tryz.prog [(-9223372036854775808, 9223372036854775807), (0, 1000 - 1)] (hook 1000) 100000).call 8 [tok 0, .bool true] ⟨.nil, 0⟩) = true := by kernel_rfl
end Go.Proofs.YtlhcpplnlgehbaaGreat
