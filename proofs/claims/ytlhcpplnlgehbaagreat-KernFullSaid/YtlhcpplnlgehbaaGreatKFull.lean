import Derived.Test.YtlhcpplnlgehbaaGreatKOne
import Derived.KernelRfl
namespace Go.Proofs.YtlhcpplnlgehbaaGreat
open Go.RowKit Go.Px
theorem runFullF : trueF ((execF Tryz.prog [(-9223372036854775808, 9223372036854775807), (0, 60000 - 1)] (hook 60000) 100000).call 13 [tok 0, .bool false] ⟨.nil, 0⟩) = true := by kernel_rfl
theorem runFullT : trueF ((execF Tryz.prog [(-9223372036854775808, 9223372036854775807), (0, 60000 - 1)] (hook 60000) 100000).call 13 [tok 0, .bool true] ⟨.nil, 0⟩) = true := by kernel_rfl
end Go.Proofs.YtlhcpplnlgehbaaGreat
