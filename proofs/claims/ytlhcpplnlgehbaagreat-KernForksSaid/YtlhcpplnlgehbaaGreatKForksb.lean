import Derived.Test.YtlhcpplnlgehbaaGreatKGenJ
import Derived.KernelRfl
namespace Go.Proofs.YtlhcpplnlgehbaaGreat
open Go.RowKit Go.Px
theorem runKForksTF : trueF ((execJ Tryz.prog (factsP [(60000, none), (60000, none)]) (hookP [(60000, none), (60000, none)]) 200000).call 14 [tok 0, tok 2, .bool true, .bool false] ⟨.nil, 0⟩) = true := by kernel_rfl
theorem runKForksTT : trueF ((execJ Tryz.prog (factsP [(60000, none), (60000, none)]) (hookP [(60000, none), (60000, none)]) 200000).call 14 [tok 0, tok 2, .bool true, .bool true] ⟨.nil, 0⟩) = true := by kernel_rfl
end Go.Proofs.YtlhcpplnlgehbaaGreat
