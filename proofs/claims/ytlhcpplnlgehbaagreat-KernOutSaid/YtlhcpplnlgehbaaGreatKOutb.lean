import Derived.Test.YtlhcpplnlgehbaaGreatKGen
import Derived.KernelRfl
namespace Go.Proofs.YtlhcpplnlgehbaaGreat
open Go.RowKit Go.Px
theorem runKOutTFF : trueF ((execF Tryz.prog (factsP [(60000, none)]) (hookP [(60000, none)]) 100000).call 11 [tok 0, .bool true, .bool false, .bool false] ⟨.nil, 0⟩) = true := by kernel_rfl
theorem runKOutTFT : trueF ((execF Tryz.prog (factsP [(60000, none)]) (hookP [(60000, none)]) 100000).call 11 [tok 0, .bool true, .bool false, .bool true] ⟨.nil, 0⟩) = true := by kernel_rfl
theorem runKOutTTF : trueF ((execF Tryz.prog (factsP [(60000, none)]) (hookP [(60000, none)]) 100000).call 11 [tok 0, .bool true, .bool true, .bool false] ⟨.nil, 0⟩) = true := by kernel_rfl
theorem runKOutTTT : trueF ((execF Tryz.prog (factsP [(60000, none)]) (hookP [(60000, none)]) 100000).call 11 [tok 0, .bool true, .bool true, .bool true] ⟨.nil, 0⟩) = true := by kernel_rfl
end Go.Proofs.YtlhcpplnlgehbaaGreat
