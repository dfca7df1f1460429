import Derived.Test.YtlhcpplnlgehbaaGreatKGen
import Derived.KernelRfl
namespace Go.Proofs.YtlhcpplnlgehbaaGreat
open Go.RowKit Go.Px
theorem runKOutFFF : trueF ((execF Tryz.prog (factsP [(60000, none)]) (hookP [(60000, none)]) 100000).call 11 [tok 0, .bool false, .bool false, .bool false] ⟨.nil, 0⟩) = true := by kernel_rfl
theorem runKOutFFT : trueF ((execF Tryz.prog (factsP [(60000, none)]) (hookP [(60000, none)]) 100000).call 11 [tok 0, .bool false, .bool false, .bool true] ⟨.nil, 0⟩) = true := by kernel_rfl
theorem runKOutFTF : trueF ((execF Tryz.prog (factsP [(60000, none)]) (hookP [(60000, none)]) 100000).call 11 [tok 0, .bool false, .bool true, .bool false] ⟨.nil, 0⟩) = true := by kernel_rfl
theorem runKOutFTT : trueF ((execF Tryz.prog (factsP [(60000, none)]) (hookP [(60000, none)]) 100000).call 11 [tok 0, .bool false, .bool true, .bool true] ⟨.nil, 0⟩) = true := by kernel_rfl
end Go.Proofs.YtlhcpplnlgehbaaGreat
