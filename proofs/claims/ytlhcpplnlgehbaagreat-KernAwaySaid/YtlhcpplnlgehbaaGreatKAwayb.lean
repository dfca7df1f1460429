import Derived.Test.YtlhcpplnlgehbaaGreatKGen
import Derived.KernelRfl
namespace Go.Proofs.YtlhcpplnlgehbaaGreat
open Go.RowKit Go.Px
theorem runKAwayTF : trueF ((execF Tryz.prog (factsP [(60000, none)]) (hookP [(60000, none)]) 200000).call 6 [tok 0, .bool true, .bool false] ⟨.nil, 0⟩) = true := by kernel_rfl
theorem runKAwayTT : trueF ((execF Tryz.prog (factsP [(60000, none)]) (hookP [(60000, none)]) 200000).call 6 [tok 0, .bool true, .bool true] ⟨.nil, 0⟩) = true := by kernel_rfl
end Go.Proofs.YtlhcpplnlgehbaaGreat
