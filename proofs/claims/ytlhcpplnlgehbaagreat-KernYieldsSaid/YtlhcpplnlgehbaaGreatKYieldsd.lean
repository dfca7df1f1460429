import Derived.Test.YtlhcpplnlgehbaaGreatKCase
import Derived.KernelRfl
namespace Go.Proofs.YtlhcpplnlgehbaaGreat
open Go.RowKit Go.Px
theorem runKYieldsT_2 : allN (fun c1 => trueF ((execJ Tryz.prog (factsP (casesL 4 4 ++ (casesL 20 20 ++ [(60000, none)]))) (hookP (casesL 4 4 ++ (casesL 20 20 ++ [(60000, none)]))) 200000).call 4 [tok 4, tok (2 * (4 + c1)), tok 48, .bool true] ⟨.nil, 0⟩)) 20 = true := by kernel_rfl
theorem runKYieldsT_3 : allN (fun c1 => trueF ((execJ Tryz.prog (factsP (casesL 4 4 ++ (casesL 20 20 ++ [(60000, none)]))) (hookP (casesL 4 4 ++ (casesL 20 20 ++ [(60000, none)]))) 200000).call 4 [tok 6, tok (2 * (4 + c1)), tok 48, .bool true] ⟨.nil, 0⟩)) 20 = true := by kernel_rfl
end Go.Proofs.YtlhcpplnlgehbaaGreat
