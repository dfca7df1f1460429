import Derived.Test.YtlhcpplnlgehbaaGreatKCase
import Derived.KernelRfl
namespace Go.Proofs.YtlhcpplnlgehbaaGreat
open Go.RowKit Go.Px
theorem runKTurnsFF0 : allN (fun c => trueF ((execJ Tryz.prog (factsP (casesL 6 6 ++ [(60000, none), (60000, none)])) (hookP (casesL 6 6 ++ [(60000, none), (60000, none)])) 200000).call 10 [tok 12, tok 14, tok (2 * c), .bool false, .bool false] ⟨.nil, 0⟩)) 3 = true := by kernel_rfl
theorem runKTurnsFF3 : allN (fun c => trueF ((execJ Tryz.prog (factsP (casesL 6 6 ++ [(60000, none), (60000, none)])) (hookP (casesL 6 6 ++ [(60000, none), (60000, none)])) 200000).call 10 [tok 12, tok 14, tok (2 * (3 + c)), .bool false, .bool false] ⟨.nil, 0⟩)) 3 = true := by kernel_rfl
end Go.Proofs.YtlhcpplnlgehbaaGreat
