import Derived.Test.YtlhcpplnlgehbaaGreatKBootC
import Derived.KernelRfl
namespace Go.Proofs.YtlhcpplnlgehbaaGreat
open Go.RowKit Go.Px
theorem runKCallsT_0_0 : allN (fun c0 => allN (fun c3 => trueF ((execJ Tryz.prog (factsP (casesL 4 4 ++ (casesL 4 4 ++ (casesL 4 4 ++ (casesL 4 4 ++ []))))) (hookB (casesL 4 4 ++ (casesL 4 4 ++ (casesL 4 4 ++ (casesL 4 4 ++ []))))) 200000).call 5 [tok (2 * c0), tok 8, tok 16, tok (2 * (12 + c3)), .bool true] ⟨.nil, 0⟩)) 4) 4 = true := by kernel_rfl
theorem runKCallsT_0_1 : allN (fun c0 => allN (fun c3 => trueF ((execJ Tryz.prog (factsP (casesL 4 4 ++ (casesL 4 4 ++ (casesL 4 4 ++ (casesL 4 4 ++ []))))) (hookB (casesL 4 4 ++ (casesL 4 4 ++ (casesL 4 4 ++ (casesL 4 4 ++ []))))) 200000).call 5 [tok (2 * c0), tok 8, tok 18, tok (2 * (12 + c3)), .bool true] ⟨.nil, 0⟩)) 4) 4 = true := by kernel_rfl
theorem runKCallsT_0_2 : allN (fun c0 => allN (fun c3 => trueF ((execJ Tryz.prog (factsP (casesL 4 4 ++ (casesL 4 4 ++ (casesL 4 4 ++ (casesL 4 4 ++ []))))) (hookB (casesL 4 4 ++ (casesL 4 4 ++ (casesL 4 4 ++ (casesL 4 4 ++ []))))) 200000).call 5 [tok (2 * c0), tok 8, tok 20, tok (2 * (12 + c3)), .bool true] ⟨.nil, 0⟩)) 4) 4 = true := by kernel_rfl
theorem runKCallsT_0_3 : allN (fun c0 => allN (fun c3 => trueF ((execJ Tryz.prog (factsP (casesL 4 4 ++ (casesL 4 4 ++ (casesL 4 4 ++ (casesL 4 4 ++ []))))) (hookB (casesL 4 4 ++ (casesL 4 4 ++ (casesL 4 4 ++ (casesL 4 4 ++ []))))) 200000).call 5 [tok (2 * c0), tok 8, tok 22, tok (2 * (12 + c3)), .bool true] ⟨.nil, 0⟩)) 4) 4 = true := by kernel_rfl
end Go.Proofs.YtlhcpplnlgehbaaGreat
