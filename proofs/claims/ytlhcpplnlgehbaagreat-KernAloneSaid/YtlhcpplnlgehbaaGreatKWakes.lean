/- That the machine wakes: by the abstract run. -/
import Derived.Test.YtlhcpplnlgehbaaGreatM4
set_option linter.unusedVariables false
set_option linter.unusedSimpArgs false
namespace Go.Proofs.YtlhcpplnlgehbaaGreat
open Go Go.RowKit Go.Px
theorem Ew:Ee ((fX Tryz.prog [] (fun _=>none) 100000).call 22 [] ⟨.nil,0⟩)=true:=by kernel_rfl
theorem lu:Zr Tryz.prog 22:=⟨Tryz.f22,Tryz.func22,by kernel_rfl,by kernel_rfl⟩
theorem lD (w:World):Calls Tryz.prog 22 #[] w fun e w'=>e= .returned (.bool true)∧Below w.heap.size w w'∧ ∀b arr el z,w.heap.size≤b→w'.heap[b]? =some (.cells arr el z)→z=(0,0):=by
 obtain⟨H',h⟩:=aK Ew
 exact lv (G:=fun _=>True) (ρ:=fun _=>0) pok ⟨fun i lo hi h=>by simp at h,trivial⟩ (fun B w0=>sM) h .nil w
end Go.Proofs.YtlhcpplnlgehbaaGreat
