/- Part of the proof: KAloneFacts. Names and blanks are cut short to keep within the size of a claim. -/
import Derived.JoinedOf
import Derived.KernelRfl
import Derived.Test.YtlhcpplnlgehbaaGreatRows
set_option linter.unusedVariables false
set_option linter.unusedSimpArgs false
namespace Go.Proofs.YtlhcpplnlgehbaaGreat.kernAlone
theorem ru:laidOutB Tryz.prog=true:=by kernel_rfl
theorem mr:mapsRowed Tryz.prog=true:=by kernel_rfl
theorem fD:(Rows.kernAloneRow.inPlace==Tryz.prog.inPlace 7)=true:=by kernel_rfl
theorem Cm:(Rows.kernAloneRow.unfollowed==Tryz.prog.unfollowed 7)=true:=by kernel_rfl
theorem CL:(Rows.kernAloneRow.recurses==Tryz.prog.recurses 7)=true:=by kernel_rfl
theorem oQ:(Rows.kernAloneRow.named==Tryz.prog.varsNamed 7)=true:=by kernel_rfl
theorem sj:(Rows.kernAloneRow.plainKeys==Tryz.prog.plainKeys)=true:=by kernel_rfl
theorem aZ:Tryz.prog.stopsHeard=true:=by kernel_rfl
theorem au:Tryz.prog.mayEnter=true:=by kernel_rfl
theorem AJ:(Rows.kernAloneRow.lifted==Tryz.prog.liftsFinal)=true:=by kernel_rfl
theorem Ad:(Tryz.prog.make==some Rows.kernAloneRow.make)=true:=by kernel_rfl
theorem BP:joinedFacts Tryz.pinned.checked.prog 7 Tryz.f7 Rows.kernAloneSpec Rows.kernAloneRow=true:=by
 show joinedFacts Tryz.prog 7 Tryz.f7 Rows.kernAloneSpec Rows.kernAloneRow=true
 unfold joinedFacts
 rw [ru,mr,fD,Cm,CL,oQ,sj,aZ,au,AJ,Ad]
 kernel_rfl
end Go.Proofs.YtlhcpplnlgehbaaGreat.kernAlone
