/- Part of the proof: KAloneFacts. Names and blanks are cut short to keep within the size of a claim. -/
import Derived.JoinedOf
import Derived.KernelRfl
import Derived.Test.YtlhcpplnlgehbaaGreatRows
set_option linter.unusedVariables false
set_option linter.unusedSimpArgs false
namespace Go.Proofs.YtlhcpplnlgehbaaGreat.kernAlone
theorem Di:laidOutB Tryz.prog=true:=by kernel_rfl
theorem eX:mapsRowed Tryz.prog=true:=by kernel_rfl
theorem A6:(Rows.kernAloneRow.inPlace==Tryz.prog.inPlace 7)=true:=by kernel_rfl
theorem TM:(Rows.kernAloneRow.unfollowed==Tryz.prog.unfollowed 7)=true:=by kernel_rfl
theorem TL:(Rows.kernAloneRow.recurses==Tryz.prog.recurses 7)=true:=by kernel_rfl
theorem IV:(Rows.kernAloneRow.named==Tryz.prog.varsNamed 7)=true:=by kernel_rfl
theorem IW:(Rows.kernAloneRow.plainKeys==Tryz.prog.plainKeys)=true:=by kernel_rfl
theorem IU:Tryz.prog.stopsHeard=true:=by kernel_rfl
theorem IT:Tryz.prog.mayEnter=true:=by kernel_rfl
theorem Ny:(Rows.kernAloneRow.lifted==Tryz.prog.liftsFinal)=true:=by kernel_rfl
theorem Nz:(Tryz.prog.make==some Rows.kernAloneRow.make)=true:=by kernel_rfl
theorem facts:joinedFacts Tryz.pinned.checked.prog 7 Tryz.f7 Rows.kernAloneSpec Rows.kernAloneRow=true:=by
 show joinedFacts Tryz.prog 7 Tryz.f7 Rows.kernAloneSpec Rows.kernAloneRow=true
 unfold joinedFacts
 rw [Di,eX,A6,TM,TL,IV,IW,IU,IT,Ny,Nz]
 kernel_rfl
end Go.Proofs.YtlhcpplnlgehbaaGreat.kernAlone
