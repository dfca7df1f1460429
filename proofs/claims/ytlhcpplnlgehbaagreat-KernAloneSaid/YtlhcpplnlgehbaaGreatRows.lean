/-
  No cell of these rows narrows 'for every input' (looked for: loops, veiled, ifaces, maps, wideKeys, modest, calm, conditions, laid).
  DERIVED. THE GIVEN ROWS OF THIS SEAT. 12 by the template 'for every input the law returns true; each argument reads behind the call as it read before'; 0 by the template 'total and deterministic' (their statements: YtlhcpplnlgehbaaGreatTotals.lean).
  GIVEN WITH THE SEED: the statements are not yours to turn. If you find one false, say at which input.
  Laid BY PROGRAM, IN A SANDBOX (cutbox-rows.mjs): the forced cells as the released guide's own fill.sh prints them over the translation c5f24afdb36784ef… (all of the seat's roots in one cut). By AI agents, Wed Nov 11 2026. No macro, syntax, notation, axiom, sorry.
-/
import Derived.Test.YtlhcpplnlgehbaaGreatChecked
import GoSem.Claim
import GoSem.ClaimJoined
import GoSem.ClaimMapViews
import Derived.JoinedTies
import Derived.KernelRfl
namespace Go.Proofs.YtlhcpplnlgehbaaGreat
/- THE CELL 'sum', in the pinned program and in every row, IS THE sha256 OF THE DUMP (.gsa) THAT YtlhcpplnlgehbaaGreatProg.lean LOADS. Nothing in Lean hashes anything: it is a label: what it is worth is what the hold of that sum in a sandbox is worth. -/
noncomputable def Tryz.pinned : Pinned := { name := "ytlhcpplnlgehbaagreat", sum := "c5f24afdb36784ef80ce02837c75df6d1759e02ec5fa218a5b185a53a51b2ce3", checked := Tryz.checked }
namespace Rows
def none {H : Type} : Left H := { results := [], args := [] }

/-- 'penumbralaw20.KernPipe': WHATEVER THE INPUT: true; the input reads as it did. -/
def kernPipeSpec : ChangeSpec := { name := "kernPipe", fn := fun _ => fun
  | [d1, d2, d3] => { results := [.lit (.bool true)], args := [d1, d2, d3] }
  | _ => none }
def kernPipeRow : OpenClaim := { program := "ytlhcpplnlgehbaagreat", sum := "c5f24afdb36784ef80ce02837c75df6d1759e02ec5fa218a5b185a53a51b2ce3", func := "penumbra/penumbralaw20.KernPipe", spec := "kernPipe", unfollowed := true, recurses := true, plainKeys := false, apart := false }
def KernPipeSaid : Prop := kernPipeRow.holds Tryz.pinned (OpenSpec.ofChange kernPipeSpec)

/-- ITS FALSE NEIGHBOUR: 'it returns false'. Refute it at one input. -/
def kernPipeWrong : ChangeSpec := { name := "kernPipe", fn := fun _ => fun
  | [d1, d2, d3] => { results := [.lit (.bool false)], args := [d1, d2, d3] }
  | _ => none }
def KernPipeWrongFalsely : Prop := kernPipeRow.holds Tryz.pinned (OpenSpec.ofChange kernPipeWrong)

/-- 'penumbralaw20.KernYields': WHATEVER THE INPUT: true; the input reads as it did. -/
def kernYieldsSpec : ChangeSpec := { name := "kernYields", fn := fun _ => fun
  | [d1, d2, d3, d4] => { results := [.lit (.bool true)], args := [d1, d2, d3, d4] }
  | _ => none }
def kernYieldsRow : OpenClaim := { program := "ytlhcpplnlgehbaagreat", sum := "c5f24afdb36784ef80ce02837c75df6d1759e02ec5fa218a5b185a53a51b2ce3", func := "penumbra/penumbralaw20.KernYields", spec := "kernYields", unfollowed := true, recurses := true, plainKeys := false, apart := false }
def KernYieldsSaid : Prop := kernYieldsRow.holds Tryz.pinned (OpenSpec.ofChange kernYieldsSpec)

/-- ITS FALSE NEIGHBOUR: 'it returns false'. Refute it at one input. -/
def kernYieldsWrong : ChangeSpec := { name := "kernYields", fn := fun _ => fun
  | [d1, d2, d3, d4] => { results := [.lit (.bool false)], args := [d1, d2, d3, d4] }
  | _ => none }
def KernYieldsWrongFalsely : Prop := kernYieldsRow.holds Tryz.pinned (OpenSpec.ofChange kernYieldsWrong)

/-- 'penumbralaw20.KernCalls': WHATEVER THE INPUT: true; the input reads as it did. -/
def kernCallsSpec : ChangeSpec := { name := "kernCalls", fn := fun _ => fun
  | [d1, d2, d3, d4, d5] => { results := [.lit (.bool true)], args := [d1, d2, d3, d4, d5] }
  | _ => none }
def kernCallsRow : OpenClaim := { program := "ytlhcpplnlgehbaagreat", sum := "c5f24afdb36784ef80ce02837c75df6d1759e02ec5fa218a5b185a53a51b2ce3", func := "penumbra/penumbralaw20.KernCalls", spec := "kernCalls", unfollowed := true, recurses := true, plainKeys := false, apart := false }
def KernCallsSaid : Prop := kernCallsRow.holds Tryz.pinned (OpenSpec.ofChange kernCallsSpec)

/-- ITS FALSE NEIGHBOUR: 'it returns false'. Refute it at one input. -/
def kernCallsWrong : ChangeSpec := { name := "kernCalls", fn := fun _ => fun
  | [d1, d2, d3, d4, d5] => { results := [.lit (.bool false)], args := [d1, d2, d3, d4, d5] }
  | _ => none }
def KernCallsWrongFalsely : Prop := kernCallsRow.holds Tryz.pinned (OpenSpec.ofChange kernCallsWrong)

/-- 'penumbralaw20.KernAway': WHATEVER THE INPUT: true; the input reads as it did. -/
def kernAwaySpec : ChangeSpec := { name := "kernAway", fn := fun _ => fun
  | [d1, d2, d3] => { results := [.lit (.bool true)], args := [d1, d2, d3] }
  | _ => none }
def kernAwayRow : OpenClaim := { program := "ytlhcpplnlgehbaagreat", sum := "c5f24afdb36784ef80ce02837c75df6d1759e02ec5fa218a5b185a53a51b2ce3", func := "penumbra/penumbralaw20.KernAway", spec := "kernAway", unfollowed := true, recurses := true, plainKeys := false, apart := false }
def KernAwaySaid : Prop := kernAwayRow.holds Tryz.pinned (OpenSpec.ofChange kernAwaySpec)

/-- ITS FALSE NEIGHBOUR: 'it returns false'. Refute it at one input. -/
def kernAwayWrong : ChangeSpec := { name := "kernAway", fn := fun _ => fun
  | [d1, d2, d3] => { results := [.lit (.bool false)], args := [d1, d2, d3] }
  | _ => none }
def KernAwayWrongFalsely : Prop := kernAwayRow.holds Tryz.pinned (OpenSpec.ofChange kernAwayWrong)

/-- 'penumbralaw20.KernAlone': WHATEVER THE INPUT: true; the input reads as it did. -/
def kernAloneSpec : ChangeSpec := { name := "kernAlone", fn := fun _ => fun
  | [d1, d2, d3] => { results := [.lit (.bool true)], args := [d1, d2, d3] }
  | _ => none }
def kernAloneRow : OpenClaim := { program := "ytlhcpplnlgehbaagreat", sum := "c5f24afdb36784ef80ce02837c75df6d1759e02ec5fa218a5b185a53a51b2ce3", func := "penumbra/penumbralaw20.KernAlone", spec := "kernAlone", unfollowed := true, recurses := true, plainKeys := false, apart := false }
def KernAloneSaid : Prop := kernAloneRow.holds Tryz.pinned (OpenSpec.ofChange kernAloneSpec)

/-- ITS FALSE NEIGHBOUR: 'it returns false'. Refute it at one input. -/
def kernAloneWrong : ChangeSpec := { name := "kernAlone", fn := fun _ => fun
  | [d1, d2, d3] => { results := [.lit (.bool false)], args := [d1, d2, d3] }
  | _ => none }
def KernAloneWrongFalsely : Prop := kernAloneRow.holds Tryz.pinned (OpenSpec.ofChange kernAloneWrong)

/-- 'penumbralaw20.KernErrors': WHATEVER THE INPUT: true; the input reads as it did. -/
def kernErrorsSpec : ChangeSpec := { name := "kernErrors", fn := fun _ => fun
  | [d1, d2] => { results := [.lit (.bool true)], args := [d1, d2] }
  | _ => none }
def kernErrorsRow : OpenClaim := { program := "ytlhcpplnlgehbaagreat", sum := "c5f24afdb36784ef80ce02837c75df6d1759e02ec5fa218a5b185a53a51b2ce3", func := "penumbra/penumbralaw20.KernErrors", spec := "kernErrors", unfollowed := true, recurses := true, plainKeys := false, apart := false }
def KernErrorsSaid : Prop := kernErrorsRow.holds Tryz.pinned (OpenSpec.ofChange kernErrorsSpec)

/-- ITS FALSE NEIGHBOUR: 'it returns false'. Refute it at one input. -/
def kernErrorsWrong : ChangeSpec := { name := "kernErrors", fn := fun _ => fun
  | [d1, d2] => { results := [.lit (.bool false)], args := [d1, d2] }
  | _ => none }
def KernErrorsWrongFalsely : Prop := kernErrorsRow.holds Tryz.pinned (OpenSpec.ofChange kernErrorsWrong)

/-- 'penumbralaw20.KernPages': WHATEVER THE INPUT: true; the input reads as it did. -/
def kernPagesSpec : ChangeSpec := { name := "kernPages", fn := fun _ => fun
  | [d1, d2, d3, d4] => { results := [.lit (.bool true)], args := [d1, d2, d3, d4] }
  | _ => none }
def kernPagesRow : OpenClaim := { program := "ytlhcpplnlgehbaagreat", sum := "c5f24afdb36784ef80ce02837c75df6d1759e02ec5fa218a5b185a53a51b2ce3", func := "penumbra/penumbralaw20.KernPages", spec := "kernPages", unfollowed := true, recurses := true, plainKeys := false, apart := false }
def KernPagesSaid : Prop := kernPagesRow.holds Tryz.pinned (OpenSpec.ofChange kernPagesSpec)

/-- ITS FALSE NEIGHBOUR: 'it returns false'. Refute it at one input. -/
def kernPagesWrong : ChangeSpec := { name := "kernPages", fn := fun _ => fun
  | [d1, d2, d3, d4] => { results := [.lit (.bool false)], args := [d1, d2, d3, d4] }
  | _ => none }
def KernPagesWrongFalsely : Prop := kernPagesRow.holds Tryz.pinned (OpenSpec.ofChange kernPagesWrong)

/-- 'penumbralaw20.KernTurns': WHATEVER THE INPUT: true; the input reads as it did. -/
def kernTurnsSpec : ChangeSpec := { name := "kernTurns", fn := fun _ => fun
  | [d1, d2, d3, d4, d5] => { results := [.lit (.bool true)], args := [d1, d2, d3, d4, d5] }
  | _ => none }
def kernTurnsRow : OpenClaim := { program := "ytlhcpplnlgehbaagreat", sum := "c5f24afdb36784ef80ce02837c75df6d1759e02ec5fa218a5b185a53a51b2ce3", func := "penumbra/penumbralaw20.KernTurns", spec := "kernTurns", unfollowed := true, recurses := true, plainKeys := false, apart := false }
def KernTurnsSaid : Prop := kernTurnsRow.holds Tryz.pinned (OpenSpec.ofChange kernTurnsSpec)

/-- ITS FALSE NEIGHBOUR: 'it returns false'. Refute it at one input. -/
def kernTurnsWrong : ChangeSpec := { name := "kernTurns", fn := fun _ => fun
  | [d1, d2, d3, d4, d5] => { results := [.lit (.bool false)], args := [d1, d2, d3, d4, d5] }
  | _ => none }
def KernTurnsWrongFalsely : Prop := kernTurnsRow.holds Tryz.pinned (OpenSpec.ofChange kernTurnsWrong)

/-- 'penumbralaw20.KernOut': WHATEVER THE INPUT: true; the input reads as it did. -/
def kernOutSpec : ChangeSpec := { name := "kernOut", fn := fun _ => fun
  | [d1, d2, d3, d4] => { results := [.lit (.bool true)], args := [d1, d2, d3, d4] }
  | _ => none }
def kernOutRow : OpenClaim := { program := "ytlhcpplnlgehbaagreat", sum := "c5f24afdb36784ef80ce02837c75df6d1759e02ec5fa218a5b185a53a51b2ce3", func := "penumbra/penumbralaw20.KernOut", spec := "kernOut", unfollowed := true, recurses := true, plainKeys := false, apart := false }
def KernOutSaid : Prop := kernOutRow.holds Tryz.pinned (OpenSpec.ofChange kernOutSpec)

/-- ITS FALSE NEIGHBOUR: 'it returns false'. Refute it at one input. -/
def kernOutWrong : ChangeSpec := { name := "kernOut", fn := fun _ => fun
  | [d1, d2, d3, d4] => { results := [.lit (.bool false)], args := [d1, d2, d3, d4] }
  | _ => none }
def KernOutWrongFalsely : Prop := kernOutRow.holds Tryz.pinned (OpenSpec.ofChange kernOutWrong)

/-- 'penumbralaw20.KernFlat': WHATEVER THE INPUT: true; the input reads as it did. -/
def kernFlatSpec : ChangeSpec := { name := "kernFlat", fn := fun _ => fun
  | [d1, d2, d3, d4] => { results := [.lit (.bool true)], args := [d1, d2, d3, d4] }
  | _ => none }
def kernFlatRow : OpenClaim := { program := "ytlhcpplnlgehbaagreat", sum := "c5f24afdb36784ef80ce02837c75df6d1759e02ec5fa218a5b185a53a51b2ce3", func := "penumbra/penumbralaw20.KernFlat", spec := "kernFlat", unfollowed := true, recurses := true, plainKeys := false, apart := false }
def KernFlatSaid : Prop := kernFlatRow.holds Tryz.pinned (OpenSpec.ofChange kernFlatSpec)

/-- ITS FALSE NEIGHBOUR: 'it returns false'. Refute it at one input. -/
def kernFlatWrong : ChangeSpec := { name := "kernFlat", fn := fun _ => fun
  | [d1, d2, d3, d4] => { results := [.lit (.bool false)], args := [d1, d2, d3, d4] }
  | _ => none }
def KernFlatWrongFalsely : Prop := kernFlatRow.holds Tryz.pinned (OpenSpec.ofChange kernFlatWrong)

/-- 'penumbralaw20.KernFull': WHATEVER THE INPUT: true; the input reads as it did. -/
def kernFullSpec : ChangeSpec := { name := "kernFull", fn := fun _ => fun
  | [d1, d2] => { results := [.lit (.bool true)], args := [d1, d2] }
  | _ => none }
def kernFullRow : OpenClaim := { program := "ytlhcpplnlgehbaagreat", sum := "c5f24afdb36784ef80ce02837c75df6d1759e02ec5fa218a5b185a53a51b2ce3", func := "penumbra/penumbralaw20.KernFull", spec := "kernFull", unfollowed := true, recurses := true, plainKeys := false, apart := false }
def KernFullSaid : Prop := kernFullRow.holds Tryz.pinned (OpenSpec.ofChange kernFullSpec)

/-- ITS FALSE NEIGHBOUR: 'it returns false'. Refute it at one input. -/
def kernFullWrong : ChangeSpec := { name := "kernFull", fn := fun _ => fun
  | [d1, d2] => { results := [.lit (.bool false)], args := [d1, d2] }
  | _ => none }
def KernFullWrongFalsely : Prop := kernFullRow.holds Tryz.pinned (OpenSpec.ofChange kernFullWrong)

/-- 'penumbralaw20.KernForks': WHATEVER THE INPUT: true; the input reads as it did. -/
def kernForksSpec : ChangeSpec := { name := "kernForks", fn := fun _ => fun
  | [d1, d2, d3, d4] => { results := [.lit (.bool true)], args := [d1, d2, d3, d4] }
  | _ => none }
def kernForksRow : OpenClaim := { program := "ytlhcpplnlgehbaagreat", sum := "c5f24afdb36784ef80ce02837c75df6d1759e02ec5fa218a5b185a53a51b2ce3", func := "penumbra/penumbralaw20.KernForks", spec := "kernForks", unfollowed := true, recurses := true, plainKeys := false, apart := false }
def KernForksSaid : Prop := kernForksRow.holds Tryz.pinned (OpenSpec.ofChange kernForksSpec)

/-- ITS FALSE NEIGHBOUR: 'it returns false'. Refute it at one input. -/
def kernForksWrong : ChangeSpec := { name := "kernForks", fn := fun _ => fun
  | [d1, d2, d3, d4] => { results := [.lit (.bool false)], args := [d1, d2, d3, d4] }
  | _ => none }
def KernForksWrongFalsely : Prop := kernForksRow.holds Tryz.pinned (OpenSpec.ofChange kernForksWrong)

/- THE SECOND FORM. 'bulk': how many values and letters a reading holds, each counted each time it is reached (what is shared counts as often as it is met; a slice's spare places count too). A statement '..UptoSaid' is the law's where the arguments, and the package variables that the reading takes, are together of bulk at most 1048576: NARROWER than '..Said'. Prove '..Said' where nothing that the law and all that it calls make is longer than what came in: it says more and counts as full. Else prove '..UptoSaid'. A law counts once. -/
mutual
def uptoBulk {H : Type} : DataW H → Nat
  | .lit (.string bytes) => bytes.length + 1
  | .lit _ => 1
  | .nil => 1
  | .ptr d => uptoBulk d + 1
  | .slice elems spare => uptoBulkAll elems + uptoBulkAll spare + 1
  | .agg parts => uptoBulkAll parts + 1
  | .iface _ d => uptoBulk d + 1
  | .map entries => uptoBulkEntries entries + 1
  | .held _ => 1
def uptoBulkAll {H : Type} : List (DataW H) → Nat
  | [] => 0
  | d :: r => uptoBulk d + uptoBulkAll r
def uptoBulkEntries {H : Type} : List (Lit × DataW H) → Nat
  | [] => 0
  | x :: r => uptoBulkEntry x + uptoBulkEntries r
def uptoBulkEntry {H : Type} : Lit × DataW H → Nat
  | (.string bytes, d) => bytes.length + uptoBulk d + 1
  | (_, d) => uptoBulk d + 1
 end
def uptoSmall : (H : Type) → List (DataW H) → Bool := fun _ ds => decide (uptoBulkAll ds ≤ 1048576)
def OpenSpec.upto (s : _root_.Go.ChangeSpec) : _root_.Go.OpenSpec := { _root_.Go.OpenSpec.ofChange s with cond := some uptoSmall }

/-- 'penumbralaw20.KernPipe', WHERE WHAT IT READS IS OF BULK AT MOST 1048576: true; the input reads as it did. -/
def kernPipeUptoRow : OpenClaim := { program := "ytlhcpplnlgehbaagreat", sum := "c5f24afdb36784ef80ce02837c75df6d1759e02ec5fa218a5b185a53a51b2ce3", func := "penumbra/penumbralaw20.KernPipe", spec := "kernPipe", unfollowed := true, recurses := true, plainKeys := false, apart := false, narrowed := true }
def KernPipeUptoSaid : Prop := kernPipeUptoRow.holds Tryz.pinned (OpenSpec.upto kernPipeSpec)

/-- 'penumbralaw20.KernYields', WHERE WHAT IT READS IS OF BULK AT MOST 1048576: true; the input reads as it did. -/
def kernYieldsUptoRow : OpenClaim := { program := "ytlhcpplnlgehbaagreat", sum := "c5f24afdb36784ef80ce02837c75df6d1759e02ec5fa218a5b185a53a51b2ce3", func := "penumbra/penumbralaw20.KernYields", spec := "kernYields", unfollowed := true, recurses := true, plainKeys := false, apart := false, narrowed := true }
def KernYieldsUptoSaid : Prop := kernYieldsUptoRow.holds Tryz.pinned (OpenSpec.upto kernYieldsSpec)

/-- 'penumbralaw20.KernCalls', WHERE WHAT IT READS IS OF BULK AT MOST 1048576: true; the input reads as it did. -/
def kernCallsUptoRow : OpenClaim := { program := "ytlhcpplnlgehbaagreat", sum := "c5f24afdb36784ef80ce02837c75df6d1759e02ec5fa218a5b185a53a51b2ce3", func := "penumbra/penumbralaw20.KernCalls", spec := "kernCalls", unfollowed := true, recurses := true, plainKeys := false, apart := false, narrowed := true }
def KernCallsUptoSaid : Prop := kernCallsUptoRow.holds Tryz.pinned (OpenSpec.upto kernCallsSpec)

/-- 'penumbralaw20.KernAway', WHERE WHAT IT READS IS OF BULK AT MOST 1048576: true; the input reads as it did. -/
def kernAwayUptoRow : OpenClaim := { program := "ytlhcpplnlgehbaagreat", sum := "c5f24afdb36784ef80ce02837c75df6d1759e02ec5fa218a5b185a53a51b2ce3", func := "penumbra/penumbralaw20.KernAway", spec := "kernAway", unfollowed := true, recurses := true, plainKeys := false, apart := false, narrowed := true }
def KernAwayUptoSaid : Prop := kernAwayUptoRow.holds Tryz.pinned (OpenSpec.upto kernAwaySpec)

/-- 'penumbralaw20.KernAlone', WHERE WHAT IT READS IS OF BULK AT MOST 1048576: true; the input reads as it did. -/
def kernAloneUptoRow : OpenClaim := { program := "ytlhcpplnlgehbaagreat", sum := "c5f24afdb36784ef80ce02837c75df6d1759e02ec5fa218a5b185a53a51b2ce3", func := "penumbra/penumbralaw20.KernAlone", spec := "kernAlone", unfollowed := true, recurses := true, plainKeys := false, apart := false, narrowed := true }
def KernAloneUptoSaid : Prop := kernAloneUptoRow.holds Tryz.pinned (OpenSpec.upto kernAloneSpec)

/-- 'penumbralaw20.KernErrors', WHERE WHAT IT READS IS OF BULK AT MOST 1048576: true; the input reads as it did. -/
def kernErrorsUptoRow : OpenClaim := { program := "ytlhcpplnlgehbaagreat", sum := "c5f24afdb36784ef80ce02837c75df6d1759e02ec5fa218a5b185a53a51b2ce3", func := "penumbra/penumbralaw20.KernErrors", spec := "kernErrors", unfollowed := true, recurses := true, plainKeys := false, apart := false, narrowed := true }
def KernErrorsUptoSaid : Prop := kernErrorsUptoRow.holds Tryz.pinned (OpenSpec.upto kernErrorsSpec)

/-- 'penumbralaw20.KernPages', WHERE WHAT IT READS IS OF BULK AT MOST 1048576: true; the input reads as it did. -/
def kernPagesUptoRow : OpenClaim := { program := "ytlhcpplnlgehbaagreat", sum := "c5f24afdb36784ef80ce02837c75df6d1759e02ec5fa218a5b185a53a51b2ce3", func := "penumbra/penumbralaw20.KernPages", spec := "kernPages", unfollowed := true, recurses := true, plainKeys := false, apart := false, narrowed := true }
def KernPagesUptoSaid : Prop := kernPagesUptoRow.holds Tryz.pinned (OpenSpec.upto kernPagesSpec)

/-- 'penumbralaw20.KernTurns', WHERE WHAT IT READS IS OF BULK AT MOST 1048576: true; the input reads as it did. -/
def kernTurnsUptoRow : OpenClaim := { program := "ytlhcpplnlgehbaagreat", sum := "c5f24afdb36784ef80ce02837c75df6d1759e02ec5fa218a5b185a53a51b2ce3", func := "penumbra/penumbralaw20.KernTurns", spec := "kernTurns", unfollowed := true, recurses := true, plainKeys := false, apart := false, narrowed := true }
def KernTurnsUptoSaid : Prop := kernTurnsUptoRow.holds Tryz.pinned (OpenSpec.upto kernTurnsSpec)

/-- 'penumbralaw20.KernOut', WHERE WHAT IT READS IS OF BULK AT MOST 1048576: true; the input reads as it did. -/
def kernOutUptoRow : OpenClaim := { program := "ytlhcpplnlgehbaagreat", sum := "c5f24afdb36784ef80ce02837c75df6d1759e02ec5fa218a5b185a53a51b2ce3", func := "penumbra/penumbralaw20.KernOut", spec := "kernOut", unfollowed := true, recurses := true, plainKeys := false, apart := false, narrowed := true }
def KernOutUptoSaid : Prop := kernOutUptoRow.holds Tryz.pinned (OpenSpec.upto kernOutSpec)

/-- 'penumbralaw20.KernFlat', WHERE WHAT IT READS IS OF BULK AT MOST 1048576: true; the input reads as it did. -/
def kernFlatUptoRow : OpenClaim := { program := "ytlhcpplnlgehbaagreat", sum := "c5f24afdb36784ef80ce02837c75df6d1759e02ec5fa218a5b185a53a51b2ce3", func := "penumbra/penumbralaw20.KernFlat", spec := "kernFlat", unfollowed := true, recurses := true, plainKeys := false, apart := false, narrowed := true }
def KernFlatUptoSaid : Prop := kernFlatUptoRow.holds Tryz.pinned (OpenSpec.upto kernFlatSpec)

/-- 'penumbralaw20.KernFull', WHERE WHAT IT READS IS OF BULK AT MOST 1048576: true; the input reads as it did. -/
def kernFullUptoRow : OpenClaim := { program := "ytlhcpplnlgehbaagreat", sum := "c5f24afdb36784ef80ce02837c75df6d1759e02ec5fa218a5b185a53a51b2ce3", func := "penumbra/penumbralaw20.KernFull", spec := "kernFull", unfollowed := true, recurses := true, plainKeys := false, apart := false, narrowed := true }
def KernFullUptoSaid : Prop := kernFullUptoRow.holds Tryz.pinned (OpenSpec.upto kernFullSpec)

/-- 'penumbralaw20.KernForks', WHERE WHAT IT READS IS OF BULK AT MOST 1048576: true; the input reads as it did. -/
def kernForksUptoRow : OpenClaim := { program := "ytlhcpplnlgehbaagreat", sum := "c5f24afdb36784ef80ce02837c75df6d1759e02ec5fa218a5b185a53a51b2ce3", func := "penumbra/penumbralaw20.KernForks", spec := "kernForks", unfollowed := true, recurses := true, plainKeys := false, apart := false, narrowed := true }
def KernForksUptoSaid : Prop := kernForksUptoRow.holds Tryz.pinned (OpenSpec.upto kernForksSpec)

end Rows
end Go.Proofs.YtlhcpplnlgehbaaGreat
