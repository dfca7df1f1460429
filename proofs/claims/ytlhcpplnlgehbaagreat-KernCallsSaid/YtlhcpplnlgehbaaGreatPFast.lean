/- The same run for the kernel: every arm a name of its own, so that nothing open is made anew. -/
import Derived.Test.YtlhcpplnlgehbaaGreatPTop
namespace Go.Px
open Go Go.RowKit

noncomputable section

inductive RO where
  | fail
  | ok (T : Tm) (H : Hp)
inductive RV where
  | fail
  | ok (v : AVal) (H : Hp)
inductive RC where
  | fail
  | norm (T : Tm) (H : Hp)
  | exit (i : Nat) (T : Tm) (H : Hp)
  | ret (T : Tm) (H : Hp)
structure RecF where
  code : Code → Tm → Hp → RC
  call : FuncId → List AVal → Hp → RV

def RO.opt : RO → Option (Tm × Hp)
  | .fail => none
  | .ok T H => some (T, H)
def RV.opt : RV → Option (AVal × Hp)
  | .fail => none
  | .ok v H => some (v, H)
def RC.opt : RC → Option (AExit × Tm × Hp)
  | .fail => none
  | .norm T H => some (.normal, T, H)
  | .exit i T H => some (.exit i, T, H)
  | .ret T H => some (.ret, T, H)

/-! ### one operation -/
def fPutN (_v : AVal) (T : Tm) : Tm := T
def fPutS (d : Tmp) (v : AVal) (T : Tm) : Tm := Tm.put d v T
def putF (d : Option Tmp) (v : AVal) (T : Tm) : Tm := Option.rec (motive := fun _ => AVal → Tm → Tm) fPutN fPutS d v T

def fRvFail (_d : Option Tmp) (_T : Tm) : RO := .fail
def fRvOk (v : AVal) (H : Hp) (d : Option Tmp) (T : Tm) : RO := .ok (putF d v T) H
def fVal (v : AVal) (H : Hp) (_rec : RecF) (T : Tm) (_H0 : Hp) (o : Oper) : RO := .ok (putF o.dst v T) H
def fCall (f : FuncId) (args : List AVal) (rec : RecF) (T : Tm) (H0 : Hp) (o : Oper) : RO :=
  RV.rec (motive := fun _ => Option Tmp → Tm → RO) fRvFail fRvOk (rec.call f args H0) o.dst T
def fNone (_rec : RecF) (_T : Tm) (_H0 : Hp) (_o : Oper) : RO := .fail
def fSome (x : ANext) (rec : RecF) (T : Tm) (H0 : Hp) (o : Oper) : RO := ANext.rec (motive := fun _ => RecF → Tm → Hp → Oper → RO) fVal fCall x rec T H0 o
def doneF (r : Option ANext) (rec : RecF) (T : Tm) (H : Hp) (o : Oper) : RO := Option.rec (motive := fun _ => RecF → Tm → Hp → Oper → RO) fNone fSome r rec T H o

def gNone (P : Program) (F : Facts) (rec : RecF) (_ops : Array Oper) (T : Tm) (H : Hp) (o : Oper) : RO := doneF (aopF P F T H o) rec T H o
def gFail (_P : Program) (_F : Facts) (_rec : RecF) (_T : Tm) (_H : Hp) (_o : Oper) : RO := .fail
def gBool (P : Program) (F : Facts) (rec : RecF) (T : Tm) (H : Hp) (o : Oper) (b : Bool) : RO :=
  Bool.rec (motive := fun _ => RO) (.ok (putF o.dst unit T) H) (doneF (aopF P F T H o) rec T H o) b
def gWant (w : Option Bool) (P : Program) (F : Facts) (rec : RecF) (T : Tm) (H : Hp) (o : Oper) : RO :=
  Option.rec (motive := fun _ => RO) .fail (fun b => gBool P F rec T H o b) w
def gSome (_g : Nat × Bool) (P : Program) (F : Facts) (rec : RecF) (ops : Array Oper) (T : Tm) (H : Hp) (o : Oper) : RO := gWant (wantedA ops T o) P F rec T H o
def stepF (P : Program) (F : Facts) (rec : RecF) (ops : Array Oper) (T : Tm) (H : Hp) (o : Oper) : RO :=
  Option.rec (motive := fun _ => Program → Facts → RecF → Array Oper → Tm → Hp → Oper → RO) gNone gSome o.guard P F rec ops T H o

theorem putF_eq (d : Option Tmp) (v : AVal) (T : Tm) : putF d v T = putD T d v := by cases d <;> rfl

theorem stepF_eq {P : Program} {F : Facts} {rec : Rec} {recF : RecF} (hc : ∀ f as H, (recF.call f as H).opt = rec.call f as H) (ops : Array Oper) (T : Tm) (H : Hp) (o : Oper) :
    (stepF P F recF ops T H o).opt = stepOp P F rec ops T H o := by
  have hdone : (doneF (aopF P F T H o) recF T H o).opt = (match aopF P F T H o with
      | some (.val v H) => some (putD T o.dst v, H)
      | some (.call f args) => match rec.call f args H with
        | some (v, H) => some (putD T o.dst v, H)
        | none => none
      | none => none) := by
    cases h : aopF P F T H o with
    | none => rfl
    | some x =>
      cases x with
      | val v H' => show some (putF o.dst v T, H') = _; rw [putF_eq]
      | call f as =>
        have := hc f as H
        show (fCall f as recF T H o).opt = _
        unfold fCall
        simp only
        rw [← this]
        cases recF.call f as H with
        | fail => rfl
        | ok v H' => show some (putF o.dst v T, H') = _; rw [putF_eq]; rfl
  unfold stepOp
  cases hg : o.guard with
  | none =>
    have hw : wantedA ops T o = some true := by unfold wantedA; rw [hg]
    have e : stepF P F recF ops T H o = doneF (aopF P F T H o) recF T H o := by unfold stepF; rw [hg]; rfl
    rw [e, hw]; exact hdone
  | some g =>
    have e : stepF P F recF ops T H o = gWant (wantedA ops T o) P F recF T H o := by unfold stepF; rw [hg]; rfl
    rw [e]
    cases hw : wantedA ops T o with
    | none => rfl
    | some b =>
      cases b with
      | true => exact hdone
      | false => show some (putF o.dst unit T, H) = _; rw [putF_eq]

/-! ### the operations of a region -/
abbrev OpsK := Program → Facts → RecF → Array Oper → Tm → Hp → RO
def rNil (_P : Program) (_F : Facts) (_rec : RecF) (_ops : Array Oper) (T : Tm) (H : Hp) : RO := .ok T H
def rFail (_k : OpsK) (_P : Program) (_F : Facts) (_rec : RecF) (_ops : Array Oper) : RO := .fail
def rOk (T : Tm) (H : Hp) (k : OpsK) (P : Program) (F : Facts) (rec : RecF) (ops : Array Oper) : RO := k P F rec ops T H
def rCons (o : Oper) (_os : List Oper) (k : OpsK) (P : Program) (F : Facts) (rec : RecF) (ops : Array Oper) (T : Tm) (H : Hp) : RO :=
  RO.rec (motive := fun _ => OpsK → Program → Facts → RecF → Array Oper → RO) rFail rOk (stepF P F rec ops T H o) k P F rec ops
def opsF (l : List Oper) : OpsK := List.rec (motive := fun _ => OpsK) rNil rCons l

theorem opsF_eq {P : Program} {F : Facts} {rec : Rec} {recF : RecF} (hc : ∀ f as H, (recF.call f as H).opt = rec.call f as H) (ops : Array Oper) : ∀ (l : List Oper) (T : Tm) (H : Hp),
    (opsF l P F recF ops T H).opt = runOps P F rec ops l T H := by
  intro l
  induction l with
  | nil => intro T H; rfl
  | cons o os ih =>
    intro T H
    have := stepF_eq (P := P) (F := F) hc ops T H o
    show (RO.rec (motive := fun _ => OpsK → Program → Facts → RecF → Array Oper → RO) rFail rOk (stepF P F recF ops T H o) (opsF os) P F recF ops : RO).opt = _
    unfold runOps
    rw [← this]
    cases stepF P F recF ops T H o with
    | fail => rfl
    | ok T' H' => exact ih T' H'

/-! ### a region whose order is drawn -/
def wVal (v : AVal) (H' : Hp) (T : Tm) (H : Hp) (o : Oper) : RO := .ok (putF o.dst v T) (Bool.rec (motive := fun _ => Hp) H H' (allocOp o.op))
def wCall (_f : FuncId) (_args : List AVal) (_T : Tm) (_H : Hp) (_o : Oper) : RO := .fail
def wNone (_T : Tm) (_H : Hp) (_o : Oper) : RO := .fail
def wSome (x : ANext) (T : Tm) (H : Hp) (o : Oper) : RO := ANext.rec (motive := fun _ => Tm → Hp → Oper → RO) wVal wCall x T H o
def wDone (r : Option ANext) (T : Tm) (H : Hp) (o : Oper) : RO := Option.rec (motive := fun _ => Tm → Hp → Oper → RO) wNone wSome r T H o
def wFail (_P : Program) (_F : Facts) (_T : Tm) (_H : Hp) (_o : Oper) : RO := .fail
def wOff (_P : Program) (_F : Facts) (T : Tm) (H : Hp) (o : Oper) : RO := .ok (putF o.dst unit T) H
def wOn (P : Program) (F : Facts) (T : Tm) (H : Hp) (o : Oper) : RO := wDone (aopF P F T H o) T H o
def wBool (b : Bool) : Program → Facts → Tm → Hp → Oper → RO := Bool.rec (motive := fun _ => Program → Facts → Tm → Hp → Oper → RO) wOff wOn b
def hNone (P : Program) (F : Facts) (_ops : Array Oper) (T : Tm) (H : Hp) (o : Oper) : RO := wOn P F T H o
def hSome (_g : Nat × Bool) (P : Program) (F : Facts) (ops : Array Oper) (T : Tm) (H : Hp) (o : Oper) : RO :=
  Option.rec (motive := fun _ => Program → Facts → Tm → Hp → Oper → RO) wFail wBool (wantedA ops T o) P F T H o
def workF (P : Program) (F : Facts) (ops : Array Oper) (T : Tm) (H : Hp) (o : Oper) : RO :=
  Option.rec (motive := fun _ => Program → Facts → Array Oper → Tm → Hp → Oper → RO) hNone hSome o.guard P F ops T H o

theorem workF_eq (P : Program) (F : Facts) (ops : Array Oper) (T : Tm) (H : Hp) (o : Oper) : (workF P F ops T H o).opt = workOp P F ops T H o := by
  have hdone : (wDone (aopF P F T H o) T H o).opt = (match aopF P F T H o with
      | some (.val v H') => some (putD T o.dst v, bif allocOp o.op then H' else H)
      | _ => none) := by
    cases h : aopF P F T H o with
    | none => rfl
    | some x =>
      cases x with
      | val v H' =>
        show some (putF o.dst v T, _) = _
        rw [putF_eq]
        cases allocOp o.op <;> rfl
      | call f as => rfl
  unfold workOp
  cases hg : o.guard with
  | none =>
    have hw : wantedA ops T o = some true := by unfold wantedA; rw [hg]
    have e : workF P F ops T H o = wDone (aopF P F T H o) T H o := by unfold workF; rw [hg]; rfl
    rw [e, hw]; exact hdone
  | some g =>
    have e : workF P F ops T H o = (Option.rec (motive := fun _ => Program → Facts → Tm → Hp → Oper → RO) wFail wBool (wantedA ops T o) P F T H o : RO) := by unfold workF; rw [hg]; rfl
    rw [e]
    cases hw : wantedA ops T o with
    | none => rfl
    | some b =>
      cases b with
      | true => exact hdone
      | false => show some (putF o.dst unit T, H) = _; rw [putF_eq]

abbrev WorkK := Program → Facts → Array Oper → Tm → Hp → RO
def lNil (_P : Program) (_F : Facts) (_ops : Array Oper) (T : Tm) (H : Hp) : RO := .ok T H
def lFail (_k : WorkK) (_P : Program) (_F : Facts) (_ops : Array Oper) : RO := .fail
def lOk (T : Tm) (H : Hp) (k : WorkK) (P : Program) (F : Facts) (ops : Array Oper) : RO := k P F ops T H
def lCons (x : It) (_l : List It) (k : WorkK) (P : Program) (F : Facts) (ops : Array Oper) (T : Tm) (H : Hp) : RO :=
  RO.rec (motive := fun _ => WorkK → Program → Facts → Array Oper → RO) lFail lOk (workF P F ops T H x.o) k P F ops
def worksF (l : List It) : WorkK := List.rec (motive := fun _ => WorkK) lNil lCons l
theorem worksF_eq (P : Program) (F : Facts) (ops : Array Oper) : ∀ (l : List It) (T : Tm) (H : Hp), (worksF l P F ops T H).opt = runWork P F ops l T H := by
  intro l
  induction l with
  | nil => intro T H; rfl
  | cons x l ih =>
    intro T H
    have := workF_eq P F ops T H x.o
    show (RO.rec (motive := fun _ => WorkK → Program → Facts → Array Oper → RO) lFail lOk (workF P F ops T H x.o) (worksF l) P F ops : RO).opt = _
    unfold runWork
    rw [← this]
    cases workF P F ops T H x.o with
    | fail => rfl
    | ok T' H' => exact ih T' H'

/-! values held against each other: numbers, truths, places first -/
def qNo (_v : AVal) : Bool := false
def qBool (a : Bool) (v : AVal) : Bool := avEq (.bool a) v
def litOk (k : IntKind) (a : Int) (j : IntKind) (s : SInt) : Bool := SInt.rec (motive := fun _ => Bool) (fun b => kbeq k j && ibeq a b) (fun _ _ _ => false) s
def qIntLit (k : IntKind) (a : Int) (v : AVal) : Bool := avEq (.int k (.lit a)) v

def jVal (v : AVal) (_H : Hp) (T : Tm) (o : Oper) : Bool := match o.dst with
  | none => true
  | some d => match Tm.get d T with
    | some u => avEq u v
    | none => true
def jCall (_f : FuncId) (_args : List AVal) (_T : Tm) (_o : Oper) : Bool := false
def jNone (_T : Tm) (_o : Oper) : Bool := false
def jSome (x : ANext) (T : Tm) (o : Oper) : Bool := ANext.rec (motive := fun _ => Tm → Oper → Bool) jVal jCall x T o
def jDone (r : Option ANext) (T : Tm) (o : Oper) : Bool := Option.rec (motive := fun _ => Tm → Oper → Bool) jNone jSome r T o
def iNone (P : Program) (F : Facts) (_ops : Array Oper) (T : Tm) (H : Hp) (o : Oper) : Bool := jDone (aopF P F T H o) T o
def iSome (_g : Nat × Bool) (P : Program) (F : Facts) (ops : Array Oper) (T : Tm) (H : Hp) (o : Oper) : Bool := againOk P F ops T H o
def againF (P : Program) (F : Facts) (ops : Array Oper) (T : Tm) (H : Hp) (o : Oper) : Bool :=
  Option.rec (motive := fun _ => Program → Facts → Array Oper → Tm → Hp → Oper → Bool) iNone iSome o.guard P F ops T H o
theorem againF_eq (P : Program) (F : Facts) (ops : Array Oper) (T : Tm) (H : Hp) (o : Oper) : againF P F ops T H o = againOk P F ops T H o := by
  cases hg : o.guard with
  | none =>
    have hw : wantedA ops T o = some true := by unfold wantedA; rw [hg]
    have e : againF P F ops T H o = jDone (aopF P F T H o) T o := by unfold againF; rw [hg]; rfl
    rw [e]
    unfold againOk
    rw [hw]
    cases aopF P F T H o with
    | none => rfl
    | some x => cases x <;> rfl
  | some g => unfold againF; rw [hg]; rfl
def allF (P : Program) (F : Facts) (ops : Array Oper) (T : Tm) (H : Hp) (l : List It) : Bool := List.rec (motive := fun _ => Bool) true (fun x _ ih => Bool.rec (motive := fun _ => Bool) false ih (againF P F ops T H x.o)) l
theorem allF_eq (P : Program) (F : Facts) (ops : Array Oper) (T : Tm) (H : Hp) : ∀ l : List It, allF P F ops T H l = l.all (fun x => againOk P F ops T H x.o) := by
  intro l
  induction l with
  | nil => rfl
  | cons x l ih =>
    show (Bool.rec (motive := fun _ => Bool) false (allF P F ops T H l) (againF P F ops T H x.o) : Bool) = _
    rw [againF_eq, ih, List.all_cons]
    cases againOk P F ops T H x.o <;> rfl

abbrev StagesK := Program → Facts → RecF → Array Oper → Tm → Hp → RO
def tNil (_P : Program) (_F : Facts) (_rec : RecF) (_ops : Array Oper) (_T : Tm) (_H : Hp) : RO := .fail
def tLast (_k : StagesK) (_P : Program) (_F : Facts) (_rec : RecF) (_ops : Array Oper) (T : Tm) (H : Hp) : RO := .ok T H
def tFail (_k : StagesK) (_P : Program) (_F : Facts) (_rec : RecF) (_ops : Array Oper) : RO := .fail
def tOk (T : Tm) (H : Hp) (k : StagesK) (P : Program) (F : Facts) (rec : RecF) (ops : Array Oper) : RO := k P F rec ops T H
def tChain (c : It) (k : StagesK) (P : Program) (F : Facts) (rec : RecF) (ops : Array Oper) (T : Tm) (H : Hp) : RO :=
  RO.rec (motive := fun _ => StagesK → Program → Facts → RecF → Array Oper → RO) tFail tOk (stepF P F rec ops T H c.o) k P F rec ops
def tAgainNo (_s : Stage) (_k : StagesK) (_P : Program) (_F : Facts) (_rec : RecF) (_ops : Array Oper) (_T : Tm) (_H : Hp) : RO := .fail
def tAgainOk (s : Stage) (k : StagesK) (P : Program) (F : Facts) (rec : RecF) (ops : Array Oper) (T : Tm) (H : Hp) : RO :=
  Option.rec (motive := fun _ => StagesK → Program → Facts → RecF → Array Oper → Tm → Hp → RO) tLast tChain s.chain k P F rec ops T H
def tWFail (_s : Stage) (_k : StagesK) (_P : Program) (_F : Facts) (_rec : RecF) (_ops : Array Oper) : RO := .fail
def tWOk (T : Tm) (H : Hp) (s : Stage) (k : StagesK) (P : Program) (F : Facts) (rec : RecF) (ops : Array Oper) : RO :=
  Bool.rec (motive := fun _ => Stage → StagesK → Program → Facts → RecF → Array Oper → Tm → Hp → RO) tAgainNo tAgainOk (allF P F ops T H s.again) s k P F rec ops T H
def tCons (s : Stage) (_ss : List Stage) (k : StagesK) (P : Program) (F : Facts) (rec : RecF) (ops : Array Oper) (T : Tm) (H : Hp) : RO :=
  RO.rec (motive := fun _ => Stage → StagesK → Program → Facts → RecF → Array Oper → RO) tWFail tWOk (worksF s.work P F ops T H) s k P F rec ops
def stagesK (l : List Stage) : StagesK := List.rec (motive := fun _ => StagesK) tNil tCons l
def dNone (_P : Program) (_F : Facts) (_rec : RecF) (_ops : Array Oper) (_T : Tm) (_H : Hp) : RO := .fail
def dSome (ss : List Stage) (P : Program) (F : Facts) (rec : RecF) (ops : Array Oper) (T : Tm) (H : Hp) : RO := stagesK ss P F rec ops T H
def drawF (P : Program) (F : Facts) (rec : RecF) (ops : Array Oper) (T : Tm) (H : Hp) : RO :=
  Option.rec (motive := fun _ => StagesK) dNone dSome (planOf ops) P F rec ops T H

theorem stagesF_eq {P : Program} {F : Facts} {rec : Rec} {recF : RecF} (hc : ∀ f as H, (recF.call f as H).opt = rec.call f as H) (ops : Array Oper) : ∀ (l : List Stage) (T : Tm) (H : Hp),
    (stagesK l P F recF ops T H).opt = runStages P F rec ops l T H := by
  intro l
  induction l with
  | nil => intro T H; rfl
  | cons s ss ih =>
    intro T H
    have hw := worksF_eq P F ops s.work T H
    show (RO.rec (motive := fun _ => Stage → StagesK → Program → Facts → RecF → Array Oper → RO) tWFail tWOk (worksF s.work P F ops T H) s (stagesK ss) P F recF ops : RO).opt = _
    unfold runStages
    rw [← hw]
    cases worksF s.work P F ops T H with
    | fail => rfl
    | ok T1 H1 =>
      show (Bool.rec (motive := fun _ => Stage → StagesK → Program → Facts → RecF → Array Oper → Tm → Hp → RO) tAgainNo tAgainOk (allF P F ops T1 H1 s.again) s (stagesK ss) P F recF ops T1 H1 : RO).opt = _
      rw [allF_eq]
      simp only [RO.opt]
      cases s.again.all (fun x => againOk P F ops T1 H1 x.o) with
      | false => rfl
      | true =>
        simp only [cond_true]
        show (tAgainOk s (stagesK ss) P F recF ops T1 H1).opt = _
        unfold tAgainOk
        cases s.chain with
        | none => rfl
        | some c =>
          have := stepF_eq (P := P) (F := F) hc ops T1 H1 c.o
          show (RO.rec (motive := fun _ => StagesK → Program → Facts → RecF → Array Oper → RO) tFail tOk (stepF P F recF ops T1 H1 c.o) (stagesK ss) P F recF ops : RO).opt = _
          simp only
          rw [← this]
          cases stepF P F recF ops T1 H1 c.o with
          | fail => rfl
          | ok T2 H2 => exact ih T2 H2

theorem drawF_eq {P : Program} {F : Facts} {rec : Rec} {recF : RecF} (hc : ∀ f as H, (recF.call f as H).opt = rec.call f as H) (ops : Array Oper) (T : Tm) (H : Hp) : (drawF P F recF ops T H).opt = runDraw P F rec ops T H := by
  unfold drawF runDraw
  cases planOf ops with
  | none => rfl
  | some ss => exact stagesF_eq hc ops ss T H

/-! ### control -/
abbrev CodeK := Program → Facts → RecF → Tm → Hp → RC
def cSkip (_P : Program) (_F : Facts) (_rec : RecF) (T : Tm) (H : Hp) : RC := .norm T H
def cFail (_P : Program) (_F : Facts) (_rec : RecF) (_T : Tm) (_H : Hp) : RC := .fail
def cLabel (_l : Nat) : CodeK := cSkip
def cRoFail : RC := .fail
def cRoOk (T : Tm) (H : Hp) : RC := .norm T H
def cRegion (_id : Nat) (ops : Array Oper) (draw : Bool) (P : Program) (F : Facts) (rec : RecF) (T : Tm) (H : Hp) : RC :=
  RO.rec (motive := fun _ => RC) cRoFail cRoOk (Bool.rec (motive := fun _ => RO) (opsF ops.toList P F rec ops T H) (drawF P F rec ops T H) draw)
def sFail (_rec : RecF) (_b : Code) : RC := .fail
def sNorm (T : Tm) (H : Hp) (rec : RecF) (b : Code) : RC := rec.code b T H
def sExit (i : Nat) (T : Tm) (H : Hp) (_rec : RecF) (_b : Code) : RC := .exit i T H
def sRet (T : Tm) (H : Hp) (_rec : RecF) (_b : Code) : RC := .ret T H
def cSeq (a b : Code) (_P : Program) (_F : Facts) (rec : RecF) (T : Tm) (H : Hp) : RC := RC.rec (motive := fun _ => RecF → Code → RC) sFail sNorm sExit sRet (rec.code a T H) rec b
def cLoop (b : Code) (_P : Program) (_F : Facts) (rec : RecF) (T : Tm) (H : Hp) : RC := RC.rec (motive := fun _ => RecF → Code → RC) sFail sNorm sExit sRet (rec.code b T H) rec (.loop b)
def bFail (_id : Nat) : RC := .fail
def bNorm (T : Tm) (H : Hp) (_id : Nat) : RC := .norm T H
def bExit (i : Nat) (T : Tm) (H : Hp) (id : Nat) : RC := Bool.rec (motive := fun _ => RC) (.exit i T H) (.norm T H) (Nat.beq i id)
def bRet (T : Tm) (H : Hp) (_id : Nat) : RC := .ret T H
def cBlock (id : Nat) (b : Code) (_P : Program) (_F : Facts) (rec : RecF) (T : Tm) (H : Hp) : RC := RC.rec (motive := fun _ => Nat → RC) bFail bNorm bExit bRet (rec.code b T H) id
def kFalse (_a b : Code) (rec : RecF) (T : Tm) (H : Hp) : RC := rec.code b T H
def kTrue (a _b : Code) (rec : RecF) (T : Tm) (H : Hp) : RC := rec.code a T H
def kBool (t : Bool) : Code → Code → RecF → Tm → Hp → RC := Bool.rec (motive := fun _ => Code → Code → RecF → Tm → Hp → RC) kFalse kTrue t
def boolOf (x : Option AVal) : Option Bool := match x with
  | some (.bool t) => some t
  | _ => none
def kNone (_a _b : Code) (_rec : RecF) (_T : Tm) (_H : Hp) : RC := .fail
def cCond (x : Operand) (a b : Code) (_P : Program) (_F : Facts) (rec : RecF) (T : Tm) (H : Hp) : RC := Option.rec (motive := fun _ => Code → Code → RecF → Tm → Hp → RC) kNone kBool (boolOf (opnd T x)) a b rec T H
def cExit (id : Nat) (_P : Program) (_F : Facts) (_rec : RecF) (T : Tm) (H : Hp) : RC := .exit id T H
def cRet (_P : Program) (_F : Facts) (_rec : RecF) (T : Tm) (H : Hp) : RC := .ret T H
def cRegion' (id : Nat) (ops : Array Oper) (draw : Bool) : CodeK := cRegion id ops draw
def cSeq' (a b : Code) (_ _ : CodeK) : CodeK := cSeq a b
def cCond' (x : Operand) (a b : Code) (_ _ : CodeK) : CodeK := cCond x a b
def cBlock' (id : Nat) (b : Code) (_ : CodeK) : CodeK := cBlock id b
def cLoop' (b : Code) (_ : CodeK) : CodeK := cLoop b
def cRange' (_f : Operand) (_ps : Array Tmp) (_a _b : Code) (_ _ : CodeK) : CodeK := cFail
def cScope' (_b : Code) (_ : CodeK) : CodeK := cFail
def cGoto' (_l : Nat) : CodeK := cFail
def cRefuse' (_w : String) : CodeK := cFail
def codeF (P : Program) (F : Facts) (rec : RecF) (c : Code) (T : Tm) (H : Hp) : RC :=
  Code.rec (motive := fun _ => CodeK) cSkip cRegion' cSeq' cCond' cBlock' cLoop' cRange' cExit cScope' cLabel cGoto' cRet cRefuse' c P F rec T H

theorem boolOf_eq (x : Option AVal) : (∃ t, x = some (.bool t) ∧ boolOf x = some t) ∨ (boolOf x = none ∧ ∀ t, x ≠ some (.bool t)) := by
  cases x with
  | none => exact .inr ⟨rfl, nofun⟩
  | some v => cases v <;> first | exact .inl ⟨_, rfl, rfl⟩ | exact .inr ⟨rfl, nofun⟩

theorem codeF_eq {P : Program} {F : Facts} {rec : Rec} {recF : RecF} (hd : ∀ c T H, (recF.code c T H).opt = rec.code c T H) (hc : ∀ f as H, (recF.call f as H).opt = rec.call f as H) (c : Code) (T : Tm) (H : Hp) :
    (codeF P F recF c T H).opt = codeA P F rec c T H := by
  cases c with
  | skip => rfl
  | label l => rfl
  | exit id => rfl
  | ret => rfl
  | rangeFunc f ps a b => rfl
  | scope b => rfl
  | goto l => rfl
  | refuse w => rfl
  | region id ops draw =>
    unfold codeA
    have h : ∀ (r : RO) (q : Option (Tm × Hp)), r.opt = q → (RO.rec (motive := fun _ => RC) cRoFail cRoOk r : RC).opt = (match q with
        | some (T, H) => some (.normal, T, H)
        | none => none) := by
      intro r q h; subst h; cases r <;> rfl
    cases draw with
    | false => exact h _ _ (opsF_eq hc ops ops.toList T H)
    | true => exact h _ _ (drawF_eq hc ops T H)
  | seq a b =>
    have ha := hd a T H
    show (RC.rec (motive := fun _ => RecF → Code → RC) sFail sNorm sExit sRet (recF.code a T H) recF b : RC).opt = _
    unfold codeA
    simp only
    rw [← ha]
    cases recF.code a T H with
    | norm T1 H1 => exact hd b T1 H1
    | _ => rfl
  | loop b =>
    have ha := hd b T H
    show (RC.rec (motive := fun _ => RecF → Code → RC) sFail sNorm sExit sRet (recF.code b T H) recF (.loop b) : RC).opt = _
    unfold codeA
    simp only
    rw [← ha]
    cases recF.code b T H with
    | norm T1 H1 => exact hd (.loop b) T1 H1
    | _ => rfl
  | block id b =>
    have ha := hd b T H
    show (RC.rec (motive := fun _ => Nat → RC) bFail bNorm bExit bRet (recF.code b T H) id : RC).opt = _
    unfold codeA
    simp only
    rw [← ha]
    cases recF.code b T H with
    | exit i T1 H1 =>
      show (bExit i T1 H1 id).opt = _
      unfold bExit
      simp only [RC.opt]
      cases Nat.beq i id <;> rfl
    | _ => rfl
  | cond x a b =>
    show (Option.rec (motive := fun _ => Code → Code → RecF → Tm → Hp → RC) kNone kBool (boolOf (opnd T x)) a b recF T H : RC).opt = _
    unfold codeA
    rcases boolOf_eq (opnd T x) with ⟨t, h1, h2⟩ | ⟨h1, h2⟩
    · rw [h2]
      simp only
      rw [h1]
      cases t with
      | true => exact hd a T H
      | false => exact hd b T H
    · rw [h1]
      simp only
      rfl

/-! ### calls -/
def vFail (_P : Program) (_fn : Func) : RV := .fail
def vEnd (T : Tm) (H : Hp) (P : Program) (fn : Func) : RV := match resultsA P T H fn.results.toList with
  | some [v] => .ok v H
  | some vs => .ok (.tuple vs) H
  | none => .fail
def vExit (_i : Nat) (_T : Tm) (_H : Hp) (_P : Program) (_fn : Func) : RV := .fail
def vBody (b : Code) (P : Program) (rec : RecF) (fn : Func) (args : List AVal) (H : Hp) : RV :=
  RC.rec (motive := fun _ => Program → Func → RV) vFail vEnd vExit vEnd (rec.code b (argsT args 0 (Tm.mk (fn.ntmps / 16 + 1))) H) P fn
def vNo (_P : Program) (_rec : RecF) (_fn : Func) (_args : List AVal) (_H : Hp) : RV := .fail
def vFn (fn : Func) (P : Program) (rec : RecF) (args : List AVal) (H : Hp) : RV :=
  Option.rec (motive := fun _ => Program → RecF → Func → List AVal → Hp → RV) vNo vBody fn.body P rec fn args H
def vNoFn (_P : Program) (_rec : RecF) (_args : List AVal) (_H : Hp) : RV := .fail
def callB (P : Program) (rec : RecF) (f : FuncId) (args : List AVal) (H : Hp) : RV :=
  Option.rec (motive := fun _ => Program → RecF → List AVal → Hp → RV) vNoFn vFn P.funcs[f]? P rec args H
def RV.of : Option (AVal × Hp) → RV
  | none => .fail
  | some (v, H) => .ok v H
def callF (P : Program) (hook : Hooks) (rec : RecF) (f : FuncId) (args : List AVal) (H : Hp) : RV := match hook f with
  | some h => RV.of (h args H)
  | none => callB P rec f args H

theorem callB_eq {P : Program} {rec : Rec} {recF : RecF} (hd : ∀ c T H, (recF.code c T H).opt = rec.code c T H) (f : FuncId) (args : List AVal) (H : Hp) : (callB P recF f args H).opt = callA P rec f args H := by
  unfold callA callB
  cases P.funcs[f]? with
  | none => rfl
  | some fn =>
    show (vFn fn P recF args H).opt = _
    unfold vFn
    simp only
    cases fn.body with
    | none => rfl
    | some b =>
      show (vBody b P recF fn args H).opt = _
      unfold vBody
      simp only
      rw [← hd]
      have he : ∀ (T1 : Tm) (H1 : Hp), (vEnd T1 H1 P fn).opt = (match resultsA P T1 H1 fn.results.toList with
          | some [v] => some (v, H1)
          | some vs => some (.tuple vs, H1)
          | none => none) := by
        intro T1 H1
        unfold vEnd
        split <;> rfl
      cases recF.code b (argsT args 0 (Tm.mk (fn.ntmps / 16 + 1))) H with
      | fail => rfl
      | exit => rfl
      | norm T1 H1 => exact he T1 H1
      | ret T1 H1 => exact he T1 H1

def zCode (_c : Code) (_T : Tm) (_H : Hp) : RC := .fail
def zCall (_f : FuncId) (_a : List AVal) (_H : Hp) : RV := .fail
def execF (P : Program) (F : Facts) (hook : Hooks) (n : Nat) : RecF := Nat.rec (motive := fun _ => RecF) ⟨zCode, zCall⟩ (fun _ ih => ⟨codeF P F ih, callF P hook ih⟩) n

theorem execF_eq {P : Program} {F : Facts} {hook : Hooks} : ∀ n, (∀ c T H, ((execF P F hook n).code c T H).opt = (exec P F hook n).code c T H) ∧ (∀ f as H, ((execF P F hook n).call f as H).opt = (exec P F hook n).call f as H) := by
  intro n
  induction n with
  | zero => exact ⟨fun _ _ _ => rfl, fun _ _ _ => rfl⟩
  | succ n ih =>
    refine ⟨fun c T H => codeF_eq ih.1 ih.2 c T H, fun f as H => ?_⟩
    show (callF P hook (execF P F hook n) f as H).opt = (match hook f with
      | some h => h as H
      | none => callA P (exec P F hook n) f as H)
    unfold callF
    cases hook f with
    | none => exact callB_eq ih.1 f as H
    | some h =>
      show (RV.of (h as H)).opt = h as H
      cases h as H with
      | none => rfl
      | some p => rfl

/-- Did a call answer true? -/
def trueF : RV → Bool
  | .ok (.bool b) _ => b
  | _ => false

theorem trueF_exec {P : Program} {F : Facts} {hook : Hooks} {n : Nat} {f : FuncId} {args : List AVal} {H : Hp} (h : trueF ((execF P F hook n).call f args H) = true) : ∃ H', (exec P F hook n).call f args H = some (.bool true, H') := by
  rw [← (execF_eq n).2]
  unfold trueF at h
  split at h
  · rename_i b H' he; subst h; rw [he]; exact ⟨H', rfl⟩
  · cases h
end
end Go.Px
