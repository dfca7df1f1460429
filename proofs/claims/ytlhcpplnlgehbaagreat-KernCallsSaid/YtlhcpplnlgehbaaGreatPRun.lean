/- The abstract run: regions in order and regions whose order is drawn, control, calls. -/
import Derived.Test.YtlhcpplnlgehbaaGreatPOp
import Derived.Orders
namespace Go.Px
open Go Go.RowKit

noncomputable section

inductive AExit where
  | normal
  | exit (id : Nat)
  | ret

structure Rec where
  code : Code → Tm → Hp → Option (AExit × Tm × Hp)
  call : FuncId → List AVal → Hp → Option (AVal × Hp)

def putD (T : Tm) (d : Option Tmp) (v : AVal) : Tm := match d with
  | some d => Tm.put d v T
  | none => T

/-- Is an operation's guard met? (none: not known) -/
def wantedA (ops : Array Oper) (T : Tm) (o : Oper) : Option Bool := match o.guard with
  | none => some true
  | some (j, want) => match ops[j]? with
    | some g => match g.dst with
      | some d => match Tm.get d T with
        | some (.bool b) => some (b == want)
        | some (.tuple _) => some false
        | _ => none
      | none => none
    | none => none

def stepOp (P : Program) (F : Facts) (rec : Rec) (ops : Array Oper) (T : Tm) (H : Hp) (o : Oper) : Option (Tm × Hp) := match wantedA ops T o with
  | some true => match aopF P F T H o with
    | some (.val v H) => some (putD T o.dst v, H)
    | some (.call f args) => match rec.call f args H with
      | some (v, H) => some (putD T o.dst v, H)
      | none => none
    | none => none
  | some false => some (putD T o.dst unit, H)
  | none => none

def runOps (P : Program) (F : Facts) (rec : Rec) (ops : Array Oper) : List Oper → Tm → Hp → Option (Tm × Hp)
  | [], T, H => some (T, H)
  | o :: os, T, H => match stepOp P F rec ops T H o with
    | some (T, H) => runOps P F rec ops os T H
    | none => none

/-! ### a region whose order is drawn -/
/-- An operation, its number, the numbers of those that come before it in every order. -/
structure It where
  i : Nat
  o : Oper
  m : Nat

structure Stage where
  work : List It
  again : List It
  chain : Option It

def bindsAny (e : Edge) : Bool := match e.ground with
  | .textOnly _ => false
  | .gcOnly _ => false
  | _ => true

def maskE (acc : List It) : List Edge → Option Nat
  | [] => some 0
  | e :: es => match maskE acc es with
    | none => none
    | some s => bif bindsAny e then (match acc[e.on]? with
      | some x => some (s ||| (1 <<< e.on ||| x.m))
      | none => none) else some s

def itemsL : List Oper → List It → Option (List It)
  | [], acc => some acc
  | o :: os, acc => match maskE acc o.after.toList with
    | some m => itemsL os (acc ++ [⟨acc.length, o, m⟩])
    | none => none

/-- An operation whose value no block of the heap tells. -/
def pureOp : Op → Bool
  | .move _ | .assign _ | .pick .. | .build .. | .nilCheck _ | .unOp .. | .makeInterface .. | .makeFunc .. | .fieldAddr .. | .field .. | .indexAddr .. | .index .. | .extract .. | .typeAssert .. => true
  | _ => false
def chainOp (o : Op) : Bool := !(quietOp o || allocOp o)
def readOp (o : Op) : Bool := quietOp o && !pureOp o

def isTmp (d : Nat) : Operand → Bool
  | .tmp t => Nat.beq t d
  | _ => false
/-- Does an operation look at a temporary? -/
def looksD (ops : Array Oper) (o : Oper) (d : Nat) : Bool :=
  o.op.operands.toList.any (isTmp d) || (match o.guard with
    | some (g, _) => match ops[g]? with
      | some q => match q.dst with
        | some e => Nat.beq e d
        | none => false
      | none => false
    | none => false)
/-- Who writes a temporary (none: two write it). -/
def writers : List It → Option (Tr Nat)
  | [] => some .nil
  | x :: l => match writers l with
    | none => none
    | some W => match x.o.dst with
      | none => some W
      | some d => match W.get d with
        | none => some (W.set d x.i)
        | some _ => none
def lookOk (W : Tr Nat) (m : Nat) (d : Nat) : Bool := match W.get d with
  | none => true
  | some i => Nat.testBit m i
def opndOk (W : Tr Nat) (m : Nat) : Operand → Bool
  | .tmp t => lookOk W m t
  | _ => true
def guardOk (ops : Array Oper) (W : Tr Nat) (m : Nat) (o : Oper) : Bool := match o.guard with
  | some (g, _) => match ops[g]? with
    | some q => match q.dst with
      | some e => lookOk W m e
      | none => true
    | none => true
  | none => true
def apartAll (ops : Array Oper) (its : List It) : Bool := match writers its with
  | none => false
  | some W => its.all fun y => y.o.op.operands.toList.all (opndOk W y.m) && guardOk ops W y.m y.o

def maskL : List It → Nat
  | [] => 0
  | x :: l => 1 <<< x.i ||| maskL l
/-- Nothing of a list comes after something later in the list, or in a mask. -/
def sepM (M : Nat) : List It → Option Nat
  | [] => some M
  | p :: l => match sepM M l with
    | none => none
    | some N => bif Nat.beq (Nat.land p.m N) 0 then some (1 <<< p.i ||| N) else none

def firstChain : List It → Option It
  | [] => none
  | x :: l => bif chainOp x.o.op then some x else firstChain l

def stagesOf : Nat → List It → List It → Option (List Stage)
  | 0, _, _ => none
  | n + 1, prev, rest => match firstChain rest with
    | none => bif (sepM 0 rest).isSome then some [⟨rest, prev ++ rest.filter (fun x => readOp x.o.op), none⟩] else none
    | some c =>
      let W := rest.filter fun x => !chainOp x.o.op && !(Nat.testBit x.m c.i)
      let R := rest.filter fun x => !(Nat.beq x.i c.i) && (chainOp x.o.op || Nat.testBit x.m c.i)
      let A := prev ++ W.filter fun x => readOp x.o.op
      bif ((sepM (maskL (c :: R)) W).isSome && Nat.beq (Nat.land c.m (maskL R)) 0) && R.all (fun x => Nat.testBit x.m c.i) then
        match stagesOf n (A.filter fun x => !(Nat.testBit c.m x.i)) R with
        | some l => some (⟨W, A, some c⟩ :: l)
        | none => none
      else none

def planOf (ops : Array Oper) : Option (List Stage) := match itemsL ops.toList [] with
  | some its => bif apartAll ops its then stagesOf (its.length + 1) [] its else none
  | none => none

def workOp (P : Program) (F : Facts) (ops : Array Oper) (T : Tm) (H : Hp) (o : Oper) : Option (Tm × Hp) := match wantedA ops T o with
  | some true => match aopF P F T H o with
    | some (.val v H') => some (putD T o.dst v, bif allocOp o.op then H' else H)
    | _ => none
  | some false => some (putD T o.dst unit, H)
  | none => none

def runWork (P : Program) (F : Facts) (ops : Array Oper) : List It → Tm → Hp → Option (Tm × Hp)
  | [], T, H => some (T, H)
  | x :: l, T, H => match workOp P F ops T H x.o with
    | some (T, H) => runWork P F ops l T H
    | none => none

def listEq (e : AVal → AVal → Bool) : List AVal → List AVal → Bool
  | [], [] => true
  | a :: x, b :: y => e a b && listEq e x y
  | _, _ => false
def avEqN : Nat → AVal → AVal → Bool
  | 0, _, _ => false
  | n + 1, u, v => match u, v with
    | .bool a, .bool b => a == b
    | .int k (.lit a), .int j (.lit b) => kbeq k j && ibeq a b
    | .int k (.lin a i c), .int j (.lin b n d) => kbeq k j && (ibeq a b && (Nat.beq i n && ibeq c d))
    | .str a, .str b => natsBeq a b
    | .ptr none, .ptr none => true
    | .ptr (some (a, i)), .ptr (some (b, j)) => Nat.beq a b && Nat.beq i j
    | .slice none l (some c) s, .slice none m (some d) t => Nat.beq l m && (Nat.beq c d && Nat.beq s t)
    | .slice (some (a, i)) l (some c) s, .slice (some (b, j)) m (some d) t => (Nat.beq a b && Nat.beq i j) && (Nat.beq l m && (Nat.beq c d && Nat.beq s t))
    | .slice (some (a, i)) l none s, .slice (some (b, j)) m none t => (Nat.beq a b && Nat.beq i j) && (Nat.beq l m && Nat.beq s t)
    | .map none, .map none => true
    | .map (some a), .map (some b) => Nat.beq a b
    | .chan none, .chan none => true
    | .chan (some a), .chan (some b) => Nat.beq a b
    | .func f a c, .func g b d => Nat.beq f g && (listEq (avEqN n) a b && listEq (avEqN n) c d)
    | .nilFunc, .nilFunc => true
    | .nilIface, .nilIface => true
    | .iface t a, .iface s b => Nat.beq t s && avEqN n a b
    | .agg a, .agg b => listEq (avEqN n) a b
    | .tuple a, .tuple b => listEq (avEqN n) a b
    | _, _ => false
def avEq (a b : AVal) : Bool := avEqN 4 a b

def againOk (P : Program) (F : Facts) (ops : Array Oper) (T : Tm) (H : Hp) (o : Oper) : Bool := match wantedA ops T o with
  | some true => match aopF P F T H o with
    | some (.val v _) => match o.dst with
      | none => true
      | some d => match Tm.get d T with
        | some u => avEq u v
        | none => true
    | _ => false
  | some false => true
  | none => false

def runStages (P : Program) (F : Facts) (rec : Rec) (ops : Array Oper) : List Stage → Tm → Hp → Option (Tm × Hp)
  | [], _, _ => none
  | s :: ss, T, H => match runWork P F ops s.work T H with
    | none => none
    | some (T, H) => bif s.again.all (fun x => againOk P F ops T H x.o) then (match s.chain with
      | none => some (T, H)
      | some c => match stepOp P F rec ops T H c.o with
        | some (T, H) => runStages P F rec ops ss T H
        | none => none) else none

def runDraw (P : Program) (F : Facts) (rec : Rec) (ops : Array Oper) (T : Tm) (H : Hp) : Option (Tm × Hp) := match planOf ops with
  | some ss => runStages P F rec ops ss T H
  | none => none

/-! ### control -/
def resultA (P : Program) (T : Tm) (H : Hp) : ResultVar → Option AVal
  | .tmp t => Tm.get t T
  | .cell a t => match Tm.get a T with
    | some (.ptr (some (i, off))) => loadV P t H i off
    | _ => none

def resultsA (P : Program) (T : Tm) (H : Hp) : List ResultVar → Option (List AVal)
  | [] => some []
  | r :: rs => match resultA P T H r, resultsA P T H rs with
    | some v, some vs => some (v :: vs)
    | _, _ => none

def argsT : List AVal → Nat → Tm → Tm
  | [], _, T => T
  | v :: vs, i, T => argsT vs (i + 1) (Tm.put i v T)

abbrev Hooks := FuncId → Option (List AVal → Hp → Option (AVal × Hp))

def callA (P : Program) (rec : Rec) (f : FuncId) (args : List AVal) (H : Hp) : Option (AVal × Hp) := match P.funcs[f]? with
  | none => none
  | some fn => match fn.body with
    | none => none
    | some b => match rec.code b (argsT args 0 (Tm.mk (fn.ntmps / 16 + 1))) H with
      | some (.exit _, _, _) => none
      | some (_, T, H) => match resultsA P T H fn.results.toList with
        | some [v] => some (v, H)
        | some vs => some (.tuple vs, H)
        | none => none
      | none => none

def codeA (P : Program) (F : Facts) (rec : Rec) (c : Code) (T : Tm) (H : Hp) : Option (AExit × Tm × Hp) := match c with
  | .skip => some (.normal, T, H)
  | .label _ => some (.normal, T, H)
  | .region _ ops draw => match (bif draw then runDraw P F rec ops T H else runOps P F rec ops ops.toList T H) with
    | some (T, H) => some (.normal, T, H)
    | none => none
  | .seq a b => match rec.code a T H with
    | some (.normal, T, H) => rec.code b T H
    | r => r
  | .cond x a b => match opnd T x with
    | some (.bool t) => rec.code (bif t then a else b) T H
    | _ => none
  | .block id b => match rec.code b T H with
    | some (.exit i, T, H) => some (bif Nat.beq i id then .normal else .exit i, T, H)
    | r => r
  | .loop b => match rec.code b T H with
    | some (.normal, T, H) => rec.code (.loop b) T H
    | r => r
  | .exit id => some (.exit id, T, H)
  | .ret => some (.ret, T, H)
  | _ => none

def step (P : Program) (F : Facts) (hook : Hooks) (rec : Rec) : Rec where
  code := codeA P F rec
  call f args H := match hook f with
    | some h => h args H
    | none => callA P rec f args H

def exec (P : Program) (F : Facts) (hook : Hooks) : Nat → Rec
  | 0 => ⟨fun _ _ _ => none, fun _ _ _ => none⟩
  | n + 1 => step P F hook (exec P F hook n)

end
end Go.Px
