/- The run, made ready once for each place of the code: what the kernel reckons. -/
import Derived.Test.YtlhcpplnlgehbaaGreatPFast
namespace Go.Px
open Go Go.RowKit
noncomputable section

/-! ### places of temporaries -/
structure Ac where
  get : Tm → Option AVal
structure Pu where
  put : AVal → Tm → Tm
def acN (g : Tm → Option AVal) (T : Tm) : Option AVal := g (Tm.nx T)
def acStep (a : Ac) : Ac := Ac.rec (motive := fun _ => Ac) (fun g => ⟨acN g⟩) a
def acK (k : Nat) (a : Ac) : Ac := Nat.rec (motive := fun _ => Ac) a (fun _ ih => acStep ih) k
def acD (d : D16) : Ac := D16.rec (motive := fun _ => Ac) ⟨Tm.g0⟩ ⟨Tm.g1⟩ ⟨Tm.g2⟩ ⟨Tm.g3⟩ ⟨Tm.g4⟩ ⟨Tm.g5⟩ ⟨Tm.g6⟩ ⟨Tm.g7⟩ ⟨Tm.g8⟩ ⟨Tm.g9⟩ ⟨Tm.g10⟩ ⟨Tm.g11⟩ ⟨Tm.g12⟩ ⟨Tm.g13⟩ ⟨Tm.g14⟩ ⟨Tm.g15⟩ d
def acT (t : Nat) : Ac := acK (Nat.div t 16) (acD (D16.of (Nat.mod t 16)))
def Tm.q0 (v : AVal) (t : Tm) : Tm := Tm.rec (motive := fun _ => AVal → Tm) (fun _ => .nil) (fun _ a1 a2 a3 a4 a5 a6 a7 a8 a9 a10 a11 a12 a13 a14 a15 nx _ v => .node (some v) a1 a2 a3 a4 a5 a6 a7 a8 a9 a10 a11 a12 a13 a14 a15 nx) t v
def Tm.q1 (v : AVal) (t : Tm) : Tm := Tm.rec (motive := fun _ => AVal → Tm) (fun _ => .nil) (fun a0 _ a2 a3 a4 a5 a6 a7 a8 a9 a10 a11 a12 a13 a14 a15 nx _ v => .node a0 (some v) a2 a3 a4 a5 a6 a7 a8 a9 a10 a11 a12 a13 a14 a15 nx) t v
def Tm.q2 (v : AVal) (t : Tm) : Tm := Tm.rec (motive := fun _ => AVal → Tm) (fun _ => .nil) (fun a0 a1 _ a3 a4 a5 a6 a7 a8 a9 a10 a11 a12 a13 a14 a15 nx _ v => .node a0 a1 (some v) a3 a4 a5 a6 a7 a8 a9 a10 a11 a12 a13 a14 a15 nx) t v
def Tm.q3 (v : AVal) (t : Tm) : Tm := Tm.rec (motive := fun _ => AVal → Tm) (fun _ => .nil) (fun a0 a1 a2 _ a4 a5 a6 a7 a8 a9 a10 a11 a12 a13 a14 a15 nx _ v => .node a0 a1 a2 (some v) a4 a5 a6 a7 a8 a9 a10 a11 a12 a13 a14 a15 nx) t v
def Tm.q4 (v : AVal) (t : Tm) : Tm := Tm.rec (motive := fun _ => AVal → Tm) (fun _ => .nil) (fun a0 a1 a2 a3 _ a5 a6 a7 a8 a9 a10 a11 a12 a13 a14 a15 nx _ v => .node a0 a1 a2 a3 (some v) a5 a6 a7 a8 a9 a10 a11 a12 a13 a14 a15 nx) t v
def Tm.q5 (v : AVal) (t : Tm) : Tm := Tm.rec (motive := fun _ => AVal → Tm) (fun _ => .nil) (fun a0 a1 a2 a3 a4 _ a6 a7 a8 a9 a10 a11 a12 a13 a14 a15 nx _ v => .node a0 a1 a2 a3 a4 (some v) a6 a7 a8 a9 a10 a11 a12 a13 a14 a15 nx) t v
def Tm.q6 (v : AVal) (t : Tm) : Tm := Tm.rec (motive := fun _ => AVal → Tm) (fun _ => .nil) (fun a0 a1 a2 a3 a4 a5 _ a7 a8 a9 a10 a11 a12 a13 a14 a15 nx _ v => .node a0 a1 a2 a3 a4 a5 (some v) a7 a8 a9 a10 a11 a12 a13 a14 a15 nx) t v
def Tm.q7 (v : AVal) (t : Tm) : Tm := Tm.rec (motive := fun _ => AVal → Tm) (fun _ => .nil) (fun a0 a1 a2 a3 a4 a5 a6 _ a8 a9 a10 a11 a12 a13 a14 a15 nx _ v => .node a0 a1 a2 a3 a4 a5 a6 (some v) a8 a9 a10 a11 a12 a13 a14 a15 nx) t v
def Tm.q8 (v : AVal) (t : Tm) : Tm := Tm.rec (motive := fun _ => AVal → Tm) (fun _ => .nil) (fun a0 a1 a2 a3 a4 a5 a6 a7 _ a9 a10 a11 a12 a13 a14 a15 nx _ v => .node a0 a1 a2 a3 a4 a5 a6 a7 (some v) a9 a10 a11 a12 a13 a14 a15 nx) t v
def Tm.q9 (v : AVal) (t : Tm) : Tm := Tm.rec (motive := fun _ => AVal → Tm) (fun _ => .nil) (fun a0 a1 a2 a3 a4 a5 a6 a7 a8 _ a10 a11 a12 a13 a14 a15 nx _ v => .node a0 a1 a2 a3 a4 a5 a6 a7 a8 (some v) a10 a11 a12 a13 a14 a15 nx) t v
def Tm.q10 (v : AVal) (t : Tm) : Tm := Tm.rec (motive := fun _ => AVal → Tm) (fun _ => .nil) (fun a0 a1 a2 a3 a4 a5 a6 a7 a8 a9 _ a11 a12 a13 a14 a15 nx _ v => .node a0 a1 a2 a3 a4 a5 a6 a7 a8 a9 (some v) a11 a12 a13 a14 a15 nx) t v
def Tm.q11 (v : AVal) (t : Tm) : Tm := Tm.rec (motive := fun _ => AVal → Tm) (fun _ => .nil) (fun a0 a1 a2 a3 a4 a5 a6 a7 a8 a9 a10 _ a12 a13 a14 a15 nx _ v => .node a0 a1 a2 a3 a4 a5 a6 a7 a8 a9 a10 (some v) a12 a13 a14 a15 nx) t v
def Tm.q12 (v : AVal) (t : Tm) : Tm := Tm.rec (motive := fun _ => AVal → Tm) (fun _ => .nil) (fun a0 a1 a2 a3 a4 a5 a6 a7 a8 a9 a10 a11 _ a13 a14 a15 nx _ v => .node a0 a1 a2 a3 a4 a5 a6 a7 a8 a9 a10 a11 (some v) a13 a14 a15 nx) t v
def Tm.q13 (v : AVal) (t : Tm) : Tm := Tm.rec (motive := fun _ => AVal → Tm) (fun _ => .nil) (fun a0 a1 a2 a3 a4 a5 a6 a7 a8 a9 a10 a11 a12 _ a14 a15 nx _ v => .node a0 a1 a2 a3 a4 a5 a6 a7 a8 a9 a10 a11 a12 (some v) a14 a15 nx) t v
def Tm.q14 (v : AVal) (t : Tm) : Tm := Tm.rec (motive := fun _ => AVal → Tm) (fun _ => .nil) (fun a0 a1 a2 a3 a4 a5 a6 a7 a8 a9 a10 a11 a12 a13 _ a15 nx _ v => .node a0 a1 a2 a3 a4 a5 a6 a7 a8 a9 a10 a11 a12 a13 (some v) a15 nx) t v
def Tm.q15 (v : AVal) (t : Tm) : Tm := Tm.rec (motive := fun _ => AVal → Tm) (fun _ => .nil) (fun a0 a1 a2 a3 a4 a5 a6 a7 a8 a9 a10 a11 a12 a13 a14 _ nx _ v => .node a0 a1 a2 a3 a4 a5 a6 a7 a8 a9 a10 a11 a12 a13 a14 (some v) nx) t v
def puN (p : AVal → Tm → Tm) (v : AVal) (t : Tm) : Tm := Tm.rec (motive := fun _ => (AVal → Tm → Tm) → AVal → Tm) (fun _ _ => .nil) (fun a0 a1 a2 a3 a4 a5 a6 a7 a8 a9 a10 a11 a12 a13 a14 a15 nx _ p v => .node a0 a1 a2 a3 a4 a5 a6 a7 a8 a9 a10 a11 a12 a13 a14 a15 (p v nx)) t p v
def puStep (a : Pu) : Pu := Pu.rec (motive := fun _ => Pu) (fun p => ⟨puN p⟩) a
def puK (k : Nat) (a : Pu) : Pu := Nat.rec (motive := fun _ => Pu) a (fun _ ih => puStep ih) k
def puD16 (d : D16) : Pu := D16.rec (motive := fun _ => Pu) ⟨Tm.q0⟩ ⟨Tm.q1⟩ ⟨Tm.q2⟩ ⟨Tm.q3⟩ ⟨Tm.q4⟩ ⟨Tm.q5⟩ ⟨Tm.q6⟩ ⟨Tm.q7⟩ ⟨Tm.q8⟩ ⟨Tm.q9⟩ ⟨Tm.q10⟩ ⟨Tm.q11⟩ ⟨Tm.q12⟩ ⟨Tm.q13⟩ ⟨Tm.q14⟩ ⟨Tm.q15⟩ d
def puT (t : Nat) : Pu := puK (Nat.div t 16) (puD16 (D16.of (Nat.mod t 16)))
def puNone (_v : AVal) (T : Tm) : Tm := T
def puD (d : Option Tmp) : Pu := Option.rec (motive := fun _ => Pu) ⟨puNone⟩ puT d

theorem acStep_get (a : Ac) (T : Tm) : (acStep a).get T = a.get (Tm.nx T) := by cases a; rfl
theorem acK_get (d : D16) : ∀ (k : Nat) (T : Tm), (acK k (acD d)).get T = Tm.gk d k T := by
  intro k
  induction k with
  | zero => intro T; cases d <;> rfl
  | succ k ih => intro T; show (acStep (acK k (acD d))).get T = Tm.gk d k (Tm.nx T); rw [acStep_get]; exact ih _
theorem acT_get (t : Nat) (T : Tm) : (acT t).get T = Tm.get t T := acK_get _ _ T
theorem puStep_put (a : Pu) (v : AVal) (T : Tm) : (puStep a).put v T = Tm.sx (a.put v) T := by cases a; cases T <;> rfl
theorem puK_put (d : D16) (v : AVal) : ∀ (k : Nat) (T : Tm), (puK k (puD16 d)).put v T = Tm.sk d v k T := by
  intro k
  induction k with
  | zero => intro T; cases T <;> cases d <;> rfl
  | succ k ih =>
    intro T
    show (puStep (puK k (puD16 d))).put v T = Tm.sx (Tm.sk d v k) T
    rw [puStep_put]
    congr 1
    exact funext ih
theorem puD_put (d : Option Tmp) (v : AVal) (T : Tm) : (puD d).put v T = putF d v T := by
  cases d with
  | none => rfl
  | some d => exact puK_put _ v _ T

/-! ### operands -/
def kget (v : Option AVal) (_T : Tm) : Option AVal := v
def acV (v : Option AVal) : Ac := Option.rec (motive := fun _ => Ac) ⟨kget none⟩ (fun v => ⟨kget (some v)⟩) v
def acFn (f : FuncId) : Ac := ⟨kget (some (.func f [] []))⟩
def acC (v : Value) : Ac := acV (absConst 4 v)
def acG (_g : Nat) : Ac := ⟨kget none⟩
def acO (x : Operand) : Ac := Operand.rec (motive := fun _ => Ac) acT acC acG acFn x
theorem acV_get (v : Option AVal) (T : Tm) : (acV v).get T = v := by cases v <;> rfl
theorem acO_get (x : Operand) (T : Tm) : (acO x).get T = opnd T x := by
  cases x with
  | tmp t => exact acT_get t T
  | const v => exact acV_get _ T
  | global g => rfl
  | func f => rfl

/-! ### what a value is -/
inductive PtrR where
  | no
  | pt (i o : Nat)
inductive IntR where
  | no
  | lit (k : IntKind) (z : Int)
  | lin
inductive B3 where
  | no
  | t
  | f
inductive SlR where
  | no
  | sl (i off len : Nat)
def ptrA (a : Option (Nat × Nat)) : PtrR := Option.rec (motive := fun _ => PtrR) .no (fun p => Prod.rec (motive := fun _ => PtrR) (fun i o => .pt i o) p) a
def ptrOf (v : AVal) : PtrR := AVal.rec (motive_1 := fun _ => PtrR) (motive_2 := fun _ => PUnit) (fun _ => .no) (fun _ _ => .no) (fun _ => .no) ptrA (fun _ _ _ _ => .no) (fun _ => .no) (fun _ => .no) (fun _ _ _ _ _ => .no) .no (fun _ _ _ => .no) .no (fun _ _ => .no) (fun _ _ => .no) ⟨⟩ (fun _ _ _ _ => ⟨⟩) v
def intA (k : IntKind) (s : SInt) : IntR := SInt.rec (motive := fun _ => IntR) (fun z => .lit k z) (fun _ _ _ => .lin) s
def intOf (v : AVal) : IntR := AVal.rec (motive_1 := fun _ => IntR) (motive_2 := fun _ => PUnit) (fun _ => .no) intA (fun _ => .no) (fun _ => .no) (fun _ _ _ _ => .no) (fun _ => .no) (fun _ => .no) (fun _ _ _ _ _ => .no) .no (fun _ _ _ => .no) .no (fun _ _ => .no) (fun _ _ => .no) ⟨⟩ (fun _ _ _ _ => ⟨⟩) v
def truA (b : Bool) : B3 := Bool.rec (motive := fun _ => B3) .f .t b
def truthOf (v : AVal) : B3 := AVal.rec (motive_1 := fun _ => B3) (motive_2 := fun _ => PUnit) truA (fun _ _ => .no) (fun _ => .no) (fun _ => .no) (fun _ _ _ _ => .no) (fun _ => .no) (fun _ => .no) (fun _ _ _ _ _ => .no) .no (fun _ _ _ => .no) .no (fun _ _ => .no) (fun _ _ => .no) ⟨⟩ (fun _ _ _ _ => ⟨⟩) v
def slA (a : Option (Nat × Nat)) (n : Nat) (_c : Option Nat) (_e : Nat) : SlR := Option.rec (motive := fun _ => Nat → SlR) (fun _ => .no) (fun p n => Prod.rec (motive := fun _ => SlR) (fun i o => .sl i o n) p) a n
def sliceOf (v : AVal) : SlR := AVal.rec (motive_1 := fun _ => SlR) (motive_2 := fun _ => PUnit) (fun _ => .no) (fun _ _ => .no) (fun _ => .no) (fun _ => .no) slA (fun _ => .no) (fun _ => .no) (fun _ _ _ _ _ => .no) .no (fun _ _ _ => .no) .no (fun _ _ => .no) (fun _ _ => .no) ⟨⟩ (fun _ _ _ _ => ⟨⟩) v
def lenOfSl (v : AVal) : Option AVal := AVal.rec (motive_1 := fun _ => Option AVal) (motive_2 := fun _ => PUnit) (fun _ => none) (fun _ _ => none) (fun _ => none) (fun _ => none) (fun _ n _ _ => some (aint n)) (fun _ => none) (fun _ => none) (fun _ _ _ _ _ => none) none (fun _ _ _ => none) none (fun _ _ => none) (fun _ _ => none) ⟨⟩ (fun _ _ _ _ => ⟨⟩) v
def nilA (a : Option (Nat × Nat)) : Option AVal := Option.rec (motive := fun _ => Option AVal) none (fun p => some (.ptr (some p))) a
def nilOf (v : AVal) : Option AVal := AVal.rec (motive_1 := fun _ => Option AVal) (motive_2 := fun _ => PUnit) (fun _ => none) (fun _ _ => none) (fun _ => none) nilA (fun _ _ _ _ => none) (fun _ => none) (fun _ => none) (fun f a b _ _ => some (.func f a b)) none (fun _ _ _ => none) none (fun _ _ => none) (fun _ _ => none) ⟨⟩ (fun _ _ _ _ => ⟨⟩) v
def tupOf (v : AVal) : Option (List AVal) := AVal.rec (motive_1 := fun _ => Option (List AVal)) (motive_2 := fun _ => PUnit) (fun _ => none) (fun _ _ => none) (fun _ => none) (fun _ => none) (fun _ _ _ _ => none) (fun _ => none) (fun _ => none) (fun _ _ _ _ _ => none) none (fun _ _ _ => none) none (fun _ _ => none) (fun l _ => some l) ⟨⟩ (fun _ _ _ _ => ⟨⟩) v
def aggOf (v : AVal) : Option (List AVal) := AVal.rec (motive_1 := fun _ => Option (List AVal)) (motive_2 := fun _ => PUnit) (fun _ => none) (fun _ _ => none) (fun _ => none) (fun _ => none) (fun _ _ _ _ => none) (fun _ => none) (fun _ => none) (fun _ _ _ _ _ => none) none (fun _ _ _ => none) none (fun l _ => some l) (fun _ _ => none) ⟨⟩ (fun _ _ _ _ => ⟨⟩) v

theorem ptrOf_cases (v : AVal) : (∃ i o, v = .ptr (some (i, o)) ∧ ptrOf v = .pt i o) ∨ (ptrOf v = .no ∧ ∀ i o, v ≠ .ptr (some (i, o))) := by
  cases v with
  | ptr a => cases a with
    | none => exact .inr ⟨rfl, nofun⟩
    | some p => exact .inl ⟨p.1, p.2, rfl, rfl⟩
  | _ => exact .inr ⟨rfl, nofun⟩
theorem intOf_cases (v : AVal) : (∃ k z, v = .int k (.lit z) ∧ intOf v = .lit k z) ∨ intOf v = .lin ∨ intOf v = .no := by
  cases v with
  | int k s => cases s with
    | lit z => exact .inl ⟨k, z, rfl, rfl⟩
    | lin a i c => exact .inr (.inl rfl)
  | _ => exact .inr (.inr rfl)
theorem truthOf_cases (v : AVal) : (v = .bool true ∧ truthOf v = .t) ∨ (v = .bool false ∧ truthOf v = .f) ∨ (truthOf v = .no ∧ ∀ b, v ≠ .bool b) := by
  cases v with
  | bool b => cases b with
    | true => exact .inl ⟨rfl, rfl⟩
    | false => exact .inr (.inl ⟨rfl, rfl⟩)
  | _ => exact .inr (.inr ⟨rfl, nofun⟩)
theorem sliceOf_cases (v : AVal) : (∃ i o n c e, v = .slice (some (i, o)) n c e ∧ sliceOf v = .sl i o n) ∨ sliceOf v = .no := by
  cases v with
  | slice a n c e => cases a with
    | none => exact .inr rfl
    | some p => exact .inl ⟨p.1, p.2, n, c, e, rfl, rfl⟩
  | _ => exact .inr rfl

/-! ### the value of an operation that changes nothing -/
abbrev Gt := Tm → Option AVal
abbrev Vf := Tm → Hp → Option AVal
structure Vc where
  val : Vf
abbrev Bf := AVal → AVal → Hp → Option AVal

def vMove (g : Gt) (T : Tm) (_H : Hp) : Option AVal := g T

def no1 {α : Type} (_ : α) : Option AVal := none
def faP (i o off : Nat) : Option AVal := some (.ptr (some (i, Nat.add o off)))
def faS (v : AVal) (off : Nat) : Option AVal := PtrR.rec (motive := fun _ => Nat → Option AVal) no1 faP (ptrOf v) off
def vFA (off : Nat) (g : Gt) (T : Tm) (_H : Hp) : Option AVal := Option.rec (motive := fun _ => Nat → Option AVal) no1 faS (g T) off

def rdC (_rw : Bool) (c : Tr AVal) (_n : Nat) (o : Nat) : Option AVal := Tr.get c o
def rdO (x : AObj) (o : Nat) : Option AVal := AObj.rec (motive := fun _ => Nat → Option AVal) rdC (fun _ _ => no1) (fun _ _ _ _ => no1) x o
def rd1 (H : Hp) (i o : Nat) : Option AVal := Option.rec (motive := fun _ => Nat → Option AVal) no1 rdO (Tr.get (Hp.t H) i) o
theorem rd1_eq (H : Hp) (i o : Nat) : rd1 H i o = H.read1 i o := by
  unfold rd1 Hp.read1
  cases H.t.get i with
  | none => rfl
  | some x => cases x <;> rfl
def ldP (i o : Nat) (H : Hp) : Option AVal := rd1 H i o
def ldS (v : AVal) (H : Hp) : Option AVal := PtrR.rec (motive := fun _ => Hp → Option AVal) no1 ldP (ptrOf v) H
def vLd (g : Gt) (T : Tm) (H : Hp) : Option AVal := Option.rec (motive := fun _ => Hp → Option AVal) no1 ldS (g T) H

def aggS (cs : List AVal) : Option AVal := some (.agg cs)
def lnP (i o n : Nat) (H : Hp) : Option AVal := Option.rec (motive := fun _ => Option AVal) none aggS (H.read i o n)
def lnS (v : AVal) (n : Nat) (H : Hp) : Option AVal := PtrR.rec (motive := fun _ => Nat → Hp → Option AVal) (fun _ _ => none) lnP (ptrOf v) n H
def vLdN (n : Nat) (g : Gt) (T : Tm) (H : Hp) : Option AVal := Option.rec (motive := fun _ => Nat → Hp → Option AVal) (fun _ _ => none) lnS (g T) n H

def pkN (_ga _gb : Gt) (_T : Tm) : Option AVal := none
def pkA (ga _gb : Gt) (T : Tm) : Option AVal := ga T
def pkB (_ga gb : Gt) (T : Tm) : Option AVal := gb T
def pkS (v : AVal) (ga gb : Gt) (T : Tm) : Option AVal := B3.rec (motive := fun _ => Gt → Gt → Tm → Option AVal) pkN pkA pkB (truthOf v) ga gb T
def vPick (gc ga gb : Gt) (T : Tm) (_H : Hp) : Option AVal := Option.rec (motive := fun _ => Gt → Gt → Tm → Option AVal) pkN pkS (gc T) ga gb T

def vNil (g : Gt) (T : Tm) (_H : Hp) : Option AVal := Option.rec (motive := fun _ => Option AVal) none nilOf (g T)
def vLen (g : Gt) (T : Tm) (_H : Hp) : Option AVal := Option.rec (motive := fun _ => Option AVal) none lenOfSl (g T)
def ntB (b : B3) : Option AVal := B3.rec (motive := fun _ => Option AVal) none (some (.bool false)) (some (.bool true)) b
def ntS (v : AVal) : Option AVal := ntB (truthOf v)
def vNot (g : Gt) (T : Tm) (_H : Hp) : Option AVal := Option.rec (motive := fun _ => Option AVal) none ntS (g T)

/-- The n-th of a list. -/
def nthF (n : Nat) : List AVal → Option AVal := Nat.rec (motive := fun _ => List AVal → Option AVal)
  (fun l => List.rec (motive := fun _ => Option AVal) none (fun x _ _ => some x) l)
  (fun _ ih l => List.rec (motive := fun _ => (List AVal → Option AVal) → Option AVal) (fun _ => none) (fun _ xs _ ih => ih xs) l ih) n
theorem nthF_eq : ∀ (n : Nat) (l : List AVal), nthF n l = l[n]? := by
  intro n
  induction n with
  | zero => intro l; cases l <;> rfl
  | succ n ih => intro l; cases l with
    | nil => rfl
    | cons x xs => show nthF n xs = _; rw [ih]; simp
def exL (l : List AVal) (n : Nat) : Option AVal := nthF n l
def exS (v : AVal) (n : Nat) : Option AVal := Option.rec (motive := fun _ => Nat → Option AVal) no1 exL (tupOf v) n
def vExt (n : Nat) (g : Gt) (T : Tm) (_H : Hp) : Option AVal := Option.rec (motive := fun _ => Nat → Option AVal) no1 exS (g T) n
def fdS (v : AVal) (n : Nat) : Option AVal := Option.rec (motive := fun _ => Nat → Option AVal) no1 exL (aggOf v) n
def vFld (n : Nat) (g : Gt) (T : Tm) (_H : Hp) : Option AVal := Option.rec (motive := fun _ => Nat → Option AVal) no1 fdS (g T) n

/-! two operands -/
def bnN (_f : Bf) (_g : Gt) (_T : Tm) (_H : Hp) : Option AVal := none
def bnN2 (_f : Bf) (_a : AVal) (_H : Hp) : Option AVal := none
def bnS2 (b : AVal) (f : Bf) (a : AVal) (H : Hp) : Option AVal := f a b H
def bnS (a : AVal) (f : Bf) (g : Gt) (T : Tm) (H : Hp) : Option AVal := Option.rec (motive := fun _ => Bf → AVal → Hp → Option AVal) bnN2 bnS2 (g T) f a H
def vBin (f : Bf) (g1 g2 : Gt) (T : Tm) (H : Hp) : Option AVal := Option.rec (motive := fun _ => Bf → Gt → Tm → Hp → Option AVal) bnN bnS (g1 T) f g2 T H

/-! numbers held against each other -/
def iltA (m n : Nat) : Bool := Nat.blt m n
def iltR (x y : Int) : Bool := Int.rec (motive := fun _ => Int → Bool) (fun m y => Int.rec (motive := fun _ => Nat → Bool) (fun n m => Nat.blt m n) (fun _ _ => false) y m)
  (fun m y => Int.rec (motive := fun _ => Nat → Bool) (fun _ _ => true) (fun n m => Nat.blt n m) y m) x y
def ieqR (x y : Int) : Bool := Int.rec (motive := fun _ => Int → Bool) (fun m y => Int.rec (motive := fun _ => Nat → Bool) (fun n m => Nat.beq m n) (fun _ _ => false) y m)
  (fun m y => Int.rec (motive := fun _ => Nat → Bool) (fun _ _ => false) (fun n m => Nat.beq m n) y m) x y
theorem iltR_eq (x y : Int) : iltR x y = ilt x y := by cases x <;> cases y <;> rfl
theorem ieqR_eq (x y : Int) : ieqR x y = ibeq x y := by cases x <;> cases y <;> rfl
def notR (b : Bool) : Bool := Bool.rec (motive := fun _ => Bool) true false b
def cLss (x y : Int) : Bool := iltR x y
def cGtr (x y : Int) : Bool := iltR y x
def cLeq (x y : Int) : Bool := notR (iltR y x)
def cGeq (x y : Int) : Bool := notR (iltR x y)
def cNeq (x y : Int) : Bool := notR (ieqR x y)

abbrev Cmp := Int → Int → Bool
def cpB (r : Bool) (slow : Bf) (a b : AVal) (H : Hp) (c : Bool) : Option AVal := Bool.rec (motive := fun _ => Option AVal) (slow a b H) (some (.bool r)) c
def cpN2 (_k : IntKind) (_z : Int) (_cmp : Cmp) (slow : Bf) (a b : AVal) (H : Hp) : Option AVal := slow a b H
def cpL2 (j : IntKind) (y : Int) (k : IntKind) (x : Int) (cmp : Cmp) (slow : Bf) (a b : AVal) (H : Hp) : Option AVal := cpB (cmp x y) slow a b H (kbeq k j)
def cpN (_cmp : Cmp) (slow : Bf) (a b : AVal) (H : Hp) : Option AVal := slow a b H
def cpL (k : IntKind) (x : Int) (cmp : Cmp) (slow : Bf) (a b : AVal) (H : Hp) : Option AVal :=
  IntR.rec (motive := fun _ => IntKind → Int → Cmp → Bf → AVal → AVal → Hp → Option AVal) cpN2 cpL2 cpN2 (intOf b) k x cmp slow a b H
def fCmp (cmp : Cmp) (slow : Bf) (a b : AVal) (H : Hp) : Option AVal := IntR.rec (motive := fun _ => Cmp → Bf → AVal → AVal → Hp → Option AVal) cpN cpL cpN (intOf a) cmp slow a b H

/-! two natural numbers -/
def kmaxN (k : IntKind) : Nat := IntKind.rec (motive := fun _ => Nat) 127 32767 2147483647 9223372036854775807 255 65535 4294967295 18446744073709551615 k
abbrev Pre := Nat → Nat → Nat → Bool
abbrev No2 := Nat → Nat → Nat
def nuB (k : IntKind) (r : Nat) (slow : Bf) (a b : AVal) (H : Hp) (c : Bool) : Option AVal := Bool.rec (motive := fun _ => Option AVal) (slow a b H) (some (.int k (.lit (.ofNat r)))) c
def nuK (c : Bool) (d : Bool) : Bool := Bool.rec (motive := fun _ => Bool) false d c
def nuN (_n : Nat) (_j _k : IntKind) (_m : Nat) (_p : Pre) (_f : No2) (slow : Bf) (a b : AVal) (H : Hp) : Option AVal := slow a b H
def nuP (n : Nat) (j k : IntKind) (m : Nat) (p : Pre) (f : No2) (slow : Bf) (a b : AVal) (H : Hp) : Option AVal :=
  nuB k (f m n) slow a b H (nuK (kbeq k j) (nuK (p (kmaxN k) m n) (Nat.ble (f m n) (kmaxN k))))
def nuY (j : IntKind) (y : Int) (k : IntKind) (m : Nat) (p : Pre) (f : No2) (slow : Bf) (a b : AVal) (H : Hp) : Option AVal :=
  Int.rec (motive := fun _ => IntKind → IntKind → Nat → Pre → No2 → Bf → AVal → AVal → Hp → Option AVal) nuP nuN y j k m p f slow a b H
def nuY0 (_k : IntKind) (_m : Nat) (_p : Pre) (_f : No2) (slow : Bf) (a b : AVal) (H : Hp) : Option AVal := slow a b H
def nuXN (_m : Nat) (_k : IntKind) (_p : Pre) (_f : No2) (slow : Bf) (a b : AVal) (H : Hp) : Option AVal := slow a b H
def nuXP (m : Nat) (k : IntKind) (p : Pre) (f : No2) (slow : Bf) (a b : AVal) (H : Hp) : Option AVal :=
  IntR.rec (motive := fun _ => IntKind → Nat → Pre → No2 → Bf → AVal → AVal → Hp → Option AVal) nuY0 nuY nuY0 (intOf b) k m p f slow a b H
def nuX (k : IntKind) (x : Int) (p : Pre) (f : No2) (slow : Bf) (a b : AVal) (H : Hp) : Option AVal :=
  Int.rec (motive := fun _ => IntKind → Pre → No2 → Bf → AVal → AVal → Hp → Option AVal) nuXP nuXN x k p f slow a b H
def nuX0 (_p : Pre) (_f : No2) (slow : Bf) (a b : AVal) (H : Hp) : Option AVal := slow a b H
def fNum (p : Pre) (f : No2) (slow : Bf) (a b : AVal) (H : Hp) : Option AVal := IntR.rec (motive := fun _ => Pre → No2 → Bf → AVal → AVal → Hp → Option AVal) nuX0 nuX nuX0 (intOf a) p f slow a b H
def preT (_M _m _n : Nat) : Bool := true
def preSub (_M m n : Nat) : Bool := Nat.ble n m
def preDiv (_M _m n : Nat) : Bool := Nat.ble 1 n
def preBit (M m n : Nat) : Bool := Bool.rec (motive := fun _ => Bool) false (Nat.ble n M) (Nat.ble m M)
def nAndNot (m n : Nat) : Nat := Nat.xor m (Nat.land m n)

/-! an operation's value -/
def sBin (P : Program) (F : Facts) (op : BinOp) (t : TypeId) (c : Bool) (a b : AVal) (H : Hp) : Option AVal := binA P F H op t c a b
def binF (P : Program) (F : Facts) (op : BinOp) (t : TypeId) (c : Bool) : Bf := match op with
  | .lss => fCmp cLss (sBin P F .lss t c)
  | .gtr => fCmp cGtr (sBin P F .gtr t c)
  | .leq => fCmp cLeq (sBin P F .leq t c)
  | .geq => fCmp cGeq (sBin P F .geq t c)
  | .eql => fCmp ieqR (sBin P F .eql t c)
  | .neq => fCmp cNeq (sBin P F .neq t c)
  | .add => fNum preT Nat.add (sBin P F .add t c)
  | .sub => fNum preSub Nat.sub (sBin P F .sub t c)
  | .mul => fNum preT Nat.mul (sBin P F .mul t c)
  | .quo => fNum preDiv Nat.div (sBin P F .quo t c)
  | .rem => fNum preDiv Nat.mod (sBin P F .rem t c)
  | .and => fNum preBit Nat.land (sBin P F .and t c)
  | .or => fNum preBit Nat.lor (sBin P F .or t c)
  | .xor => fNum preBit Nat.xor (sBin P F .xor t c)
  | .andNot => fNum preBit nAndNot (sBin P F .andNot t c)
  | op => sBin P F op t c
structure Bc where
  f : Bf
def binC (P : Program) (F : Facts) (op : BinOp) (t : TypeId) (c : Bool) : Bc := match op with
  | .lss => ⟨fCmp cLss (sBin P F .lss t c)⟩
  | .gtr => ⟨fCmp cGtr (sBin P F .gtr t c)⟩
  | .leq => ⟨fCmp cLeq (sBin P F .leq t c)⟩
  | .geq => ⟨fCmp cGeq (sBin P F .geq t c)⟩
  | .eql => ⟨fCmp ieqR (sBin P F .eql t c)⟩
  | .neq => ⟨fCmp cNeq (sBin P F .neq t c)⟩
  | .add => ⟨fNum preT Nat.add (sBin P F .add t c)⟩
  | .sub => ⟨fNum preSub Nat.sub (sBin P F .sub t c)⟩
  | .mul => ⟨fNum preT Nat.mul (sBin P F .mul t c)⟩
  | .quo => ⟨fNum preDiv Nat.div (sBin P F .quo t c)⟩
  | .rem => ⟨fNum preDiv Nat.mod (sBin P F .rem t c)⟩
  | .and => ⟨fNum preBit Nat.land (sBin P F .and t c)⟩
  | .or => ⟨fNum preBit Nat.lor (sBin P F .or t c)⟩
  | .xor => ⟨fNum preBit Nat.xor (sBin P F .xor t c)⟩
  | .andNot => ⟨fNum preBit nAndNot (sBin P F .andNot t c)⟩
  | op => ⟨sBin P F op t c⟩

theorem fCmp_eq {cmp : Cmp} {slow : Bf} {a b : AVal} {H : Hp} (h : ∀ k x j y, a = .int k (.lit x) → b = .int j (.lit y) → kbeq k j = true → slow a b H = some (.bool (cmp x y))) : fCmp cmp slow a b H = slow a b H := by
  unfold fCmp
  rcases intOf_cases a with ⟨k, x, ha, h1⟩ | h1 | h1
  · rw [h1]
    show cpL k x cmp slow a b H = _
    unfold cpL
    rcases intOf_cases b with ⟨j, y, hb, h2⟩ | h2 | h2
    · rw [h2]
      show cpB (cmp x y) slow a b H (kbeq k j) = _
      cases hk : kbeq k j with
      | false => rfl
      | true => exact (h k x j y ha hb hk).symm
    · rw [h2]; rfl
    · rw [h2]; rfl
  · rw [h1]; rfl
  · rw [h1]; rfl
theorem fNum_eq {p : Pre} {f : No2} {slow : Bf} {a b : AVal} {H : Hp} (h : ∀ k (m : Nat) j (n : Nat), a = .int k (.lit (.ofNat m)) → b = .int j (.lit (.ofNat n)) → kbeq k j = true → p (kmaxN k) m n = true → f m n ≤ kmaxN k →
    slow a b H = some (.int k (.lit (.ofNat (f m n))))) : fNum p f slow a b H = slow a b H := by
  unfold fNum
  rcases intOf_cases a with ⟨k, x, ha, h1⟩ | h1 | h1
  · rw [h1]
    show nuX k x p f slow a b H = _
    cases x with
    | negSucc m => rfl
    | ofNat m =>
      show nuXP m k p f slow a b H = _
      unfold nuXP
      rcases intOf_cases b with ⟨j, y, hb, h2⟩ | h2 | h2
      · rw [h2]
        show nuY j y k m p f slow a b H = _
        cases y with
        | negSucc n => rfl
        | ofNat n =>
          show nuB k (f m n) slow a b H (nuK (kbeq k j) (nuK (p (kmaxN k) m n) (Nat.ble (f m n) (kmaxN k)))) = _
          cases hk : kbeq k j with
          | false => rfl
          | true =>
            cases hp : p (kmaxN k) m n with
            | false => rfl
            | true =>
              cases hl : Nat.ble (f m n) (kmaxN k) with
              | false => rfl
              | true => exact (h k m j n ha hb hk hp (Nat.le_of_ble_eq_true hl)).symm
      · rw [h2]; rfl
      · rw [h2]; rfl
  · rw [h1]; rfl
  · rw [h1]; rfl

theorem kin_of_le {k : IntKind} {n : Nat} (h : n ≤ kmaxN k) : kin k (.ofNat n) = true := by
  have h1 : ilt (.ofNat n) (kmin k) = false := by cases k <;> rfl
  have h2 : ilt (kmax k) (.ofNat n) = false := by
    cases k <;> (simp only [kmaxN] at h; show Nat.blt _ n = false; simp only [Nat.blt]; cases hb : Nat.ble _ n with
      | false => rfl
      | true => have := Nat.le_of_ble_eq_true hb; omega)
  unfold kin
  rw [h1, h2]; rfl
theorem wrap_of_le {F : Facts} {k : IntKind} {n : Nat} (h : n ≤ kmaxN k) : SInt.wrap F k (.lit (.ofNat n)) = some (.lit (.ofNat n)) := by
  unfold SInt.wrap
  simp only [kin_of_le h, cond_true]
theorem kbeq_eq' {k j : IntKind} (h : kbeq k j = true) : k = j := by cases k <;> cases j <;> first | rfl | (exact absurd h (by decide))

theorem binA_int {P : Program} {F : Facts} {H : Hp} {op : BinOp} {t : TypeId} {c : Bool} {k j : IntKind} {x y : SInt} (hop : op ≠ .shl ∧ op ≠ .shr) (hk : kbeq k j = true) : binA P F H op t c (.int k x) (.int j y) = intOp F op k x y := by
  cases op <;> first | exact absurd rfl hop.1 | exact absurd rfl hop.2 | (simp only [binA, hk, cond_true])

theorem preBit_le {M m n : Nat} (hp : preBit M m n = true) : m ≤ M ∧ n ≤ M := by
  unfold preBit at hp
  cases h1 : Nat.ble m M with
  | false => rw [h1] at hp; cases hp
  | true => rw [h1] at hp; exact ⟨Nat.le_of_ble_eq_true h1, Nat.le_of_ble_eq_true hp⟩
theorem xor_false' (b : Bool) : xor b false = b := by cases b <;> rfl
theorem xor_true' (b : Bool) : xor b true = notR b := by cases b <;> rfl
theorem binC_eq (P : Program) (F : Facts) (op : BinOp) (t : TypeId) (c : Bool) (a b : AVal) (H : Hp) : (binC P F op t c).f a b H = binA P F H op t c a b := by
  cases op <;> try rfl
  case lss => exact fCmp_eq fun k x j y ha hb hk => by subst ha hb; simp only [sBin]; rw [binA_int (op := .lss) ⟨nofun, nofun⟩ hk]; simp [intOp, SInt.lt, cLss, iltR_eq]
  case gtr => exact fCmp_eq fun k x j y ha hb hk => by subst ha hb; simp only [sBin]; rw [binA_int (op := .gtr) ⟨nofun, nofun⟩ hk]; simp [intOp, SInt.lt, cGtr, iltR_eq]
  case leq => exact fCmp_eq fun k x j y ha hb hk => by subst ha hb; simp only [sBin]; rw [binA_int (op := .leq) ⟨nofun, nofun⟩ hk]; simp only [intOp, SInt.lt, cLeq, iltR_eq, xor_true']
  case geq => exact fCmp_eq fun k x j y ha hb hk => by subst ha hb; simp only [sBin]; rw [binA_int (op := .geq) ⟨nofun, nofun⟩ hk]; simp only [intOp, SInt.lt, cGeq, iltR_eq, xor_true']
  case eql => exact fCmp_eq fun k x j y ha hb hk => by subst ha hb; simp only [sBin]; rw [binA_int (op := .eql) ⟨nofun, nofun⟩ hk]; simp only [intOp, SInt.eq, ieqR_eq, xor_false']
  case neq => exact fCmp_eq fun k x j y ha hb hk => by subst ha hb; simp only [sBin]; rw [binA_int (op := .neq) ⟨nofun, nofun⟩ hk]; simp only [intOp, SInt.eq, cNeq, ieqR_eq, xor_true']
  case add =>
    refine fNum_eq fun k m j n ha hb hk hp hl => ?_
    subst ha hb; simp only [sBin]; rw [binA_int (op := .add) ⟨nofun, nofun⟩ hk]
    simp only [intOp, SInt.add]
    have e : (Int.ofNat m + Int.ofNat n) = Int.ofNat (Nat.add m n) := rfl
    rw [e, wrap_of_le hl]
  case sub =>
    refine fNum_eq fun k m j n ha hb hk hp hl => ?_
    subst ha hb; simp only [sBin]; rw [binA_int (op := .sub) ⟨nofun, nofun⟩ hk]
    have hle : n ≤ m := Nat.le_of_ble_eq_true hp
    simp only [intOp, SInt.sub]
    have e : (Int.ofNat m - Int.ofNat n) = Int.ofNat (Nat.sub m n) := by
      show (m : Int) - (n : Int) = ((m - n : Nat) : Int); omega
    rw [e, wrap_of_le hl]
  case mul =>
    refine fNum_eq fun k m j n ha hb hk hp hl => ?_
    subst ha hb; simp only [sBin]; rw [binA_int (op := .mul) ⟨nofun, nofun⟩ hk]
    simp only [intOp, SInt.mul]
    have e : (Int.ofNat m * Int.ofNat n) = Int.ofNat (Nat.mul m n) := rfl
    rw [e, wrap_of_le hl]
  case quo =>
    refine fNum_eq fun k m j n ha hb hk hp hl => ?_
    subst ha hb; simp only [sBin]; rw [binA_int (op := .quo) ⟨nofun, nofun⟩ hk]
    have hle : 1 ≤ n := Nat.le_of_ble_eq_true hp
    have h0 : ibeq (Int.ofNat n) 0 = false := by
      show Nat.beq n 0 = false
      cases n with
      | zero => omega
      | succ n => rfl
    simp only [intOp, h0, cond_false]
    have e : Int.tdiv (Int.ofNat m) (Int.ofNat n) = Int.ofNat (Nat.div m n) := rfl
    rw [e, wrap_of_le hl]
  case rem =>
    refine fNum_eq fun k m j n ha hb hk hp hl => ?_
    subst ha hb; simp only [sBin]; rw [binA_int (op := .rem) ⟨nofun, nofun⟩ hk]
    have hle : 1 ≤ n := Nat.le_of_ble_eq_true hp
    have h0 : ibeq (Int.ofNat n) 0 = false := by
      show Nat.beq n 0 = false
      cases n with
      | zero => omega
      | succ n => rfl
    simp only [intOp, h0, cond_false]
    rfl
  case and =>
    refine fNum_eq fun k m j n ha hb hk hp hl => ?_
    subst ha hb; simp only [sBin]; rw [binA_int (op := .and) ⟨nofun, nofun⟩ hk]
    have h12 := preBit_le hp
    simp only [intOp, kin_of_le h12.1, kin_of_le h12.2, Bool.and_true, cond_true, natBits] <;> rfl
  case or =>
    refine fNum_eq fun k m j n ha hb hk hp hl => ?_
    subst ha hb; simp only [sBin]; rw [binA_int (op := .or) ⟨nofun, nofun⟩ hk]
    have h12 := preBit_le hp
    simp only [intOp, kin_of_le h12.1, kin_of_le h12.2, Bool.and_true, cond_true, natBits] <;> rfl
  case xor =>
    refine fNum_eq fun k m j n ha hb hk hp hl => ?_
    subst ha hb; simp only [sBin]; rw [binA_int (op := .xor) ⟨nofun, nofun⟩ hk]
    have h12 := preBit_le hp
    simp only [intOp, kin_of_le h12.1, kin_of_le h12.2, Bool.and_true, cond_true, natBits] <;> rfl
  case andNot =>
    refine fNum_eq fun k m j n ha hb hk hp hl => ?_
    subst ha hb; simp only [sBin]; rw [binA_int (op := .andNot) ⟨nofun, nofun⟩ hk]
    have h12 := preBit_le hp
    simp only [intOp, kin_of_le h12.1, kin_of_le h12.2, Bool.and_true, cond_true, natBits] <;> rfl
theorem vBin_eq (f : Bf) (g1 g2 : Gt) (T : Tm) (H : Hp) : vBin f g1 g2 T H = (match g1 T, g2 T with
    | some a, some b => f a b H
    | _, _ => none) := by
  unfold vBin
  cases g1 T with
  | none => rfl
  | some a =>
    show bnS a f g2 T H = _
    unfold bnS
    cases g2 T <;> rfl
end
end Go.Px
