/- The run, made ready once: what is done with a value; stores, calls; regions; the code. -/
import Derived.Test.YtlhcpplnlgehbaaGreatPJit2
namespace Go.Px
open Go Go.RowKit
noncomputable section

abbrev Ky := RecF → Tm → Hp → RO
abbrev Pf := AVal → Tm → Tm
structure JB where
  run : Ky
/-- What follows a step. -/
def RO.bind (r : RO) (k : Tm → Hp → RO) : RO := match r with
  | .fail => .fail
  | .ok T H => k T H

def jNo (_p : Pf) (_k : Ky) (_rec : RecF) (_T : Tm) (_H : Hp) : RO := .fail
def jPut (v : AVal) (p : Pf) (k : Ky) (rec : RecF) (T : Tm) (H : Hp) : RO := k rec (p v T) H
def kVal (v : Vf) (p : Pf) (k : Ky) (rec : RecF) (T : Tm) (H : Hp) : RO := Option.rec (motive := fun _ => Pf → Ky → Ky) jNo jPut (v T H) p k rec T H
theorem kVal_eq (v : Vf) (p : Pf) (k : Ky) (rec : RecF) (T : Tm) (H : Hp) : kVal v p k rec T H = (match v T H with
    | some x => k rec (p x T) H
    | none => .fail) := by
  unfold kVal
  cases v T H <;> rfl

/-! stores -/
def celA (cs : List AVal) : Option AVal := List.rec (motive := fun _ => Option AVal) none (fun x xs _ => List.rec (motive := fun _ => AVal → Option AVal) (fun x => some x) (fun _ _ _ _ => none) xs x) cs
/-- The one cell of a value that may be written. -/
def celOf (v : AVal) : Option AVal := AVal.rec (motive_1 := fun _ => Option AVal) (motive_2 := fun _ => PUnit) (fun b => some (.bool b)) (fun k s => some (.int k s)) (fun s => some (.str s)) (fun a => some (.ptr a)) (fun a n c e => some (.slice a n c e)) (fun r => some (.map r)) (fun r => some (.chan r)) (fun f a b _ _ => some (.func f a b)) (some .nilFunc) (fun t v _ => some (.iface t v)) (some .nilIface) (fun cs _ => celA cs) (fun _ _ => none) ⟨⟩ (fun _ _ _ _ => ⟨⟩) v
def isCellR (v : AVal) : Bool := AVal.rec (motive_1 := fun _ => Bool) (motive_2 := fun _ => PUnit) (fun _ => true) (fun _ _ => true) (fun _ => true) (fun _ => true) (fun _ _ _ _ => true) (fun _ => true) (fun _ => true) (fun _ _ _ _ _ => true) true (fun _ _ _ => true) true (fun _ _ => false) (fun _ _ => false) ⟨⟩ (fun _ _ _ _ => ⟨⟩) v
def isTupR (v : AVal) : Bool := AVal.rec (motive_1 := fun _ => Bool) (motive_2 := fun _ => PUnit) (fun _ => false) (fun _ _ => false) (fun _ => false) (fun _ => false) (fun _ _ _ _ => false) (fun _ => false) (fun _ => false) (fun _ _ _ _ _ => false) false (fun _ _ _ => false) false (fun _ _ => false) (fun _ _ => true) ⟨⟩ (fun _ _ _ _ => ⟨⟩) v
theorem isCellR_eq (v : AVal) : isCellR v = v.isCell := by cases v <;> rfl
theorem isTupR_eq (v : AVal) : isTupR v = v.isTuple := by cases v <;> rfl
theorem celOf_eq (v : AVal) : (∃ u, celOf v = some u ∧ v.cells = [u]) ∨ (celOf v = none ∧ ((∃ l, v = .tuple l) ∨ ∀ u, v.cells ≠ [u])) := by
  cases v with
  | agg cs => cases cs with
    | nil => exact .inr ⟨rfl, .inr nofun⟩
    | cons x xs => cases xs with
      | nil => exact .inl ⟨x, rfl, rfl⟩
      | cons y ys => exact .inr ⟨rfl, .inr nofun⟩
  | tuple l => exact .inr ⟨rfl, .inl ⟨l, rfl⟩⟩
  | _ => exact .inl ⟨_, rfl, rfl⟩
abbrev Wr := Hp → Nat → Nat → AVal → Option Hp
def wrNo (_H : Hp) (_i _o : Nat) (_v : AVal) : Option Hp := none
def wrB (c : Bool) (H' : Hp) : Option Hp := Bool.rec (motive := fun _ => Hp → Option Hp) (fun _ => none) (fun H => some H) c H'
def and3 (a b c : Bool) : Bool := Bool.rec (motive := fun _ => Bool → Bool → Bool) (fun _ _ => false) (fun b c => Bool.rec (motive := fun _ => Bool → Bool) (fun _ => false) (fun c => c) b c) a b c
theorem and3_eq (a b c : Bool) : and3 a b c = (a && (b && c)) := by cases a <;> cases b <;> rfl
def wrC (rw : Bool) (c : Tr AVal) (m : Nat) (H : Hp) (i o : Nat) (v : AVal) : Option Hp := wrB (and3 rw (Nat.blt o m) (isCellR v)) (Hp.put H i (.cells true (Tr.set c o v) m))
def wrO (x : AObj) (H : Hp) (i o : Nat) (v : AVal) : Option Hp := AObj.rec (motive := fun _ => Wr) wrC (fun _ _ => wrNo) (fun _ _ _ _ => wrNo) x H i o v
def wr1 (H : Hp) (i o : Nat) (v : AVal) : Option Hp := Option.rec (motive := fun _ => Wr) wrNo wrO (Tr.get (Hp.t H) i) H i o v
theorem wr1_eq (H : Hp) (i o : Nat) (v : AVal) : wr1 H i o v = H.write1 i o v := by
  unfold wr1 Hp.write1
  cases H.t.get i with
  | none => rfl
  | some x =>
    show wrO x H i o v = _
    unfold wrO
    cases x with
    | cells rw c m =>
      show wrC rw c m H i o v = _
      unfold wrC
      rw [and3_eq, isCellR_eq]
      cases rw with
      | false => rfl
      | true =>
        simp only [Bool.true_and]
        cases (Nat.blt o m && v.isCell) <;> rfl
    | map es k => rfl
    | chan c b s r => rfl
def stC (v : AVal) (H : Hp) (i o : Nat) : Option Hp := wr1 H i o v
def stN (_H : Hp) (_i _o : Nat) : Option Hp := none
/-- A value of one cell is stored. -/
def st1 (H : Hp) (i o : Nat) (v : AVal) : Option Hp := Option.rec (motive := fun _ => Hp → Nat → Nat → Option Hp) stN stC (celOf v) H i o
theorem write1_tuple (H : Hp) (i o : Nat) (l : List AVal) : H.write1 i o (.tuple l) = none := by
  unfold Hp.write1
  split
  · simp [AVal.isCell]
  · rfl
theorem st1_eq {P : Program} {t : TypeId} (ht : szOf P t = some 1) (H : Hp) (i o : Nat) (v : AVal) : st1 H i o v = storeV P t H i o v := by
  unfold st1 storeV
  rw [ht]
  simp only
  rcases celOf_eq v with ⟨u, h1, h2⟩ | ⟨h1, ⟨l, rfl⟩ | h2⟩
  · rw [h1, h2]; exact wr1_eq H i o u
  · rw [h1]; exact (write1_tuple H i o l).symm
  · rw [h1]
    split
    · rename_i u hu; exact absurd hu (h2 u)
    · rfl
def jsNo (_st : Wr) (_g : Gt) (_p : Pf) (_k : Ky) (_rec : RecF) (_T : Tm) (_H : Hp) : RO := .fail
def jsNo2 (_i _o : Nat) (_st : Wr) (_p : Pf) (_k : Ky) (_rec : RecF) (_T : Tm) (_H : Hp) : RO := .fail
def jsF (_p : Pf) (_k : Ky) (_rec : RecF) (_T : Tm) : RO := .fail
def jsH (H : Hp) (p : Pf) (k : Ky) (rec : RecF) (T : Tm) : RO := k rec (p unit T) H
def jsV (v : AVal) (i o : Nat) (st : Wr) (p : Pf) (k : Ky) (rec : RecF) (T : Tm) (H : Hp) : RO := Option.rec (motive := fun _ => Pf → Ky → RecF → Tm → RO) jsF jsH (st H i o v) p k rec T
def jsP (i o : Nat) (st : Wr) (g : Gt) (p : Pf) (k : Ky) (rec : RecF) (T : Tm) (H : Hp) : RO := Option.rec (motive := fun _ => Nat → Nat → Wr → Pf → Ky → Ky) jsNo2 jsV (g T) i o st p k rec T H
def jsX (v : AVal) (st : Wr) (g : Gt) (p : Pf) (k : Ky) (rec : RecF) (T : Tm) (H : Hp) : RO := PtrR.rec (motive := fun _ => Wr → Gt → Pf → Ky → Ky) jsNo jsP (ptrOf v) st g p k rec T H
def jStore (st : Wr) (gx gy : Gt) (p : Pf) (k : Ky) (rec : RecF) (T : Tm) (H : Hp) : RO := Option.rec (motive := fun _ => Wr → Gt → Pf → Ky → Ky) jsNo jsX (gx T) st gy p k rec T H
theorem jStore_eq (st : Wr) (gx gy : Gt) (p : Pf) (k : Ky) (rec : RecF) (T : Tm) (H : Hp) : jStore st gx gy p k rec T H = (match gx T, gy T with
    | some (.ptr (some (i, o))), some v => (match st H i o v with
      | some H => k rec (p unit T) H
      | none => .fail)
    | _, _ => .fail) := by
  unfold jStore
  cases gx T with
  | none => rfl
  | some x =>
    show jsX x st gy p k rec T H = _
    unfold jsX
    cases x with
    | ptr a => cases a with
      | none => rfl
      | some q =>
        show jsP q.1 q.2 st gy p k rec T H = _
        unfold jsP
        cases gy T with
        | none => rfl
        | some v =>
          show jsV v q.1 q.2 st p k rec T H = _
          unfold jsV
          simp only
          cases st H q.1 q.2 v <;> rfl
    | _ => rfl

/-! a new block -/
def nwB (c : Bool) (v : AVal) (p : Pf) (k : Ky) (rec : RecF) (T : Tm) (H : Hp) : RO := Bool.rec (motive := fun _ => RO) (k rec (p (.ptr (some (Hp.next H, 0))) T) (newRowH H (AVal.cells v))) .fail c
def nwV (v : AVal) (p : Pf) (k : Ky) (rec : RecF) (T : Tm) (H : Hp) : RO := nwB (isTupR v) v p k rec T H
def jNew (g : Gt) (p : Pf) (k : Ky) (rec : RecF) (T : Tm) (H : Hp) : RO := Option.rec (motive := fun _ => Pf → Ky → Ky) jNo nwV (g T) p k rec T H
theorem jNew_eq (g : Gt) (p : Pf) (k : Ky) (rec : RecF) (T : Tm) (H : Hp) : jNew g p k rec T H = (match doAlloc (g T) H with
    | some (.val v H) => k rec (p v T) H
    | _ => .fail) := by
  unfold jNew doAlloc
  cases g T with
  | none => rfl
  | some v =>
    show nwB (isTupR v) v p k rec T H = _
    rw [isTupR_eq]
    simp only
    cases v.isTuple <;> rfl

/-! a call -/
structure La where
  get : Tm → Option (List AVal)
def laN (_T : Tm) : Option (List AVal) := some []
def laC2 (l : List AVal) (v : AVal) : Option (List AVal) := some (v :: l)
def laC1 (v : AVal) (gs : Tm → Option (List AVal)) (T : Tm) : Option (List AVal) := Option.rec (motive := fun _ => AVal → Option (List AVal)) (fun _ => none) laC2 (gs T) v
def laC (g : Gt) (gs : Tm → Option (List AVal)) (T : Tm) : Option (List AVal) := Option.rec (motive := fun _ => (Tm → Option (List AVal)) → Tm → Option (List AVal)) (fun _ _ => none) laC1 (g T) gs T
def laO (l : List Operand) : La := List.rec (motive := fun _ => La) ⟨laN⟩ (fun x _ ih => Ac.rec (motive := fun _ => La) (fun g => La.rec (motive := fun _ => La) (fun gs => ⟨laC g gs⟩) ih) (acO x)) l
theorem laO_get (T : Tm) : ∀ l : List Operand, (laO l).get T = opnds T l := by
  intro l
  induction l with
  | nil => rfl
  | cons x xs ih =>
    have e : (laO (x :: xs)) = Ac.rec (motive := fun _ => La) (fun g => La.rec (motive := fun _ => La) (fun gs => ⟨laC g gs⟩) (laO xs)) (acO x) := rfl
    have hx : (acO x).get T = opnd T x := acO_get x T
    rw [e]
    cases hg : acO x with
    | mk g => cases hs : laO xs with
      | mk gs =>
        rw [hg] at hx; rw [hs] at ih
        show laC g gs T = _
        unfold laC opnds
        rw [← hx]
        simp only
        cases g T with
        | none => rfl
        | some v =>
          show laC1 v gs T = _
          unfold laC1
          rw [← ih]
          simp only
          cases gs T <;> rfl
def jcF (_p : Pf) (_k : Ky) (_rec : RecF) (_T : Tm) : RO := .fail
def jcOk (v : AVal) (H : Hp) (p : Pf) (k : Ky) (rec : RecF) (T : Tm) : RO := k rec (p v T) H
def jcL (args : List AVal) (f : FuncId) (p : Pf) (k : Ky) (rec : RecF) (T : Tm) (H : Hp) : RO := RV.rec (motive := fun _ => Pf → Ky → RecF → Tm → RO) jcF jcOk (RecF.call rec f args H) p k rec T
def jcNo (_f : FuncId) (_p : Pf) (_k : Ky) (_rec : RecF) (_T : Tm) (_H : Hp) : RO := .fail
def kCall (f : FuncId) (ga : Tm → Option (List AVal)) (p : Pf) (k : Ky) (rec : RecF) (T : Tm) (H : Hp) : RO := Option.rec (motive := fun _ => FuncId → Pf → Ky → Ky) jcNo jcL (ga T) f p k rec T H
theorem kCall_eq (f : FuncId) (ga : Tm → Option (List AVal)) (p : Pf) (k : Ky) (rec : RecF) (T : Tm) (H : Hp) : kCall f ga p k rec T H = (match ga T with
    | some l => (match rec.call f l H with
      | .ok v H => k rec (p v T) H
      | .fail => .fail)
    | none => .fail) := by
  unfold kCall
  cases ga T with
  | none => rfl
  | some l =>
    show jcL l f p k rec T H = _
    unfold jcL
    simp only
    cases rec.call f l H <;> rfl

/-! any other operation -/
def jgF (_k : Ky) (_rec : RecF) : RO := .fail
def jgOk (T : Tm) (H : Hp) (k : Ky) (rec : RecF) : RO := k rec T H
def jGen (P : Program) (F : Facts) (ops : Array Oper) (o : Oper) (k : Ky) (rec : RecF) (T : Tm) (H : Hp) : RO := RO.rec (motive := fun _ => Ky → RecF → RO) jgF jgOk (stepF P F rec ops T H o) k rec
theorem jGen_eq (P : Program) (F : Facts) (ops : Array Oper) (o : Oper) (k : Ky) (rec : RecF) (T : Tm) (H : Hp) : jGen P F ops o k rec T H = (stepF P F rec ops T H o).bind (k rec) := by
  unfold jGen
  cases stepF P F rec ops T H o <;> rfl

/-! a guard -/
def gdNo (_want : Bool) (_inner : Ky) (_p : Pf) (_k : Ky) (_rec : RecF) (_T : Tm) (_H : Hp) : RO := .fail
def gdSkip (p : Pf) (k : Ky) (rec : RecF) (T : Tm) (H : Hp) : RO := k rec (p unit T) H
def gdInner (inner : Ky) (_p : Pf) (_k : Ky) (rec : RecF) (T : Tm) (H : Hp) : RO := inner rec T H
def gdT (_v : AVal) (want : Bool) (inner : Ky) (p : Pf) (k : Ky) (rec : RecF) (T : Tm) (H : Hp) : RO := Bool.rec (motive := fun _ => Ky → Pf → Ky → Ky) (fun _ => gdSkip) gdInner want inner p k rec T H
def gdF (_v : AVal) (want : Bool) (inner : Ky) (p : Pf) (k : Ky) (rec : RecF) (T : Tm) (H : Hp) : RO := Bool.rec (motive := fun _ => Ky → Pf → Ky → Ky) gdInner (fun _ => gdSkip) want inner p k rec T H
def gdX (v : AVal) (_want : Bool) (_inner : Ky) (p : Pf) (k : Ky) (rec : RecF) (T : Tm) (H : Hp) : RO := Bool.rec (motive := fun _ => Pf → Ky → Ky) jNo gdSkip (isTupR v) p k rec T H
def gdV (v : AVal) (want : Bool) (inner : Ky) (p : Pf) (k : Ky) (rec : RecF) (T : Tm) (H : Hp) : RO := B3.rec (motive := fun _ => AVal → Bool → Ky → Pf → Ky → Ky) gdX gdT gdF (truthOf v) v want inner p k rec T H
def jGuard (g : Gt) (want : Bool) (inner : Ky) (p : Pf) (k : Ky) (rec : RecF) (T : Tm) (H : Hp) : RO := Option.rec (motive := fun _ => Bool → Ky → Pf → Ky → Ky) gdNo gdV (g T) want inner p k rec T H
theorem jGuard_eq (g : Gt) (want : Bool) (inner : Ky) (p : Pf) (k : Ky) (rec : RecF) (T : Tm) (H : Hp) : jGuard g want inner p k rec T H = (match g T with
    | some (.bool b) => bif b == want then inner rec T H else k rec (p unit T) H
    | some (.tuple _) => k rec (p unit T) H
    | _ => .fail) := by
  unfold jGuard
  cases g T with
  | none => rfl
  | some v =>
    show gdV v want inner p k rec T H = _
    unfold gdV
    cases v with
    | bool b => cases b <;> cases want <;> rfl
    | _ => rfl

/-! ### making ready -/
def putJ (v : Vf) (d : Option Tmp) (k : JB) : JB := Pu.rec (motive := fun _ => JB) (fun p => JB.rec (motive := fun _ => JB) (fun k => ⟨kVal v p k⟩) k) (puD d)
def valJ (vc : Vc) (d : Option Tmp) (k : JB) : JB := Vc.rec (motive := fun _ => JB) (fun v => putJ v d k) vc
def genJ (P : Program) (F : Facts) (ops : Array Oper) (o : Oper) (k : JB) : JB := JB.rec (motive := fun _ => JB) (fun k => ⟨jGen P F ops o k⟩) k
def storeJ (x y : Operand) (d : Option Tmp) (k : JB) : JB := Ac.rec (motive := fun _ => JB) (fun gx => Ac.rec (motive := fun _ => JB) (fun gy => Pu.rec (motive := fun _ => JB) (fun p => JB.rec (motive := fun _ => JB) (fun k => ⟨jStore st1 gx gy p k⟩) k) (puD d)) (acO y)) (acO x)
def newJ (a : Ac) (d : Option Tmp) (k : JB) : JB := Ac.rec (motive := fun _ => JB) (fun g => Pu.rec (motive := fun _ => JB) (fun p => JB.rec (motive := fun _ => JB) (fun k => ⟨jNew g p k⟩) k) (puD d)) a
def callJ0 (f : FuncId) (args : List Operand) (d : Option Tmp) (k : JB) : JB := La.rec (motive := fun _ => JB) (fun ga => Pu.rec (motive := fun _ => JB) (fun p => JB.rec (motive := fun _ => JB) (fun k => ⟨kCall f ga p k⟩) k) (puD d)) (laO args)
def guardJ (d : Tmp) (want : Bool) (inner : JB) (d' : Option Tmp) (k : JB) : JB := Ac.rec (motive := fun _ => JB) (fun g => JB.rec (motive := fun _ => JB) (fun inner => Pu.rec (motive := fun _ => JB) (fun p => JB.rec (motive := fun _ => JB) (fun k => ⟨jGuard g want inner p k⟩) k) (puD d')) inner) (acT d)

def compN (P : Program) (F : Facts) (ops : Array Oper) (o : Oper) (k : JB) : JB := match o.op with
  | .store t x y => match szOf P t with
    | some 1 => storeJ x y o.dst k
    | _ => genJ P F ops o k
  | .alloc t => newJ (acV (zeroOf P t)) o.dst k
  | .box _ x => newJ (acO x) o.dst k
  | .call c => match c.callee with
    | .value (.func f) => callJ0 f c.args.toList o.dst k
    | _ => genJ P F ops o k
  | _ => genJ P F ops o k
def compW (P : Program) (F : Facts) (ops : Array Oper) (o : Oper) (k : JB) : JB := match compV P F o.op with
  | some vc => valJ vc o.dst k
  | none => compN P F ops o k
def failJ : JB := ⟨fun _ _ _ => .fail⟩
/-- An operation, and what follows it. -/
def compOp (P : Program) (F : Facts) (ops : Array Oper) (o : Oper) (k : JB) : JB := match o.guard with
  | none => compW P F ops o k
  | some (j, want) => match ops[j]? with
    | some q => match q.dst with
      | some d => guardJ d want (compW P F ops { o with guard := none } k) o.dst k
      | none => failJ
    | none => failJ

/-- What an operation that is wanted does. -/
def plainF (P : Program) (F : Facts) (rec : RecF) (T : Tm) (H : Hp) (o : Oper) : RO := doneF (aopF P F T H o) rec T H o
theorem stepF_none {P : Program} {F : Facts} {rec : RecF} {ops : Array Oper} {T : Tm} {H : Hp} {o : Oper} (h : o.guard = none) : stepF P F rec ops T H o = plainF P F rec T H o := by unfold stepF; rw [h]; rfl

theorem valJ_run (vc : Vc) (d : Option Tmp) (k : JB) (rec : RecF) (T : Tm) (H : Hp) : (valJ vc d k).run rec T H = (match vc.val T H with
    | some x => k.run rec (putF d x T) H
    | none => .fail) := by
  cases vc with | mk v =>
  cases k with | mk k =>
  have hp := fun x => puD_put d x T
  unfold valJ putJ
  simp only
  cases h : puD d with | mk p =>
  rw [h] at hp
  show kVal v p k rec T H = _
  rw [kVal_eq]
  cases v T H with
  | none => rfl
  | some x => simp only; rw [← hp]
theorem compN_run {P : Program} {F : Facts} {ops : Array Oper} {o : Oper} (hg : o.guard = none) (k : JB) (rec : RecF) (T : Tm) (H : Hp) : (compN P F ops o k).run rec T H = (plainF P F rec T H o).bind (k.run rec) := by
  have hgen : (genJ P F ops o k).run rec T H = (plainF P F rec T H o).bind (k.run rec) := by
    cases k with | mk k =>
    show jGen P F ops o k rec T H = _
    rw [jGen_eq, stepF_none hg]
  obtain ⟨dst, op, ty, pos, after, guard⟩ := o
  simp only at hg
  subst hg
  have hp := fun x T => puD_put dst x T
  have halloc : ∀ a : Ac, ∀ x : Option AVal, a.get T = x → (newJ a dst k).run rec T H = (match doAlloc x H with
      | some (.val v H) => k.run rec (putF dst v T) H
      | _ => .fail) := by
    intro a x hx
    cases a with | mk g =>
    cases k with | mk k =>
    unfold newJ
    simp only
    cases h : puD dst with | mk p =>
    rw [h] at hp
    show jNew g p k rec T H = _
    rw [jNew_eq]
    subst hx
    cases hd : doAlloc (g T) H with
    | none => rfl
    | some r => cases r with
      | val v H' => simp only; rw [← hp]
      | call f l => rfl
  have hres : ∀ x : Option AVal, aopF P F T H ⟨dst, op, ty, pos, after, none⟩ = doAlloc x H → (match doAlloc x H with
      | some (.val v H) => k.run rec (putF dst v T) H
      | _ => .fail) = (plainF P F rec T H ⟨dst, op, ty, pos, after, none⟩).bind (k.run rec) := by
    intro x hx
    unfold plainF
    rw [hx]
    cases hd : doAlloc x H with
    | none => rfl
    | some r => cases r with
      | val v H' => rfl
      | call f l =>
        exfalso
        unfold doAlloc at hd
        cases x with
        | none => cases hd
        | some z => cases hz : z.isTuple <;> simp [hz] at hd
  cases op <;> try exact hgen
  case store t x y =>
    unfold compN
    simp only
    split
    case h_2 => exact hgen
    rename_i ht
    have ha : aopF P F T H ⟨dst, .store t x y, ty, pos, after, none⟩ = doStore P t (opnd T x) (opnd T y) H := rfl
    unfold plainF
    rw [ha]
    unfold storeJ
    have hx := acO_get x T
    have hy := acO_get y T
    cases h1 : acO x with | mk gx =>
    cases h2 : acO y with | mk gy =>
    rw [h1] at hx; rw [h2] at hy
    cases k with | mk k =>
    simp only
    cases h : puD dst with | mk p =>
    rw [h] at hp
    show jStore st1 gx gy p k rec T H = _
    rw [jStore_eq]
    unfold doStore
    rw [← hx, ← hy]
    simp only
    cases gx T with
    | none => rfl
    | some a => cases a with
      | ptr q => cases q with
        | none => rfl
        | some q => cases gy T with
          | none => rfl
          | some v =>
            simp only
            rw [st1_eq ht]
            cases storeV P t H q.1 q.2 v with
            | none => rfl
            | some H' => simp only; rw [show p unit T = putF dst unit T from hp _ _]; rfl
      | _ => rfl
  case alloc t =>
    have e : (compN P F ops ⟨dst, .alloc t, ty, pos, after, none⟩ k) = newJ (acV (zeroOf P t)) dst k := rfl
    rw [e, halloc _ (zeroOf P t) (acV_get _ _)]
    exact hres _ rfl
  case box t x =>
    have e : (compN P F ops ⟨dst, .box t x, ty, pos, after, none⟩ k) = newJ (acO x) dst k := rfl
    rw [e, halloc _ (opnd T x) (acO_get _ _)]
    exact hres _ rfl
  case call c =>
    unfold compN
    simp only
    split
    case h_2 => exact hgen
    rename_i f hf
    have ha : aopF P F T H ⟨dst, .call c, ty, pos, after, none⟩ = doCall (some (.func f [] [])) (opnds T c.args.toList) := by
      obtain ⟨callee, args, tys⟩ := c
      simp only at hf
      subst hf
      rfl
    unfold plainF
    rw [ha]
    unfold callJ0
    have hl := laO_get T c.args.toList
    cases h1 : laO c.args.toList with | mk ga =>
    rw [h1] at hl
    cases k with | mk k =>
    simp only
    cases h : puD dst with | mk p =>
    rw [h] at hp
    show kCall f ga p k rec T H = _
    rw [kCall_eq]
    unfold doCall
    rw [← hl]
    simp only
    cases ga T with
    | none => rfl
    | some l =>
      simp only [List.nil_append, List.append_nil]
      show _ = (fCall f l rec T H ⟨dst, .call c, ty, pos, after, none⟩).bind (JB.run ⟨k⟩ rec)
      unfold fCall
      simp only
      cases rec.call f l H with
      | fail => rfl
      | ok v H' => simp only; rw [show p v T = putF dst v T from hp _ _]; rfl

theorem compW_run {P : Program} {F : Facts} {ops : Array Oper} {o : Oper} (hg : o.guard = none) (k : JB) (rec : RecF) (T : Tm) (H : Hp) : (compW P F ops o k).run rec T H = (plainF P F rec T H o).bind (k.run rec) := by
  unfold compW
  cases h : compV P F o.op with
  | none => exact compN_run hg k rec T H
  | some vc =>
    simp only
    rw [valJ_run]
    have := compV_eq h o rfl T H
    unfold plainF
    rw [aopF_eq, this]
    cases vc.val T H <;> rfl

theorem wantedA_some {ops : Array Oper} {T : Tm} {o : Oper} {j : Nat} {want : Bool} {q : Oper} {d : Tmp} (hg : o.guard = some (j, want)) (hq : ops[j]? = some q) (hd : q.dst = some d) : wantedA ops T o = (match Tm.get d T with
    | some (.bool b) => some (b == want)
    | some (.tuple _) => some false
    | _ => none) := by
  unfold wantedA
  rw [hg]
  simp only [hq, hd]
  cases Tm.get d T with
  | none => rfl
  | some v => cases v <;> rfl

theorem compOp_run (P : Program) (F : Facts) (ops : Array Oper) (o : Oper) (k : JB) (rec : RecF) (T : Tm) (H : Hp) : (compOp P F ops o k).run rec T H = (stepF P F rec ops T H o).bind (k.run rec) := by
  unfold compOp
  split
  · rename_i hg
    rw [compW_run hg, stepF_none hg]
  · rename_i j want hg
    have hst : stepF P F rec ops T H o = gWant (wantedA ops T o) P F rec T H o := by unfold stepF; rw [hg]; rfl
    rw [hst]
    cases hq : ops[j]? with
    | none =>
      have : wantedA ops T o = none := by unfold wantedA; rw [hg]; simp only [hq]
      rw [this]; rfl
    | some q =>
      simp only
      cases hd : q.dst with
      | none =>
        have : wantedA ops T o = none := by unfold wantedA; rw [hg]; simp only [hq, hd]
        rw [this]; rfl
      | some d =>
        simp only
        have hi := compW_run (P := P) (F := F) (ops := ops) (o := { o with guard := none }) rfl k rec T H
        have he : plainF P F rec T H { o with guard := none } = plainF P F rec T H o := by
          unfold plainF
          rw [aopF_eq, aopF_eq]
          have ea : aop P F T H { o with guard := none } = aop P F T H o := rfl
          rw [ea]
          cases aop P F T H o with
          | none => rfl
          | some r => cases r <;> rfl
        rw [he] at hi
        have hgt := acT_get d T
        unfold guardJ
        cases h1 : acT d with | mk g =>
        cases h2 : compW P F ops { o with guard := none } k with | mk inner =>
        rw [h2] at hi
        rw [h1] at hgt
        cases k with | mk k =>
        have hp := puD_put o.dst unit T
        simp only
        cases h3 : puD o.dst with | mk p =>
        rw [h3] at hp
        show jGuard g want inner p k rec T H = _
        rw [jGuard_eq, wantedA_some hg hq hd, ← hgt]
        have hi' : inner rec T H = (plainF P F rec T H o).bind (JB.run ⟨k⟩ rec) := hi
        have hp' : p unit T = putF o.dst unit T := hp
        simp only
        cases g T with
        | none => rfl
        | some v => cases v with
          | bool b =>
            simp only
            cases hb : (b == want) with
            | true => simp only [cond_true]; exact hi'
            | false => simp only [cond_false]; rw [hp']; rfl
          | tuple l => simp only; rw [hp']; rfl
          | _ => rfl
end
end Go.Px
