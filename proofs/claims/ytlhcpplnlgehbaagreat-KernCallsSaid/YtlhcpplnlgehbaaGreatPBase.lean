/- An executable big-step reading of the model's code over an abstract heap: the data. -/
import GoSem.Machine.Return
namespace Go.Px
open Go
noncomputable section

/-! ### a small trie over Nat keys -/
inductive Tr (α : Type) where
  | nil
  | node (l : Tr α) (v : Option α) (r : Tr α)

def Tr.get {α : Type} (t : Tr α) : Nat → Option α :=
  Tr.rec (motive := fun _ => Nat → Option α) (fun _ => none) (fun _ v _ gl gr n => Nat.rec (motive := fun _ => Option α) v (fun n _ => Bool.rec (motive := fun _ => Option α) (gr (Nat.div n 2)) (gl (Nat.div n 2)) (Nat.beq (Nat.mod n 2) 0)) n) t

def Tr.single {α : Type} (f : Nat) : Nat → α → Tr α :=
  Nat.rec (motive := fun _ => Nat → α → Tr α) (fun _ _ => .nil) (fun _ g n a => Nat.rec (motive := fun _ => Tr α) (.node .nil (some a) .nil)
    (fun n _ => Bool.rec (motive := fun _ => Tr α) (.node .nil none (g (Nat.div n 2) a)) (.node (g (Nat.div n 2) a) none .nil) (Nat.beq (Nat.mod n 2) 0)) n) f

def Tr.set {α : Type} (t : Tr α) : Nat → α → Tr α :=
  Tr.rec (motive := fun _ => Nat → α → Tr α) (fun n a => Tr.single (n+1) n a) (fun l v r gl gr n a => Nat.rec (motive := fun _ => Tr α) (Tr.node l (some a) r) (fun n _ => Bool.rec (motive := fun _ => Tr α) (Tr.node l v (gr (Nat.div n 2) a)) (Tr.node (gl (Nat.div n 2) a) v r) (Nat.beq (Nat.mod n 2) 0)) n) t

def Tr.del {α : Type} (t : Tr α) : Nat → Tr α :=
  Tr.rec (motive := fun _ => Nat → Tr α) (fun _ => .nil) (fun l v r gl gr n => Nat.rec (motive := fun _ => Tr α) (Tr.node l none r) (fun n _ => Bool.rec (motive := fun _ => Tr α) (Tr.node l v (gr (Nat.div n 2))) (Tr.node (gl (Nat.div n 2)) v r) (Nat.beq (Nat.mod n 2) 0)) n) t

def Tr.ofList {α : Type} (l : List α) : Nat → Tr α → Tr α :=
  List.rec (motive := fun _ => Nat → Tr α → Tr α) (fun _ t => t) (fun x _ ih i t => ih (Nat.succ i) (t.set i x)) l

section
variable {α : Type}
theorem Tr.get_nil (n : Nat) : (Tr.nil : Tr α).get n = none := rfl
theorem Tr.get_zero (l : Tr α) (v : Option α) (r : Tr α) : (Tr.node l v r).get 0 = v := rfl
theorem Tr.get_succ (l : Tr α) (v : Option α) (r : Tr α) (n : Nat) : (Tr.node l v r).get (n + 1) = if n % 2 = 0 then l.get (n / 2) else r.get (n / 2) := by
  show Bool.rec (motive := fun _ => Option α) (r.get (Nat.div n 2)) (l.get (Nat.div n 2)) (Nat.beq (Nat.mod n 2) 0) = _
  by_cases h : n % 2 = 0
  · have h' : Nat.beq (Nat.mod n 2) 0 = true := by rw [Nat.beq_eq]; exact h
    rw [h', if_pos h]; rfl
  · have h' : Nat.beq (Nat.mod n 2) 0 = false := by
      cases hb : Nat.beq (Nat.mod n 2) 0 with
      | false => rfl
      | true => exact absurd (Nat.eq_of_beq_eq_true hb) h
    rw [h', if_neg h]; rfl
theorem Tr.set_zero (l : Tr α) (v : Option α) (r : Tr α) (a : α) : (Tr.node l v r).set 0 a = .node l (some a) r := rfl
theorem Tr.set_succ (l : Tr α) (v : Option α) (r : Tr α) (n : Nat) (a : α) : (Tr.node l v r).set (n + 1) a = if n % 2 = 0 then .node (l.set (n / 2) a) v r else .node l v (r.set (n / 2) a) := by
  show Bool.rec (motive := fun _ => Tr α) (Tr.node l v (r.set (Nat.div n 2) a)) (Tr.node (l.set (Nat.div n 2) a) v r) (Nat.beq (Nat.mod n 2) 0) = _
  by_cases h : n % 2 = 0
  · have h' : Nat.beq (Nat.mod n 2) 0 = true := by rw [Nat.beq_eq]; exact h
    rw [h', if_pos h]; rfl
  · have h' : Nat.beq (Nat.mod n 2) 0 = false := by
      cases hb : Nat.beq (Nat.mod n 2) 0 with
      | false => rfl
      | true => exact absurd (Nat.eq_of_beq_eq_true hb) h
    rw [h', if_neg h]; rfl
theorem Tr.del_zero (l : Tr α) (v : Option α) (r : Tr α) : (Tr.node l v r).del 0 = .node l none r := rfl
theorem Tr.del_succ (l : Tr α) (v : Option α) (r : Tr α) (n : Nat) : (Tr.node l v r).del (n + 1) = if n % 2 = 0 then .node (l.del (n / 2)) v r else .node l v (r.del (n / 2)) := by
  show Bool.rec (motive := fun _ => Tr α) (Tr.node l v (r.del (Nat.div n 2))) (Tr.node (l.del (Nat.div n 2)) v r) (Nat.beq (Nat.mod n 2) 0) = _
  by_cases h : n % 2 = 0
  · have h' : Nat.beq (Nat.mod n 2) 0 = true := by rw [Nat.beq_eq]; exact h
    rw [h', if_pos h]; rfl
  · have h' : Nat.beq (Nat.mod n 2) 0 = false := by
      cases hb : Nat.beq (Nat.mod n 2) 0 with
      | false => rfl
      | true => exact absurd (Nat.eq_of_beq_eq_true hb) h
    rw [h', if_neg h]; rfl
theorem Tr.single_zero (f : Nat) (a : α) : Tr.single (f + 1) 0 a = .node .nil (some a) .nil := rfl
theorem Tr.single_succ (f n : Nat) (a : α) : Tr.single (f + 1) (n + 1) a = if n % 2 = 0 then .node (Tr.single f (n / 2) a) none .nil else .node .nil none (Tr.single f (n / 2) a) := by
  show Bool.rec (motive := fun _ => Tr α) (.node .nil none (Tr.single f (Nat.div n 2) a)) (.node (Tr.single f (Nat.div n 2) a) none .nil) (Nat.beq (Nat.mod n 2) 0) = _
  by_cases h : n % 2 = 0
  · have h' : Nat.beq (Nat.mod n 2) 0 = true := by rw [Nat.beq_eq]; exact h
    rw [h', if_pos h]; rfl
  · have h' : Nat.beq (Nat.mod n 2) 0 = false := by
      cases hb : Nat.beq (Nat.mod n 2) 0 with
      | false => rfl
      | true => exact absurd (Nat.eq_of_beq_eq_true hb) h
    rw [h', if_neg h]; rfl
theorem Tr.get_single : ∀ (f n : Nat) (a : α) (m : Nat), n < f → (Tr.single f n a).get m = if m = n then some a else none := by
  intro f
  induction f with
  | zero => intro n a m h; omega
  | succ f ih =>
    intro n a m h
    cases n with
    | zero =>
      rw [Tr.single_zero]
      cases m with
      | zero => rfl
      | succ m => rw [Tr.get_succ]; simp only [Tr.get_nil]; split <;> simp
    | succ n =>
      rw [Tr.single_succ]
      by_cases hn : n % 2 = 0
      · rw [if_pos hn]
        cases m with
        | zero => simp [Tr.get_zero]
        | succ m =>
          rw [Tr.get_succ, ih _ _ _ (by omega), Tr.get_nil]
          by_cases hm : m % 2 = 0
          · rw [if_pos hm]; by_cases e : m = n
            · subst e; simp
            · rw [if_neg (by omega), if_neg (by omega)]
          · rw [if_neg hm, if_neg (by omega)]
      · rw [if_neg hn]
        cases m with
        | zero => simp [Tr.get_zero]
        | succ m =>
          rw [Tr.get_succ, ih _ _ _ (by omega), Tr.get_nil]
          by_cases hm : m % 2 = 0
          · rw [if_pos hm, if_neg (by omega)]
          · rw [if_neg hm]; by_cases e : m = n
            · subst e; simp
            · rw [if_neg (by omega), if_neg (by omega)]
theorem Tr.get_set (t : Tr α) : ∀ (n : Nat) (a : α) (m : Nat), (t.set n a).get m = if m = n then some a else t.get m := by
  induction t with
  | nil => intro n a m; show (Tr.single (n + 1) n a).get m = _; rw [Tr.get_single _ _ _ _ (by omega), Tr.get_nil]
  | node l v r ihl ihr =>
    intro n a m
    cases n with
    | zero =>
      rw [Tr.set_zero]
      cases m with
      | zero => rfl
      | succ m => rw [Tr.get_succ, Tr.get_succ, if_neg (show ¬ m + 1 = 0 by omega)]
    | succ n =>
      rw [Tr.set_succ]
      by_cases hn : n % 2 = 0
      · rw [if_pos hn]
        cases m with
        | zero => simp [Tr.get_zero]
        | succ m =>
          rw [Tr.get_succ, Tr.get_succ, ihl]
          by_cases hm : m % 2 = 0
          · rw [if_pos hm, if_pos hm]; by_cases e : m = n
            · subst e; simp
            · rw [if_neg (by omega), if_neg (by omega)]
          · rw [if_neg hm, if_neg hm, if_neg (by omega)]
      · rw [if_neg hn]
        cases m with
        | zero => simp [Tr.get_zero]
        | succ m =>
          rw [Tr.get_succ, Tr.get_succ, ihr]
          by_cases hm : m % 2 = 0
          · rw [if_pos hm, if_pos hm, if_neg (by omega)]
          · rw [if_neg hm, if_neg hm]; by_cases e : m = n
            · subst e; simp
            · rw [if_neg (by omega), if_neg (by omega)]
theorem Tr.get_del (t : Tr α) : ∀ (n m : Nat), (t.del n).get m = if m = n then none else t.get m := by
  induction t with
  | nil => intro n m; show (Tr.nil : Tr α).get m = _; rw [Tr.get_nil]; simp
  | node l v r ihl ihr =>
    intro n m
    cases n with
    | zero =>
      rw [Tr.del_zero]
      cases m with
      | zero => rfl
      | succ m => rw [Tr.get_succ, Tr.get_succ, if_neg (show ¬ m + 1 = 0 by omega)]
    | succ n =>
      rw [Tr.del_succ]
      by_cases hn : n % 2 = 0
      · rw [if_pos hn]
        cases m with
        | zero => simp [Tr.get_zero]
        | succ m =>
          rw [Tr.get_succ, Tr.get_succ, ihl]
          by_cases hm : m % 2 = 0
          · rw [if_pos hm, if_pos hm]; by_cases e : m = n
            · subst e; simp
            · rw [if_neg (by omega), if_neg (by omega)]
          · rw [if_neg hm, if_neg hm, if_neg (by omega)]
      · rw [if_neg hn]
        cases m with
        | zero => simp [Tr.get_zero]
        | succ m =>
          rw [Tr.get_succ, Tr.get_succ, ihr]
          by_cases hm : m % 2 = 0
          · rw [if_pos hm, if_pos hm, if_neg (by omega)]
          · rw [if_neg hm, if_neg hm]; by_cases e : m = n
            · subst e; simp
            · rw [if_neg (by omega), if_neg (by omega)]
theorem Tr.get_ofList : ∀ (l : List α) (i : Nat) (t : Tr α) (m : Nat), (Tr.ofList l i t).get m = if i ≤ m ∧ m < i + l.length then l[m - i]? else t.get m := by
  intro l
  induction l with
  | nil => intro i t m; show t.get m = _; rw [if_neg (by simp)]
  | cons x xs ih =>
    intro i t m
    show (Tr.ofList xs (i + 1) (t.set i x)).get m = _
    rw [ih, Tr.get_set]
    simp only [List.length_cons]
    by_cases h1 : i + 1 ≤ m ∧ m < i + 1 + xs.length
    · rw [if_pos h1, if_pos (by omega)]
      have : m - i = (m - (i + 1)) + 1 := by omega
      rw [this]; simp
    · rw [if_neg h1]
      by_cases h2 : m = i
      · subst h2; simp
      · rw [if_neg h2, if_neg (by omega)]
end

/-! ### integers -/
def ilt : Int → Int → Bool
  | .ofNat m, .ofNat n => Nat.blt m n
  | .ofNat _, .negSucc _ => false
  | .negSucc _, .ofNat _ => true
  | .negSucc m, .negSucc n => Nat.blt n m

def ibeq : Int → Int → Bool
  | .ofNat m, .ofNat n => Nat.beq m n
  | .negSucc m, .negSucc n => Nat.beq m n
  | _, _ => false

/-- A literal, or 'a * (token i) + c'. -/
inductive SInt where
  | lit (z : Int)
  | lin (a : Int) (i : Nat) (c : Int)

/-- Of each token the least and the greatest value. -/
abbrev Facts := List (Int × Int)

def SInt.beq : SInt → SInt → Bool
  | .lit x, .lit y => ibeq x y
  | .lin a i c, .lin b j d => ibeq a b && Nat.beq i j && ibeq c d
  | _, _ => false

/-- The least and the greatest value. -/
def SInt.span (F : Facts) : SInt → Option (Int × Int)
  | .lit z => some (z, z)
  | .lin a i c => match F[i]? with
    | none => none
    | some (lo, hi) => bif ilt a 0 then some (a * hi + c, a * lo + c) else some (a * lo + c, a * hi + c)

def SInt.mk (a : Int) (i : Nat) (c : Int) : SInt := bif ibeq a 0 then .lit c else .lin a i c

def SInt.add : SInt → SInt → Option SInt
  | .lit x, .lit y => some (.lit (x + y))
  | .lit x, .lin a i c => some (.lin a i (x + c))
  | .lin a i c, .lit x => some (.lin a i (c + x))
  | .lin a i c, .lin b j d => bif Nat.beq i j then some (SInt.mk (a + b) i (c + d)) else none

def SInt.sub : SInt → SInt → Option SInt
  | .lit x, .lit y => some (.lit (x - y))
  | .lit x, .lin a i c => some (.lin (-a) i (x - c))
  | .lin a i c, .lit x => some (.lin a i (c - x))
  | .lin a i c, .lin b j d => bif Nat.beq i j then some (SInt.mk (a - b) i (c - d)) else none

def SInt.mul : SInt → SInt → Option SInt
  | .lit x, .lit y => some (.lit (x * y))
  | .lit x, .lin a i c => some (SInt.mk (x * a) i (x * c))
  | .lin a i c, .lit x => some (SInt.mk (a * x) i (c * x))
  | _, _ => none

/-- x < y? -/
def SInt.lt (F : Facts) : SInt → SInt → Option Bool
  | .lit x, .lit y => some (ilt x y)
  | x, y => match x.sub y with
    | none => none
    | some d => match d.span F with
      | none => none
      | some (lo, hi) => bif ilt hi 0 then some true else bif ilt lo 0 then none else some false

def SInt.eq (F : Facts) : SInt → SInt → Option Bool
  | .lit x, .lit y => some (ibeq x y)
  | x, y => match x.sub y with
    | none => none
    | some d => match d with
      | .lit z => some (ibeq z 0)
      | d => match d.span F with
        | none => none
        | some (lo, hi) => bif ilt hi 0 then some false else bif ilt 0 lo then some false else none

def kmin : IntKind → Int
  | .i8 => -128 | .i16 => -32768 | .i32 => -2147483648 | .i64 => -9223372036854775808 | _ => 0
def kmax : IntKind → Int
  | .i8 => 127 | .i16 => 32767 | .i32 => 2147483647 | .i64 => 9223372036854775807
  | .u8 => 255 | .u16 => 65535 | .u32 => 4294967295 | .u64 => 18446744073709551615

def kin (k : IntKind) (z : Int) : Bool := bif ilt z (kmin k) then false else bif ilt (kmax k) z then false else true

def SInt.wrap (F : Facts) (k : IntKind) : SInt → Option SInt
  | .lit z => some (.lit (bif kin k z then z else k.wrap z))
  | x => match x.span F with
    | none => none
    | some (lo, hi) => bif kin k lo && kin k hi then some x else none

def SInt.lit? : SInt → Option Int
  | .lit z => some z
  | _ => none

/-! ### values -/
inductive AVal where
  | bool (b : Bool)
  | int (k : IntKind) (n : SInt)
  | str (s : List Nat)
  | ptr (a : Option (Nat × Nat))
  | slice (a : Option (Nat × Nat)) (len : Nat) (cap : Option Nat) (es : Nat)
  | map (r : Option Nat)
  | chan (r : Option Nat)
  | func (f : FuncId) (first captured : List AVal)
  | nilFunc
  | iface (t : TypeId) (v : AVal)
  | nilIface
  | agg (cs : List AVal)
  | tuple (vs : List AVal)

def optBeq : Option (Nat × Nat) → Option (Nat × Nat) → Bool
  | none, none => true
  | some (a, b), some (c, d) => Nat.beq a c && Nat.beq b d
  | _, _ => false
def optNat : Option Nat → Option Nat → Bool
  | none, none => true
  | some a, some b => Nat.beq a b
  | _, _ => false
def natsBeq : List Nat → List Nat → Bool
  | [], [] => true
  | a :: x, b :: y => Nat.beq a b && natsBeq x y
  | _, _ => false

def kcode : IntKind → Nat
  | .i8 => 0 | .i16 => 1 | .i32 => 2 | .i64 => 3 | .u8 => 4 | .u16 => 5 | .u32 => 6 | .u64 => 7
def kbeq (a b : IntKind) : Bool := Nat.beq (kcode a) (kcode b)

mutual
def AVal.beq : AVal → AVal → Bool
  | .bool a, .bool b => a == b
  | .int k a, .int j b => kbeq k j && SInt.beq a b
  | .str a, .str b => natsBeq a b
  | .ptr a, .ptr b => optBeq a b
  | .slice a l c e, .slice b m d f => optBeq a b && Nat.beq l m && optNat c d && Nat.beq e f
  | .map a, .map b => optNat a b
  | .chan a, .chan b => optNat a b
  | .func f a b, .func g c d => Nat.beq f g && AVal.beqL a c && AVal.beqL b d
  | .nilFunc, .nilFunc => true
  | .iface t v, .iface u w => Nat.beq t u && AVal.beq v w
  | .nilIface, .nilIface => true
  | .agg a, .agg b => AVal.beqL a b
  | .tuple a, .tuple b => AVal.beqL a b
  | _, _ => false
def AVal.beqL : List AVal → List AVal → Bool
  | [], [] => true
  | a :: x, b :: y => AVal.beq a b && AVal.beqL x y
  | _, _ => false
end

def AVal.cells : AVal → List AVal
  | .agg cs => cs
  | v => [v]

def AVal.isCell : AVal → Bool
  | .agg _ => false
  | .tuple _ => false
  | _ => true

def allCells (l : List AVal) : Bool := List.rec (motive := fun _ => Bool) true (fun v _ ih => v.isCell && ih) l
theorem allCells_iff (l : List AVal) : allCells l = true ↔ ∀ u, u ∈ l → u.isCell = true := by
  induction l with
  | nil => exact ⟨fun _ u h => by simp at h, fun _ => rfl⟩
  | cons v l ih =>
    show (v.isCell && allCells l) = true ↔ _
    rw [Bool.and_eq_true, ih]
    refine ⟨fun h u hu => ?_, fun h => ⟨h v (by simp), fun u hu => h u (by simp [hu])⟩⟩
    rcases List.mem_cons.1 hu with rfl | hu
    · exact h.1
    · exact h.2 u hu

/-- A constant of the program as a value (n: how deep). -/
def absConst : Nat → Value → Option AVal
  | 0, _ => none
  | n + 1, v => match v with
    | .bool b => some (.bool b)
    | .int k z => some (.int k (.lit z))
    | .string s => some (.str (s.data.toList.map UInt8.toNat))
    | .pointer none => some (.ptr none)
    | .slice none 0 0 => some (.slice none 0 (some 0) 0)
    | .map none => some (.map none)
    | .chan none => some (.chan none)
    | .func (.func f) a b => match a.toList, b.toList with
      | [], [] => some (.func f [] [])
      | _, _ => none
    | .nilFunc => some .nilFunc
    | .nilIface => some .nilIface
    | .agg cs => match cs.toList.mapM (absConst n) with
      | some as => bif allCells as then some (.agg as) else none
      | none => none
    | .tuple cs => (cs.toList.mapM (absConst n)).map .tuple
    | _ => none

/-! ### temporaries -/
/-- A digit to the base 16. -/
inductive D16 where
  | d0 | d1 | d2 | d3 | d4 | d5 | d6 | d7 | d8 | d9 | d10 | d11 | d12 | d13 | d14 | d15
def D16.of (j : Nat) : D16 := (bif Nat.blt j 8 then (bif Nat.blt j 4 then (bif Nat.blt j 2 then (bif Nat.blt j 1 then .d0 else .d1) else (bif Nat.blt j 3 then .d2 else .d3)) else (bif Nat.blt j 6 then (bif Nat.blt j 5 then .d4 else .d5) else (bif Nat.blt j 7 then .d6 else .d7))) else (bif Nat.blt j 12 then (bif Nat.blt j 10 then (bif Nat.blt j 9 then .d8 else .d9) else (bif Nat.blt j 11 then .d10 else .d11)) else (bif Nat.blt j 14 then (bif Nat.blt j 13 then .d12 else .d13) else (bif Nat.blt j 15 then .d14 else .d15))))
/-- Temporaries, in rows of sixteen. -/
inductive Tm where
  | nil
  | node (a0 a1 a2 a3 a4 a5 a6 a7 a8 a9 a10 a11 a12 a13 a14 a15 : Option AVal) (nx : Tm)
def Tm.nx (t : Tm) : Tm := Tm.rec (motive := fun _ => Tm) .nil (fun _ _ _ _ _ _ _ _ _ _ _ _ _ _ _ _ nx _ => nx) t
def Tm.g0 (t : Tm) : Option AVal := Tm.rec (motive := fun _ => Option AVal) none (fun a0 _ _ _ _ _ _ _ _ _ _ _ _ _ _ _ _ _ => a0) t
def Tm.g1 (t : Tm) : Option AVal := Tm.rec (motive := fun _ => Option AVal) none (fun _ a1 _ _ _ _ _ _ _ _ _ _ _ _ _ _ _ _ => a1) t
def Tm.g2 (t : Tm) : Option AVal := Tm.rec (motive := fun _ => Option AVal) none (fun _ _ a2 _ _ _ _ _ _ _ _ _ _ _ _ _ _ _ => a2) t
def Tm.g3 (t : Tm) : Option AVal := Tm.rec (motive := fun _ => Option AVal) none (fun _ _ _ a3 _ _ _ _ _ _ _ _ _ _ _ _ _ _ => a3) t
def Tm.g4 (t : Tm) : Option AVal := Tm.rec (motive := fun _ => Option AVal) none (fun _ _ _ _ a4 _ _ _ _ _ _ _ _ _ _ _ _ _ => a4) t
def Tm.g5 (t : Tm) : Option AVal := Tm.rec (motive := fun _ => Option AVal) none (fun _ _ _ _ _ a5 _ _ _ _ _ _ _ _ _ _ _ _ => a5) t
def Tm.g6 (t : Tm) : Option AVal := Tm.rec (motive := fun _ => Option AVal) none (fun _ _ _ _ _ _ a6 _ _ _ _ _ _ _ _ _ _ _ => a6) t
def Tm.g7 (t : Tm) : Option AVal := Tm.rec (motive := fun _ => Option AVal) none (fun _ _ _ _ _ _ _ a7 _ _ _ _ _ _ _ _ _ _ => a7) t
def Tm.g8 (t : Tm) : Option AVal := Tm.rec (motive := fun _ => Option AVal) none (fun _ _ _ _ _ _ _ _ a8 _ _ _ _ _ _ _ _ _ => a8) t
def Tm.g9 (t : Tm) : Option AVal := Tm.rec (motive := fun _ => Option AVal) none (fun _ _ _ _ _ _ _ _ _ a9 _ _ _ _ _ _ _ _ => a9) t
def Tm.g10 (t : Tm) : Option AVal := Tm.rec (motive := fun _ => Option AVal) none (fun _ _ _ _ _ _ _ _ _ _ a10 _ _ _ _ _ _ _ => a10) t
def Tm.g11 (t : Tm) : Option AVal := Tm.rec (motive := fun _ => Option AVal) none (fun _ _ _ _ _ _ _ _ _ _ _ a11 _ _ _ _ _ _ => a11) t
def Tm.g12 (t : Tm) : Option AVal := Tm.rec (motive := fun _ => Option AVal) none (fun _ _ _ _ _ _ _ _ _ _ _ _ a12 _ _ _ _ _ => a12) t
def Tm.g13 (t : Tm) : Option AVal := Tm.rec (motive := fun _ => Option AVal) none (fun _ _ _ _ _ _ _ _ _ _ _ _ _ a13 _ _ _ _ => a13) t
def Tm.g14 (t : Tm) : Option AVal := Tm.rec (motive := fun _ => Option AVal) none (fun _ _ _ _ _ _ _ _ _ _ _ _ _ _ a14 _ _ _ => a14) t
def Tm.g15 (t : Tm) : Option AVal := Tm.rec (motive := fun _ => Option AVal) none (fun _ _ _ _ _ _ _ _ _ _ _ _ _ _ _ a15 _ _ => a15) t
def Tm.g (j : D16) (t : Tm) : Option AVal := D16.rec (motive := fun _ => Tm → Option AVal) Tm.g0 Tm.g1 Tm.g2 Tm.g3 Tm.g4 Tm.g5 Tm.g6 Tm.g7 Tm.g8 Tm.g9 Tm.g10 Tm.g11 Tm.g12 Tm.g13 Tm.g14 Tm.g15 j t
def Tm.s0 (v : AVal) (t : Tm) : Tm := Tm.rec (motive := fun _ => Tm) .nil (fun _ a1 a2 a3 a4 a5 a6 a7 a8 a9 a10 a11 a12 a13 a14 a15 nx _ => .node (some v) a1 a2 a3 a4 a5 a6 a7 a8 a9 a10 a11 a12 a13 a14 a15 nx) t
def Tm.s1 (v : AVal) (t : Tm) : Tm := Tm.rec (motive := fun _ => Tm) .nil (fun a0 _ a2 a3 a4 a5 a6 a7 a8 a9 a10 a11 a12 a13 a14 a15 nx _ => .node a0 (some v) a2 a3 a4 a5 a6 a7 a8 a9 a10 a11 a12 a13 a14 a15 nx) t
def Tm.s2 (v : AVal) (t : Tm) : Tm := Tm.rec (motive := fun _ => Tm) .nil (fun a0 a1 _ a3 a4 a5 a6 a7 a8 a9 a10 a11 a12 a13 a14 a15 nx _ => .node a0 a1 (some v) a3 a4 a5 a6 a7 a8 a9 a10 a11 a12 a13 a14 a15 nx) t
def Tm.s3 (v : AVal) (t : Tm) : Tm := Tm.rec (motive := fun _ => Tm) .nil (fun a0 a1 a2 _ a4 a5 a6 a7 a8 a9 a10 a11 a12 a13 a14 a15 nx _ => .node a0 a1 a2 (some v) a4 a5 a6 a7 a8 a9 a10 a11 a12 a13 a14 a15 nx) t
def Tm.s4 (v : AVal) (t : Tm) : Tm := Tm.rec (motive := fun _ => Tm) .nil (fun a0 a1 a2 a3 _ a5 a6 a7 a8 a9 a10 a11 a12 a13 a14 a15 nx _ => .node a0 a1 a2 a3 (some v) a5 a6 a7 a8 a9 a10 a11 a12 a13 a14 a15 nx) t
def Tm.s5 (v : AVal) (t : Tm) : Tm := Tm.rec (motive := fun _ => Tm) .nil (fun a0 a1 a2 a3 a4 _ a6 a7 a8 a9 a10 a11 a12 a13 a14 a15 nx _ => .node a0 a1 a2 a3 a4 (some v) a6 a7 a8 a9 a10 a11 a12 a13 a14 a15 nx) t
def Tm.s6 (v : AVal) (t : Tm) : Tm := Tm.rec (motive := fun _ => Tm) .nil (fun a0 a1 a2 a3 a4 a5 _ a7 a8 a9 a10 a11 a12 a13 a14 a15 nx _ => .node a0 a1 a2 a3 a4 a5 (some v) a7 a8 a9 a10 a11 a12 a13 a14 a15 nx) t
def Tm.s7 (v : AVal) (t : Tm) : Tm := Tm.rec (motive := fun _ => Tm) .nil (fun a0 a1 a2 a3 a4 a5 a6 _ a8 a9 a10 a11 a12 a13 a14 a15 nx _ => .node a0 a1 a2 a3 a4 a5 a6 (some v) a8 a9 a10 a11 a12 a13 a14 a15 nx) t
def Tm.s8 (v : AVal) (t : Tm) : Tm := Tm.rec (motive := fun _ => Tm) .nil (fun a0 a1 a2 a3 a4 a5 a6 a7 _ a9 a10 a11 a12 a13 a14 a15 nx _ => .node a0 a1 a2 a3 a4 a5 a6 a7 (some v) a9 a10 a11 a12 a13 a14 a15 nx) t
def Tm.s9 (v : AVal) (t : Tm) : Tm := Tm.rec (motive := fun _ => Tm) .nil (fun a0 a1 a2 a3 a4 a5 a6 a7 a8 _ a10 a11 a12 a13 a14 a15 nx _ => .node a0 a1 a2 a3 a4 a5 a6 a7 a8 (some v) a10 a11 a12 a13 a14 a15 nx) t
def Tm.s10 (v : AVal) (t : Tm) : Tm := Tm.rec (motive := fun _ => Tm) .nil (fun a0 a1 a2 a3 a4 a5 a6 a7 a8 a9 _ a11 a12 a13 a14 a15 nx _ => .node a0 a1 a2 a3 a4 a5 a6 a7 a8 a9 (some v) a11 a12 a13 a14 a15 nx) t
def Tm.s11 (v : AVal) (t : Tm) : Tm := Tm.rec (motive := fun _ => Tm) .nil (fun a0 a1 a2 a3 a4 a5 a6 a7 a8 a9 a10 _ a12 a13 a14 a15 nx _ => .node a0 a1 a2 a3 a4 a5 a6 a7 a8 a9 a10 (some v) a12 a13 a14 a15 nx) t
def Tm.s12 (v : AVal) (t : Tm) : Tm := Tm.rec (motive := fun _ => Tm) .nil (fun a0 a1 a2 a3 a4 a5 a6 a7 a8 a9 a10 a11 _ a13 a14 a15 nx _ => .node a0 a1 a2 a3 a4 a5 a6 a7 a8 a9 a10 a11 (some v) a13 a14 a15 nx) t
def Tm.s13 (v : AVal) (t : Tm) : Tm := Tm.rec (motive := fun _ => Tm) .nil (fun a0 a1 a2 a3 a4 a5 a6 a7 a8 a9 a10 a11 a12 _ a14 a15 nx _ => .node a0 a1 a2 a3 a4 a5 a6 a7 a8 a9 a10 a11 a12 (some v) a14 a15 nx) t
def Tm.s14 (v : AVal) (t : Tm) : Tm := Tm.rec (motive := fun _ => Tm) .nil (fun a0 a1 a2 a3 a4 a5 a6 a7 a8 a9 a10 a11 a12 a13 _ a15 nx _ => .node a0 a1 a2 a3 a4 a5 a6 a7 a8 a9 a10 a11 a12 a13 (some v) a15 nx) t
def Tm.s15 (v : AVal) (t : Tm) : Tm := Tm.rec (motive := fun _ => Tm) .nil (fun a0 a1 a2 a3 a4 a5 a6 a7 a8 a9 a10 a11 a12 a13 a14 _ nx _ => .node a0 a1 a2 a3 a4 a5 a6 a7 a8 a9 a10 a11 a12 a13 a14 (some v) nx) t
def Tm.s (j : D16) (v : AVal) (t : Tm) : Tm := D16.rec (motive := fun _ => AVal → Tm → Tm) Tm.s0 Tm.s1 Tm.s2 Tm.s3 Tm.s4 Tm.s5 Tm.s6 Tm.s7 Tm.s8 Tm.s9 Tm.s10 Tm.s11 Tm.s12 Tm.s13 Tm.s14 Tm.s15 j v t
def Tm.sx (f : Tm → Tm) (t : Tm) : Tm := Tm.rec (motive := fun _ => Tm) .nil (fun a0 a1 a2 a3 a4 a5 a6 a7 a8 a9 a10 a11 a12 a13 a14 a15 nx _ => .node a0 a1 a2 a3 a4 a5 a6 a7 a8 a9 a10 a11 a12 a13 a14 a15 (f nx)) t
def Tm.gk (j : D16) (k : Nat) : Tm → Option AVal := Nat.rec (motive := fun _ => Tm → Option AVal) (Tm.g j) (fun _ ih t => ih t.nx) k
def Tm.sk (j : D16) (v : AVal) (k : Nat) : Tm → Tm := Nat.rec (motive := fun _ => Tm → Tm) (Tm.s j v) (fun _ ih t => Tm.sx ih t) k
def Tm.get (i : Nat) : Tm → Option AVal := Tm.gk (D16.of (Nat.mod i 16)) (Nat.div i 16)
def Tm.put (i : Nat) (v : AVal) : Tm → Tm := Tm.sk (D16.of (Nat.mod i 16)) v (Nat.div i 16)
def Tm.mk (k : Nat) : Tm := Nat.rec (motive := fun _ => Tm) .nil (fun _ ih => .node none none none none none none none none none none none none none none none none ih) k
theorem Tm.s_nil (i : D16) (v : AVal) : Tm.s i v .nil = .nil := by cases i <;> rfl
theorem Tm.g_nil (j : D16) : Tm.g j .nil = none := by cases j <;> rfl
theorem Tm.g_s (i j : D16) (v : AVal) (t : Tm) (x : AVal) (h : Tm.g j (Tm.s i v t) = some x) : (j = i ∧ x = v) ∨ (j ≠ i ∧ Tm.g j t = some x) := by
  cases t with
  | nil => rw [Tm.s_nil, Tm.g_nil] at h; cases h
  | node => cases i <;> cases j <;> first | exact .inl ⟨rfl, (Option.some.inj h).symm⟩ | exact .inr ⟨nofun, h⟩
theorem Tm.gk_sk (i j : D16) (v : AVal) : ∀ (k l : Nat) (t : Tm) (x : AVal), Tm.gk j l (Tm.sk i v k t) = some x → (l = k ∧ j = i ∧ x = v) ∨ (¬ (l = k ∧ j = i) ∧ Tm.gk j l t = some x) := by
  intro k
  induction k with
  | zero =>
    intro l t x h
    cases l with
    | zero =>
      rcases Tm.g_s i j v t x h with ⟨h1, h2⟩ | ⟨h1, h2⟩
      · exact .inl ⟨rfl, h1, h2⟩
      · exact .inr ⟨fun e => h1 e.2, h2⟩
    | succ l =>
      refine .inr ⟨fun e => by omega, ?_⟩
      cases t with
      | nil =>
        have e : Tm.sk i v 0 .nil = .nil := Tm.s_nil i v
        rw [e] at h; exact h
      | node => cases i <;> exact h
  | succ k ih =>
    intro l t x h
    cases l with
    | zero =>
      refine .inr ⟨fun e => by omega, ?_⟩
      cases t with
      | nil => exact h
      | node => cases j <;> exact h
    | succ l =>
      cases t with
      | nil =>
        exfalso
        have key : ∀ l, Tm.gk j l (Tm.nil : Tm) = none := by
          intro l
          induction l with
          | zero => exact Tm.g_nil j
          | succ l ihl => exact ihl
        have h' : Tm.gk j (l + 1) (Tm.nil : Tm) = some x := h
        rw [key] at h'
        cases h'
      | node a0 a1 a2 a3 a4 a5 a6 a7 a8 a9 a10 a11 a12 a13 a14 a15 nx =>
        rcases ih l nx x h with ⟨h1, h2⟩ | ⟨h1, h2⟩
        · exact .inl ⟨by omega, h2⟩
        · exact .inr ⟨fun e => h1 ⟨by omega, e.2⟩, h2⟩
def D16.nat (d : D16) : Nat := D16.rec (motive := fun _ => Nat) 0 1 2 3 4 5 6 7 8 9 10 11 12 13 14 15 d
theorem D16.nat_of : ∀ (i : Nat), i < 16 → (D16.of i).nat = i := by
  intro i h
  match i, h with
  | 0, _ | 1, _ | 2, _ | 3, _ | 4, _ | 5, _ | 6, _ | 7, _ | 8, _ | 9, _ | 10, _ | 11, _ | 12, _ | 13, _ | 14, _ | 15, _ => rfl
  | n + 16, h => omega
theorem D16.of_inj (i j : Nat) (hi : i < 16) (hj : j < 16) (h : D16.of i = D16.of j) : i = j := by
  rw [← D16.nat_of i hi, ← D16.nat_of j hj, h]
theorem Tm.get_put (i j : Nat) (v : AVal) (t : Tm) (x : AVal) (h : Tm.get j (Tm.put i v t) = some x) : (j = i ∧ x = v) ∨ (j ≠ i ∧ Tm.get j t = some x) := by
  rcases Tm.gk_sk _ _ v _ _ t x h with ⟨h1, h2, h3⟩ | ⟨h1, h2⟩
  · have e1 : j % 16 = i % 16 := D16.of_inj _ _ (Nat.mod_lt _ (by decide)) (Nat.mod_lt _ (by decide)) h2
    have e2 : j / 16 = i / 16 := h1
    exact .inl ⟨by omega, h3⟩
  · exact .inr ⟨fun e => h1 (by subst e; exact ⟨rfl, rfl⟩), h2⟩
theorem Tm.g_s_ne (i j : D16) (v : AVal) (t : Tm) (h : j ≠ i) : Tm.g j (Tm.s i v t) = Tm.g j t := by
  cases t with
  | nil => rw [Tm.s_nil]
  | node => cases i <;> cases j <;> first | rfl | exact absurd rfl h
theorem Tm.gk_sk_ne (i j : D16) (v : AVal) : ∀ (k l : Nat) (t : Tm), ¬ (l = k ∧ j = i) → Tm.gk j l (Tm.sk i v k t) = Tm.gk j l t := by
  intro k
  induction k with
  | zero =>
    intro l t h
    cases l with
    | zero => exact Tm.g_s_ne i j v t (fun e => h ⟨rfl, e⟩)
    | succ l =>
      cases t with
      | nil =>
        have e : Tm.sk i v 0 .nil = .nil := Tm.s_nil i v
        rw [e]
      | node => cases i <;> rfl
  | succ k ih =>
    intro l t h
    cases l with
    | zero =>
      cases t with
      | nil => rfl
      | node => cases j <;> rfl
    | succ l =>
      cases t with
      | nil => rfl
      | node a0 a1 a2 a3 a4 a5 a6 a7 a8 a9 a10 a11 a12 a13 a14 a15 nx => exact ih l nx (fun e => h ⟨by omega, e.2⟩)
theorem Tm.get_put_ne (i j : Nat) (v : AVal) (t : Tm) (h : j ≠ i) : Tm.get j (Tm.put i v t) = Tm.get j t := by
  refine Tm.gk_sk_ne _ _ v _ _ t fun e => h ?_
  have e1 : j % 16 = i % 16 := D16.of_inj _ _ (Nat.mod_lt _ (by decide)) (Nat.mod_lt _ (by decide)) e.2
  have e2 : j / 16 = i / 16 := e.1
  omega
theorem Tm.get_mk (k i : Nat) : Tm.get i (Tm.mk k) = none := by
  have key : ∀ (l k : Nat) (j : D16), Tm.gk j l (Tm.mk k) = none := by
    intro l
    induction l with
    | zero => intro k j; cases k <;> cases j <;> rfl
    | succ l ih =>
      intro k j
      cases k with
      | zero => exact ih 0 j
      | succ k => exact ih k j
  exact key _ _ _

/-! ### the heap -/
structure Entry where
  key : AVal
  val : AVal
  born : Nat

inductive AObj where
  | cells (rw : Bool) (c : Tr AVal) (n : Nat)
  | map (es : List Entry) (clock : Nat)
  | chan (cap : Nat) (buf : List AVal) (s r : Nat)

structure Hp where
  t : Tr AObj
  next : Nat

def Hp.alloc (H : Hp) (o : AObj) : Hp := ⟨H.t.set H.next o, H.next + 1⟩
def Hp.put (H : Hp) (i : Nat) (o : AObj) : Hp := ⟨H.t.set i o, H.next⟩

/-- Of a pointer's place on so many cells. -/
def readFrom (c : Tr AVal) (i n : Nat) : Option (List AVal) :=
  Nat.rec (motive := fun _ => Nat → Option (List AVal)) (fun _ => some [])
    (fun _ ih i => Option.rec (motive := fun _ => Option (List AVal)) none (fun v => Option.rec (motive := fun _ => Option (List AVal)) none (fun vs => some (v :: vs)) (ih (Nat.succ i))) (c.get i)) n i

def writeFrom (c : Tr AVal) (i : Nat) (vs : List AVal) : Tr AVal :=
  List.rec (motive := fun _ => Tr AVal → Nat → Tr AVal) (fun c _ => c) (fun v _ ih c i => ih (c.set i v) (Nat.succ i)) vs c i

def Hp.read1 (H : Hp) (i off : Nat) : Option AVal := match H.t.get i with
  | some (.cells _ c _) => c.get off
  | _ => none

def Hp.read (H : Hp) (i off n : Nat) : Option (List AVal) := match H.t.get i with
  | some (.cells _ c _) => readFrom c off n
  | _ => none

def Hp.write1 (H : Hp) (i off : Nat) (v : AVal) : Option Hp := match H.t.get i with
  | some (.cells true c m) => bif Nat.blt off m && v.isCell then some (H.put i (.cells true (c.set off v) m)) else none
  | _ => none

def Hp.write (H : Hp) (i off : Nat) (vs : List AVal) : Option Hp := match H.t.get i with
  | some (.cells true c m) => bif Nat.ble (off + vs.length) m && allCells vs then some (H.put i (.cells true (writeFrom c off vs) m)) else none
  | _ => none

/-- How many cells a row has that may be written. -/
def Hp.rowW (H : Hp) (i : Nat) : Option Nat := match H.t.get i with
  | some (.cells true _ n) => some n
  | _ => none

/-- How many cells a row has. -/
def Hp.row (H : Hp) (i : Nat) : Option Nat := match H.t.get i with
  | some (.cells _ _ n) => some n
  | _ => none

def Hp.mapAt (H : Hp) (i : Nat) : Option (List Entry × Nat) := match H.t.get i with
  | some (.map es k) => some (es, k)
  | _ => none

end
end Go.Px
