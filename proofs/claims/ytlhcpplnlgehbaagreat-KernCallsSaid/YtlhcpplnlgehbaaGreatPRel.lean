/- What an abstract value, heap, frame stands for in the model's world. -/
import Derived.Test.YtlhcpplnlgehbaaGreatPExec
import Derived.Calls
import Derived.Below
namespace Go.Px
open Go Go.RowKit

/-- What the tokens are, and where the abstract blocks lie: block, base, cells from the base on. -/
structure Val where
  ρ : Nat → Int
  blk : Nat → Option (Nat × Nat × Nat)

def SInt.ev (ρ : Nat → Int) : SInt → Int
  | .lit z => z
  | .lin a i c => a * ρ i + c

def decN : Nat → Nat → List UInt8
  | 0, _ => []
  | f + 1, n => if n < 10 then [UInt8.ofNat (48 + n)] else decN f (n / 10) ++ [UInt8.ofNat (48 + n % 10)]
def dec (z : Int) : List UInt8 := decN (z.toNat + 1) z.toNat

def strEv (ρ : Nat → Int) : List Nat → List UInt8
  | [] => []
  | n :: l => (if n < 256 then [UInt8.ofNat n] else dec (ρ (n - 256))) ++ strEv ρ l

/-- The facts hold. -/
def FOk (F : Facts) (ρ : Nat → Int) : Prop := ∀ (i : Nat) (lo hi : Int), F[i]? = some (lo, hi) → lo ≤ ρ i ∧ ρ i ≤ hi

inductive VRel (V : Val) : AVal → Value → Prop
  | bool (b : Bool) : VRel V (.bool b) (.bool b)
  | int (k : IntKind) (s : SInt) : VRel V (.int k s) (.int k (s.ev V.ρ))
  | str (l : List Nat) (s : ByteArray) (h : s.data.toList = strEv V.ρ l) : VRel V (.str l) (.string s)
  | ptrN : VRel V (.ptr none) (.pointer none)
  | ptr (id off b base S : Nat) (h : V.blk id = some (b, base, S)) : VRel V (.ptr (some (id, off))) (.pointer (some ⟨b, base + off, none⟩))
  | sliceN (es : Nat) : VRel V (.slice none 0 (some 0) es) (.slice none 0 0)
  | slice (id off len : Nat) (cap : Option Nat) (es b base S c : Nat) (h : V.blk id = some (b, base, S)) (hl : len ≤ c) (hc : ∀ k, cap = some k → c = k)
      (hS : off + c * es ≤ S) : VRel V (.slice (some (id, off)) len cap es) (.slice (some ⟨b, base + off, none⟩) len c)
  | mapN : VRel V (.map none) (.map none)
  | map (id b base S : Nat) (h : V.blk id = some (b, base, S)) : VRel V (.map (some id)) (.map (some b))
  | chanN : VRel V (.chan none) (.chan none)
  | chan (id b base S : Nat) (h : V.blk id = some (b, base, S)) : VRel V (.chan (some id)) (.chan (some b))
  | func (f : FuncId) (a c : List AVal) (x y : Array Value) (ha : a.length = x.size) (hc : c.length = y.size)
      (hx : ∀ (i : Nat) u v, a[i]? = some u → x[i]? = some v → VRel V u v) (hy : ∀ (i : Nat) u v, c[i]? = some u → y[i]? = some v → VRel V u v) :
      VRel V (.func f a c) (.func (.func f) x y)
  | nilFunc : VRel V .nilFunc .nilFunc
  | iface (t : TypeId) (v : AVal) (w : Value) (h : VRel V v w) : VRel V (.iface t v) (.iface t w)
  | nilIface : VRel V .nilIface .nilIface
  | agg (a : List AVal) (x : Array Value) (ha : a.length = x.size) (hx : ∀ (i : Nat) u v, a[i]? = some u → x[i]? = some v → VRel V u v)
      (hc : ∀ u, u ∈ a → u.isCell = true) : VRel V (.agg a) (.agg x)
  | tuple (a : List AVal) (x : Array Value) (ha : a.length = x.size) (hx : ∀ (i : Nat) u v, a[i]? = some u → x[i]? = some v → VRel V u v) : VRel V (.tuple a) (.tuple x)

/-- Lists of values. -/
inductive LRel (V : Val) : List AVal → List Value → Prop
  | nil : LRel V [] []
  | cons {u v us vs} (h : VRel V u v) (t : LRel V us vs) : LRel V (u :: us) (v :: vs)

theorem LRel.length {V : Val} {us : List AVal} {vs : List Value} (h : LRel V us vs) : us.length = vs.length := by
  induction h with
  | nil => rfl
  | cons _ _ ih => simp [ih]
theorem LRel.at {V : Val} {us : List AVal} {vs : List Value} (h : LRel V us vs) : ∀ (i : Nat) u, us[i]? = some u → ∃ v, vs[i]? = some v ∧ VRel V u v := by
  induction h with
  | nil => intro i u e; simp at e
  | cons h _ ih =>
    intro i u e
    cases i with
    | zero => simp at e; subst e; exact ⟨_, by simp, h⟩
    | succ i => simp at e; obtain ⟨v, h1, h2⟩ := ih i u e; exact ⟨v, by simpa using h1, h2⟩
theorem LRel.of {V : Val} : ∀ {us : List AVal} {vs : List Value}, us.length = vs.length → (∀ (i : Nat) u v, us[i]? = some u → vs[i]? = some v → VRel V u v) → LRel V us vs := by
  intro us
  induction us with
  | nil => intro vs h _; cases vs with
    | nil => exact .nil
    | cons => simp at h
  | cons u us ih => intro vs h hh; cases vs with
    | nil => simp at h
    | cons v vs => exact .cons (hh 0 u v (by simp) (by simp)) (ih (by simpa using h) fun i a b ha hb => hh (i + 1) a b (by simpa using ha) (by simpa using hb))
theorem LRel.ofArray {V : Val} {us : List AVal} {x : Array Value} (h : us.length = x.size) (hh : ∀ (i : Nat) u v, us[i]? = some u → x[i]? = some v → VRel V u v) : LRel V us x.toList :=
  LRel.of (by simpa using h) fun i u v hu hv => hh i u v hu (by simpa using hv)
theorem LRel.append {V : Val} {us us' : List AVal} {vs vs' : List Value} (h : LRel V us vs) (h' : LRel V us' vs') : LRel V (us ++ us') (vs ++ vs') := by
  induction h with
  | nil => exact h'
  | cons h _ ih => exact .cons h ih
theorem LRel.pt {V : Val} {us : List AVal} {vs : List Value} (h : LRel V us vs) : ∀ (i : Nat) u v, us[i]? = some u → vs[i]? = some v → VRel V u v := by
  intro i u v hu hv
  obtain ⟨v', h1, h2⟩ := h.at i u hu
  rw [hv] at h1
  cases h1
  exact h2
theorem VRel.aggL {V : Val} {us : List AVal} {vs : List Value} (h : LRel V us vs) (hc : ∀ u, u ∈ us → u.isCell = true) : VRel V (.agg us) (.agg vs.toArray) :=
  .agg us vs.toArray (by simpa using h.length) (fun i u v hu hv => h.pt i u v hu (by simpa using hv)) hc
theorem VRel.tupleL {V : Val} {us : List AVal} {vs : List Value} (h : LRel V us vs) : VRel V (.tuple us) (.tuple vs.toArray) :=
  .tuple us vs.toArray (by simpa using h.length) (fun i u v hu hv => h.pt i u v hu (by simpa using hv))

/-- A later valuation. -/
structure Val.le (V V' : Val) : Prop where
  ρ : V'.ρ = V.ρ
  blk : ∀ id x, V.blk id = some x → V'.blk id = some x

theorem Val.le.refl (V : Val) : V.le V := ⟨rfl, fun _ _ h => h⟩
theorem Val.le.trans {V V' V'' : Val} (h : V.le V') (h' : V'.le V'') : V.le V'' := ⟨h'.ρ.trans h.ρ, fun id x e => h'.blk id x (h.blk id x e)⟩

theorem VRel.mono {V V' : Val} (hV : V.le V') {a : AVal} {v : Value} (h : VRel V a v) : VRel V' a v := by
  induction h with
  | bool b => exact .bool b
  | int k s => rw [← hV.ρ]; exact .int k s
  | str l s h => exact .str l s (by rw [hV.ρ]; exact h)
  | ptrN => exact .ptrN
  | ptr id off b base S h => exact .ptr id off b base S (hV.blk _ _ h)
  | sliceN es => exact .sliceN es
  | slice id off len cap es b base S c h hl hc hS => exact .slice id off len cap es b base S c (hV.blk _ _ h) hl hc hS
  | mapN => exact .mapN
  | map id b base S h => exact .map id b base S (hV.blk _ _ h)
  | chanN => exact .chanN
  | chan id b base S h => exact .chan id b base S (hV.blk _ _ h)
  | func f a c x y ha hc _ _ ihx ihy => exact .func f a c x y ha hc ihx ihy
  | nilFunc => exact .nilFunc
  | iface t v w _ ih => exact .iface t v w ih
  | nilIface => exact .nilIface
  | agg a x ha _ hc ih => exact .agg a x ha ih hc
  | tuple a x ha _ ih => exact .tuple a x ha ih

theorem LRel.mono {V V' : Val} (hV : V.le V') {us : List AVal} {vs : List Value} (h : LRel V us vs) : LRel V' us vs := by
  induction h with
  | nil => exact .nil
  | cons h _ ih => exact .cons (h.mono hV) ih

/-- A value's cells. -/
theorem VRel.cells {V : Val} {a : AVal} {v : Value} (h : VRel V a v) : LRel V a.cells v.cells.toList := by
  cases h <;> first
    | (refine LRel.ofArray ?_ ?_ <;> assumption)
    | (refine .cons ?_ .nil; constructor <;> assumption)
theorem VRel.cells_size {V : Val} {a : AVal} {v : Value} (h : VRel V a v) : v.cells.size = a.cells.length := by
  have := h.cells.length
  simpa using this.symm
def Value.isCell : Value → Bool
  | .agg _ => false
  | .tuple _ => false
  | _ => true
theorem VRel.isCell {V : Val} {a : AVal} {v : Value} (h : VRel V a v) : Value.isCell v = a.isCell := by cases h <;> rfl

/-! ### the heap -/
structure ERel (V : Val) (e : Entry) (m : MapEntry) : Prop where
  key : VRel V e.key m.key
  val : VRel V e.val m.val
  born : m.born = e.born

/-- What an abstract block stands for at a block of the world. -/
inductive ORel (V : Val) (B : Nat) : AObj → Nat → Nat → Nat → Obj → Prop
  | cells (rw : Bool) (c : Tr AVal) (n b base S : Nat) (arr : Array Value) (el : TypeId) (fz : Nat × Nat) (hrw : rw = true → fz = (0, 0) ∧ B ≤ b) (hfz : B ≤ b → fz = (0, 0))
      (hS : base + S ≤ arr.size) (hn : n ≤ S) (hall : ∀ i, i < n → ∃ a, c.get i = some a)
      (hc : ∀ i a, c.get i = some a → i < n ∧ a.isCell = true ∧ ∃ v, arr[base + i]? = some v ∧ VRel V a v) : ORel V B (.cells rw c n) b base S (.cells arr el fz)
  | map (es : List Entry) (clock b base S : Nat) (ms : Array MapEntry) (hB : B ≤ b) (hl : es.length = ms.size)
      (he : ∀ (i : Nat) e m, es[i]? = some e → ms[i]? = some m → ERel V e m) : ORel V B (.map es clock) b base S (.map ms clock)
  | chan (cap : Nat) (buf : List AVal) (s r b base S : Nat) (x : Array Value) (hB : B ≤ b) (hx : LRel V buf x.toList) : ORel V B (.chan cap buf s r) b base S (.chan cap x false s r false)

theorem ORel.mono {V V' : Val} (hV : V.le V') {B : Nat} {o : AObj} {b base S : Nat} {obj : Obj} (h : ORel V B o b base S obj) : ORel V' B o b base S obj := by
  cases h with
  | cells rw c n b base S arr el fz hrw hfz hS hn hall hc =>
    exact .cells rw c n b base S arr el fz hrw hfz hS hn hall fun i a h => let ⟨h1, h2, v, h3, h4⟩ := hc i a h; ⟨h1, h2, v, h3, h4.mono hV⟩
  | map es clock b base S ms hB hl he => exact .map es clock b base S ms hB hl fun i e m h1 h2 => let ⟨a, c, d⟩ := he i e m h1 h2; ⟨a.mono hV, c.mono hV, d⟩
  | chan cap buf s r b base S x hB hx => exact .chan cap buf s r b base S x hB (hx.mono hV)

structure WRel (B : Nat) (w0 : World) (V : Val) (H : Hp) (w : World) : Prop where
  below : Below B w0 w
  size : B ≤ w.heap.size
  next : ∀ id, H.next ≤ id → V.blk id = none ∧ H.t.get id = none
  lt : ∀ id b base S, V.blk id = some (b, base, S) → b < w.heap.size
  obj : ∀ id o b base S, H.t.get id = some o → V.blk id = some (b, base, S) → ∃ x, w.heap[b]? = some x ∧ ORel V B o b base S x
  inj : ∀ id id' o o' b b' base base' S S', H.t.get id = some o → H.t.get id' = some o' → V.blk id = some (b, base, S) → V.blk id' = some (b', base', S') → id ≠ id' → b ≠ b'
  fz : ∀ b arr el z, B ≤ b → w.heap[b]? = some (.cells arr el z) → z = (0, 0)

def TRel (V : Val) (T : Tm) (tmps : Array Value) : Prop := ∀ i a, Tm.get i T = some a → ∃ v, tmps[i]? = some v ∧ VRel V a v

theorem TRel.mono {V V' : Val} (hV : V.le V') {T : Tm} {x : Array Value} (h : TRel V T x) : TRel V' T x :=
  fun i a e => let ⟨v, h1, h2⟩ := h i a e; ⟨v, h1, h2.mono hV⟩

theorem TRel.put {V : Val} {T : Tm} {x : Array Value} (h : TRel V T x) {d : Nat} {a : AVal} {v : Value} (hv : VRel V a v) (hd : d < x.size) : TRel V (Tm.put d a T) (x.setIfInBounds d v) := by
  intro i b e
  rcases Tm.get_put d i a T b e with ⟨rfl, rfl⟩ | ⟨hne, e⟩
  · exact ⟨v, by simp [hd], hv⟩
  · obtain ⟨u, h1, h2⟩ := h i b e
    exact ⟨u, by rw [Array.getElem?_setIfInBounds_ne (Ne.symm hne)]; exact h1, h2⟩

theorem undef_rel (V : Val) : VRel V unit undef := .tuple [] #[] rfl (fun i u v h => by simp at h)

/-! ### operands -/
theorem mapM_rel {V : Val} {n : Nat} (ih : ∀ (v : Value) (a : AVal), absConst n v = some a → VRel V a v) :
    ∀ (l : List Value) (as : List AVal), l.mapM (absConst n) = some as → LRel V as l := by
  intro l
  induction l with
  | nil => intro as h; simp at h; subst h; exact .nil
  | cons v l ihl =>
    intro as h
    rw [List.mapM_cons] at h
    cases h1 : absConst n v with
    | none => rw [h1] at h; cases h
    | some a =>
      cases h2 : l.mapM (absConst n) with
      | none => rw [h1, h2] at h; cases h
      | some as' =>
        rw [h1, h2] at h
        cases h
        exact .cons (ih v a h1) (ihl as' h2)

theorem strEv_bytes (ρ : Nat → Int) (l : List UInt8) : strEv ρ (l.map UInt8.toNat) = l := by
  induction l with
  | nil => rfl
  | cons b l ih =>
    have hb : b.toNat < 256 := b.toNat_lt
    simp only [List.map_cons, strEv, if_pos hb, ih, UInt8.ofNat_toNat, List.cons_append, List.nil_append]

theorem absConst_rel (V : Val) : ∀ (n : Nat) (v : Value) (a : AVal), absConst n v = some a → VRel V a v := by
  intro n
  induction n with
  | zero => intro v a h; cases h
  | succ n ih =>
    intro v a h
    unfold absConst at h
    split at h <;> try (cases h; done)
    · cases h; exact .bool _
    · cases h; exact .int _ (.lit _)
    · cases h; exact .str _ _ (strEv_bytes _ _).symm
    · cases h; exact .ptrN
    · cases h; exact .sliceN 0
    · cases h; exact .mapN
    · cases h; exact .chanN
    · rename_i f x y
      split at h <;> try (cases h; done)
      rename_i hx hy
      cases h
      have ex : x = #[] := by cases x; simp at hx; simp [hx]
      have ey : y = #[] := by cases y; simp at hy; simp [hy]
      subst ex ey
      exact .func f [] [] #[] #[] rfl rfl (fun i u v h => by simp at h) (fun i u v h => by simp at h)
    · cases h; exact .nilFunc
    · cases h; exact .nilIface
    · rename_i cs
      cases hm : cs.toList.mapM (absConst n) with
      | none => rw [hm] at h; cases h
      | some as =>
        rw [hm] at h
        cases hc : allCells as with
        | false => simp only [hc, cond_false] at h; cases h
        | true =>
          simp only [hc, cond_true] at h
          cases h
          have hl := mapM_rel ih _ _ hm
          exact .agg as cs (by simpa using hl.length) (fun i u v hu hv => hl.pt i u v hu (by simpa using hv)) ((allCells_iff as).1 hc)
    · rename_i cs
      cases hm : cs.toList.mapM (absConst n) with
      | none => rw [hm] at h; cases h
      | some as =>
        rw [hm] at h
        cases h
        have hl := mapM_rel ih _ _ hm
        exact .tuple as cs (by simpa using hl.length) (fun i u v hu hv => hl.pt i u v hu (by simpa using hv))

theorem opnd_rel {V : Val} {T : Tm} {a : Act} (hT : TRel V T a.tmps) {x : Operand} {v : AVal} (h : opnd T x = some v) : VRel V v (a.eval x) := by
  cases x with
  | tmp t =>
    obtain ⟨u, h1, h2⟩ := hT t v h
    simp only [Act.eval, Array.getD_eq_getD_getElem?, h1]
    exact h2
  | const c => exact absConst_rel V 4 c v h
  | global g => cases h
  | func f => cases h; exact .func f [] [] #[] #[] rfl rfl (fun i u v h => by simp at h) (fun i u v h => by simp at h)

/-- What an operation looks at stands as the abstract temporaries say. -/
def Looks (V : Val) (T : Tm) (a : Act) (l : Array Operand) : Prop := ∀ x, x ∈ l → ∀ v, opnd T x = some v → VRel V v (a.eval x)
theorem TRel.looks {V : Val} {T : Tm} {a : Act} (hT : TRel V T a.tmps) (l : Array Operand) : Looks V T a l := fun _ _ _ h => opnd_rel hT h

theorem opnds_rel {V : Val} {T : Tm} {a : Act} : ∀ {l : List Operand} {vs : List AVal}, (∀ x, x ∈ l → ∀ v, opnd T x = some v → VRel V v (a.eval x)) → opnds T l = some vs → LRel V vs (l.map a.eval) := by
  intro l
  induction l with
  | nil => intro vs _ h; cases h; exact .nil
  | cons x xs ih =>
    intro vs hl h
    simp only [opnds] at h
    cases h1 : opnd T x with
    | none => rw [h1] at h; cases h
    | some v =>
      rw [h1] at h
      cases h2 : opnds T xs with
      | none => rw [h2] at h; cases h
      | some us => rw [h2] at h; cases h; exact .cons (hl x (by simp) v h1) (ih (fun y hy => hl y (by simp [hy])) h2)
end Go.Px
