/- The run, made ready once: operations and regions. -/
import Derived.Test.YtlhcpplnlgehbaaGreatPJit
namespace Go.Px
open Go Go.RowKit
noncomputable section

/-! ### more values -/
def natZ (_k : IntKind) (z : Int) : Option Nat := Int.rec (motive := fun _ => Option Nat) (fun n => some n) (fun _ => none) z
def natR (v : AVal) : Option Nat := IntR.rec (motive := fun _ => Option Nat) none natZ none (intOf v)
theorem natR_eq (v : AVal) : natR v = natOf v := by
  cases v with
  | int k s => cases s with
    | lit z => cases z <;> rfl
    | lin a i c => rfl
  | _ => rfl

def ix2 (n i off len size : Nat) : Option AVal := Bool.rec (motive := fun _ => Option AVal) none (some (.ptr (some (i, Nat.add off (Nat.mul n size))))) (Nat.blt n len)
def ixN4 (_i _off _len _size : Nat) : Option AVal := none
def ix1 (v : AVal) (i off len size : Nat) : Option AVal := Option.rec (motive := fun _ => Nat → Nat → Nat → Nat → Option AVal) ixN4 ix2 (natR v) i off len size
def ixSl (i off len size : Nat) (g : Gt) (T : Tm) : Option AVal := Option.rec (motive := fun _ => Nat → Nat → Nat → Nat → Option AVal) ixN4 ix1 (g T) i off len size
def ixN3 (_size : Nat) (_g : Gt) (_T : Tm) : Option AVal := none
def ixS (v : AVal) (size : Nat) (g : Gt) (T : Tm) : Option AVal := SlR.rec (motive := fun _ => Nat → Gt → Tm → Option AVal) ixN3 ixSl (sliceOf v) size g T
def vIxS (size : Nat) (gx gy : Gt) (T : Tm) (_H : Hp) : Option AVal := Option.rec (motive := fun _ => Nat → Gt → Tm → Option AVal) ixN3 ixS (gx T) size gy T
def ixAr (i off len size : Nat) (g : Gt) (T : Tm) : Option AVal := ixSl i off len size g T
def ixN5 (_len _size : Nat) (_g : Gt) (_T : Tm) : Option AVal := none
def ixA (v : AVal) (len size : Nat) (g : Gt) (T : Tm) : Option AVal := PtrR.rec (motive := fun _ => Nat → Nat → Gt → Tm → Option AVal) ixN5 ixAr (ptrOf v) len size g T
def vIxA (len size : Nat) (gx gy : Gt) (T : Tm) (_H : Hp) : Option AVal := Option.rec (motive := fun _ => Nat → Nat → Gt → Tm → Option AVal) ixN5 ixA (gx T) len size gy T

def cvB (k : IntKind) (m : Nat) (slow : AVal → Option AVal) (v : AVal) (c : Bool) : Option AVal := Bool.rec (motive := fun _ => Option AVal) (slow v) (some (.int k (.lit (.ofNat m)))) c
def cvP (m : Nat) (k : IntKind) (slow : AVal → Option AVal) (v : AVal) : Option AVal := cvB k m slow v (Nat.ble m (kmaxN k))
def cvM (_m : Nat) (_k : IntKind) (slow : AVal → Option AVal) (v : AVal) : Option AVal := slow v
def cvN (_k : IntKind) (slow : AVal → Option AVal) (v : AVal) : Option AVal := slow v
def cvL (_j : IntKind) (z : Int) (k : IntKind) (slow : AVal → Option AVal) (v : AVal) : Option AVal := Int.rec (motive := fun _ => IntKind → (AVal → Option AVal) → AVal → Option AVal) cvP cvM z k slow v
def cvS (v : AVal) (k : IntKind) (slow : AVal → Option AVal) : Option AVal := IntR.rec (motive := fun _ => IntKind → (AVal → Option AVal) → AVal → Option AVal) cvN cvL cvN (intOf v) k slow v
def cvNo (_k : IntKind) (_slow : AVal → Option AVal) : Option AVal := none
def vCv (k : IntKind) (slow : AVal → Option AVal) (g : Gt) (T : Tm) (_H : Hp) : Option AVal := Option.rec (motive := fun _ => IntKind → (AVal → Option AVal) → Option AVal) cvNo cvS (g T) k slow
def sConv (P : Program) (F : Facts) (s d : TypeId) (v : AVal) : Option AVal := convA P F s d v

/-! ### which value an operation has -/
def ac1 (f : Gt → Vc) (x : Operand) : Vc := Ac.rec (motive := fun _ => Vc) f (acO x)
def ac2 (f : Gt → Gt → Vc) (x y : Operand) : Vc := Ac.rec (motive := fun _ => Vc) (fun g => Ac.rec (motive := fun _ => Vc) (f g) (acO y)) (acO x)
def mvC (x : Operand) : Vc := ac1 (fun g => ⟨vMove g⟩) x
def pkC (c a b : Operand) : Vc := Ac.rec (motive := fun _ => Vc) (fun gc => ac2 (fun ga gb => ⟨vPick gc ga gb⟩) a b) (acO c)
def nilC (x : Operand) : Vc := ac1 (fun g => ⟨vNil g⟩) x
def ntC (x : Operand) : Vc := ac1 (fun g => ⟨vNot g⟩) x
def exC (x : Operand) (n : Nat) : Vc := ac1 (fun g => ⟨vExt n g⟩) x
def bnC (P : Program) (F : Facts) (op : BinOp) (t : TypeId) (x y : Operand) : Vc := Bc.rec (motive := fun _ => Vc) (fun f => ac2 (fun g1 g2 => ⟨vBin f g1 g2⟩) x y) (binC P F op t (isC x || isC y))
def faC (P : Program) (t : TypeId) (x : Operand) (n : Nat) : Option Vc := match undl P t with
  | some (.struct fs) => match fs[n]? with
    | some f => match szOf P f.type with
      | some 0 => none
      | some _ => some (ac1 (fun g => ⟨vFA f.offset g⟩) x)
      | none => none
    | none => none
  | _ => none
def ldC (P : Program) (t : TypeId) (x : Operand) : Option Vc := match isAggT P t with
  | some true => match szOf P t with
    | some n => some (ac1 (fun g => ⟨vLdN n g⟩) x)
    | none => none
  | some false => some (ac1 (fun g => ⟨vLd g⟩) x)
  | none => none
def fdC (P : Program) (t : TypeId) (x : Operand) (n : Nat) : Option Vc := match undl P t with
  | some (.struct fs) => match fs[n]? with
    | some f => match isAggT P f.type with
      | some false => some (ac1 (fun g => ⟨vFld f.offset g⟩) x)
      | _ => none
    | none => none
  | _ => none
def ixC (P : Program) (t : TypeId) (x y : Operand) : Option Vc := match undl P t with
  | some (.array len e) => match szOf P e with
    | some size => some (ac2 (fun g1 g2 => ⟨vIxA len size g1 g2⟩) x y)
    | none => none
  | some (.slice e) => match szOf P e with
    | some size => some (ac2 (fun g1 g2 => ⟨vIxS size g1 g2⟩) x y)
    | none => none
  | _ => none
def cvC (P : Program) (F : Facts) (s d : TypeId) (x : Operand) : Option Vc := match undl P s, undl P d with
  | some (.int _), some (.int k) => some (ac1 (fun g => ⟨vCv k (sConv P F s d) g⟩) x)
  | _, _ => none
def lnC (P : Program) (c : Call) : Option Vc := match c.callee with
  | .builtin .len => match c.argTypes.toList, c.args.toList with
    | t :: _, [x] => match undl P t with
      | some (.slice _) => some (ac1 (fun g => ⟨vLen g⟩) x)
      | _ => none
    | _, _ => none
  | _ => none
def compV (P : Program) (F : Facts) (op : Op) : Option Vc := match op with
  | .move x => some (mvC x)
  | .assign x => some (mvC x)
  | .pick c a b => some (pkC c a b)
  | .nilCheck x => some (nilC x)
  | .unOp .not _ x => some (ntC x)
  | .extract x n => some (exC x n)
  | .binOp op t x y _ => some (bnC P F op t x y)
  | .fieldAddr t x n => faC P t x n
  | .load t x => ldC P t x
  | .field t x n => fdC P t x n
  | .indexAddr t x y => ixC P t x y
  | .convert s d x => cvC P F s d x
  | .call c => lnC P c
  | _ => none

theorem ac1_val {f : Gt → Vc} {x : Operand} : ∃ g : Gt, (∀ T, g T = opnd T x) ∧ ac1 f x = f g := by
  unfold ac1
  cases h : acO x with
  | mk g => exact ⟨g, fun T => by rw [← acO_get, h], rfl⟩
theorem ac2_val {f : Gt → Gt → Vc} {x y : Operand} : ∃ g h : Gt, (∀ T, g T = opnd T x) ∧ (∀ T, h T = opnd T y) ∧ ac2 f x y = f g h := by
  unfold ac2
  cases h : acO x with
  | mk g => cases h' : acO y with
    | mk g' => exact ⟨g, g', fun T => by rw [← acO_get, h], fun T => by rw [← acO_get, h'], rfl⟩

theorem vFA_eq (off : Nat) (g : Gt) (T : Tm) (H : Hp) : vFA off g T H = (match g T with
    | some (.ptr (some (i, o))) => some (.ptr (some (i, o + off)))
    | _ => none) := by
  unfold vFA
  cases g T with
  | none => rfl
  | some v =>
    show faS v off = _
    unfold faS
    rcases ptrOf_cases v with ⟨i, o, rfl, h⟩ | ⟨h, hne⟩
    · rfl
    · rw [h]; split
      · rename_i heq; cases heq; exact absurd rfl (hne _ _)
      · rfl
theorem vLd_eq (g : Gt) (T : Tm) (H : Hp) : vLd g T H = (match g T with
    | some (.ptr (some (i, o))) => H.read1 i o
    | _ => none) := by
  unfold vLd
  cases g T with
  | none => rfl
  | some v =>
    show ldS v H = _
    unfold ldS
    rcases ptrOf_cases v with ⟨i, o, rfl, h⟩ | ⟨h, hne⟩
    · exact rd1_eq H i o
    · rw [h]; split
      · rename_i heq; cases heq; exact absurd rfl (hne _ _)
      · rfl
theorem vLdN_eq (n : Nat) (g : Gt) (T : Tm) (H : Hp) : vLdN n g T H = (match g T with
    | some (.ptr (some (i, o))) => (match H.read i o n with
      | some cs => some (.agg cs)
      | none => none)
    | _ => none) := by
  unfold vLdN
  cases g T with
  | none => rfl
  | some v =>
    show lnS v n H = _
    unfold lnS
    rcases ptrOf_cases v with ⟨i, o, rfl, h⟩ | ⟨h, hne⟩
    · show lnP i o n H = _
      unfold lnP
      simp only
      cases H.read i o n <;> rfl
    · rw [h]; split
      · rename_i heq; cases heq; exact absurd rfl (hne _ _)
      · rfl
theorem vExt_eq (n : Nat) (g : Gt) (T : Tm) (H : Hp) : vExt n g T H = (match g T with
    | some (.tuple vs) => vs[n]?
    | _ => none) := by
  unfold vExt
  cases g T with
  | none => rfl
  | some v => cases v <;> first | exact nthF_eq n _ | rfl
theorem vFld_eq (n : Nat) (g : Gt) (T : Tm) (H : Hp) : vFld n g T H = (match g T with
    | some (.agg vs) => vs[n]?
    | _ => none) := by
  unfold vFld
  cases g T with
  | none => rfl
  | some v => cases v <;> first | exact nthF_eq n _ | rfl
theorem ix1_eq (v : AVal) (i off len size : Nat) : ix1 v i off len size = (match natOf v with
    | some n => bif Nat.blt n len then some (.ptr (some (i, off + n * size))) else none
    | none => none) := by
  unfold ix1
  rw [natR_eq]
  cases natOf v with
  | none => rfl
  | some n => show ix2 n i off len size = _; unfold ix2; simp only; cases Nat.blt n len <;> rfl
theorem ixSl_eq (i off len size : Nat) (g : Gt) (T : Tm) : ixSl i off len size g T = (match g T with
    | some v => (match natOf v with
      | some n => bif Nat.blt n len then some (.ptr (some (i, off + n * size))) else none
      | none => none)
    | none => none) := by
  unfold ixSl
  cases g T with
  | none => rfl
  | some v => exact ix1_eq v i off len size
theorem vIxS_eq (size : Nat) (gx gy : Gt) (T : Tm) (H : Hp) : vIxS size gx gy T H = (match gx T with
    | some (.slice (some (i, off)) len _ _) => (match gy T with
      | some v => (match natOf v with
        | some n => bif Nat.blt n len then some (.ptr (some (i, off + n * size))) else none
        | none => none)
      | none => none)
    | _ => none) := by
  unfold vIxS
  cases gx T with
  | none => rfl
  | some v =>
    show ixS v size gy T = _
    unfold ixS
    cases v with
    | slice a n c e => cases a with
      | none => rfl
      | some p => exact ixSl_eq _ _ _ _ _ _
    | _ => rfl
theorem vIxA_eq (l size : Nat) (gx gy : Gt) (T : Tm) (H : Hp) : vIxA l size gx gy T H = (match gx T with
    | some (.ptr (some (i, off))) => (match gy T with
      | some v => (match natOf v with
        | some n => bif Nat.blt n l then some (.ptr (some (i, off + n * size))) else none
        | none => none)
      | none => none)
    | _ => none) := by
  unfold vIxA
  cases gx T with
  | none => rfl
  | some v =>
    show ixA v l size gy T = _
    unfold ixA
    cases v with
    | ptr a => cases a with
      | none => rfl
      | some p => exact ixSl_eq _ _ _ _ _ _
    | _ => rfl
theorem vCv_eq {P : Program} {F : Facts} {s d : TypeId} {k j : IntKind} (hs : undl P s = some (.int j)) (hd : undl P d = some (.int k)) (g : Gt) (T : Tm) (H : Hp) : vCv k (sConv P F s d) g T H = (match g T with
    | some v => convA P F s d v
    | none => none) := by
  unfold vCv
  cases g T with
  | none => rfl
  | some v =>
    show cvS v k (sConv P F s d) = _
    unfold cvS
    rcases intOf_cases v with ⟨i, z, rfl, h⟩ | h | h
    · rw [h]
      cases z with
      | negSucc m => rfl
      | ofNat m =>
        show cvB k m (sConv P F s d) _ (Nat.ble m (kmaxN k)) = _
        cases hl : Nat.ble m (kmaxN k) with
        | false => rfl
        | true =>
          simp only [convA, hs, hd, wrap_of_le (Nat.le_of_ble_eq_true hl)]
          rfl
    · rw [h]; rfl
    · rw [h]; rfl

theorem compV_eq {P : Program} {F : Facts} {op : Op} {vc : Vc} (h : compV P F op = some vc) (o : Oper) (ho : o.op = op) (T : Tm) (H : Hp) : aop P F T H o = ANext.ofVal (vc.val T H) H := by
  obtain ⟨dst, op', ty, pos, after, guard⟩ := o
  simp only at ho
  subst ho
  cases op' <;> simp only [compV] at h <;> try (cases h; done)
  case move x =>
    cases h
    obtain ⟨g, h1, h2⟩ := ac1_val (f := fun g => ⟨vMove g⟩) (x := x)
    simp only [mvC, h2, aop, vMove, h1]
  case assign x =>
    cases h
    obtain ⟨g, h1, h2⟩ := ac1_val (f := fun g => ⟨vMove g⟩) (x := x)
    simp only [mvC, h2, aop, vMove, h1]
  case pick c a b =>
    cases h
    unfold pkC
    cases hc : acO c with
    | mk gc =>
      have h0 : ∀ T, gc T = opnd T c := fun T => by rw [← acO_get, hc]
      obtain ⟨g, g', h1, h2, h3⟩ := ac2_val (f := fun ga gb => ⟨vPick gc ga gb⟩) (x := a) (y := b)
      simp only [h3, aop, vPick, h0]
      cases opnd T c with
      | none => rfl
      | some v =>
        show _ = ANext.ofVal (pkS v g g' T) H
        unfold pkS
        rcases truthOf_cases v with ⟨rfl, hv⟩ | ⟨rfl, hv⟩ | ⟨hv, hne⟩
        · show _ = ANext.ofVal (g T) H; rw [h1]; rfl
        · show _ = ANext.ofVal (g' T) H; rw [h2]; rfl
        · rw [hv]
          unfold doPick
          split
          · rename_i heq; cases heq; exact absurd rfl (hne _)
          · rfl
  case nilCheck x =>
    cases h
    obtain ⟨g, h1, h2⟩ := ac1_val (f := fun g => ⟨vNil g⟩) (x := x)
    simp only [nilC, h2, aop, vNil, h1]
    cases opnd T x with
    | none => rfl
    | some v => cases v with
      | ptr a => cases a <;> rfl
      | _ => rfl
  case unOp q t x =>
    cases q <;> simp only at h <;> try (cases h; done)
    cases h
    obtain ⟨g, h1, h2⟩ := ac1_val (f := fun g => ⟨vNot g⟩) (x := x)
    simp only [ntC, h2, aop, vNot, h1]
    cases opnd T x with
    | none => rfl
    | some v => cases v with
      | bool b => cases b <;> rfl
      | _ => rfl
  case extract x n =>
    cases h
    obtain ⟨g, h1, h2⟩ := ac1_val (f := fun g => ⟨vExt n g⟩) (x := x)
    simp only [exC, h2, aop, vExt_eq, h1, doExtract]
    cases opnd T x with
    | none => rfl
    | some v => cases v <;> rfl
  case binOp q t x y yt =>
    cases h
    unfold bnC
    cases hb : binC P F q t (isC x || isC y) with
    | mk f =>
      obtain ⟨g, g', h1, h2, h3⟩ := ac2_val (f := fun g1 g2 => ⟨vBin f g1 g2⟩) (x := x) (y := y)
      simp only [h3, aop, vBin_eq, h1, h2, doBin]
      cases opnd T x with
      | none => rfl
      | some a => cases opnd T y with
        | none => rfl
        | some b =>
          simp only
          rw [← binC_eq P F q t (isC x || isC y) a b H, hb]
  case fieldAddr t x n =>
    unfold faC at h
    split at h
    case h_2 => cases h
    rename_i fs hfs
    split at h
    case h_2 => cases h
    rename_i f hf
    split at h
    · cases h
    · rename_i m hne hsz
      cases h
      obtain ⟨g, h1, h2⟩ := ac1_val (f := fun g => ⟨vFA f.offset g⟩) (x := x)
      simp only [h2, aop, vFA_eq, h1, doFieldAddr, hfs]
      cases opnd T x with
      | none => rfl
      | some v => cases v with
        | ptr a => cases a with
          | none => rfl
          | some p =>
            simp only [hf, hsz]
            rfl
        | _ => rfl
    · cases h
  case load t x =>
    unfold ldC at h
    split at h
    · rename_i ht
      split at h
      · rename_i n hn
        cases h
        obtain ⟨g, h1, h2⟩ := ac1_val (f := fun g => ⟨vLdN n g⟩) (x := x)
        simp only [h2, aop, vLdN_eq, h1, doLoad, loadV, ht, hn]
        cases opnd T x with
        | none => rfl
        | some v => cases v with
          | ptr a => cases a <;> rfl
          | _ => rfl
      · cases h
    · rename_i ht
      cases h
      obtain ⟨g, h1, h2⟩ := ac1_val (f := fun g => ⟨vLd g⟩) (x := x)
      simp only [h2, aop, vLd_eq, h1, doLoad, loadV, ht]
      cases opnd T x with
      | none => rfl
      | some v => cases v with
        | ptr a => cases a <;> rfl
        | _ => rfl
    · cases h
  case field t x n =>
    unfold fdC at h
    split at h
    case h_2 => cases h
    rename_i fs hfs
    split at h
    case h_2 => cases h
    rename_i f hf
    split at h
    · rename_i ha
      cases h
      obtain ⟨g, h1, h2⟩ := ac1_val (f := fun g => ⟨vFld f.offset g⟩) (x := x)
      simp only [h2, aop, vFld_eq, h1, doField, hfs]
      cases opnd T x with
      | none => rfl
      | some v => cases v with
        | agg cs => simp only [hf, partV, ha]
        | _ => rfl
    · cases h
  case indexAddr t x y =>
    unfold ixC at h
    split at h
    · rename_i len e hu
      split at h
      · rename_i size hs
        cases h
        obtain ⟨g, g', h1, h2, h3⟩ := ac2_val (f := fun g1 g2 => ⟨vIxA len size g1 g2⟩) (x := x) (y := y)
        simp only [h3, aop, vIxA_eq, h1, h2, doIndexAddr, hu]
        cases opnd T x with
        | none => rfl
        | some v => cases v with
          | ptr a => cases a with
            | none => rfl
            | some p => cases opnd T y with
              | none => rfl
              | some u =>
                simp only [hs]
                cases natOf u with
                | none => rfl
                | some n => simp only; cases Nat.blt n len <;> rfl
          | slice a n c e' => cases a with
            | none => cases opnd T y <;> rfl
            | some p => cases opnd T y <;> rfl
          | _ => rfl
      · cases h
    · rename_i e hu
      split at h
      · rename_i size hs
        cases h
        obtain ⟨g, g', h1, h2, h3⟩ := ac2_val (f := fun g1 g2 => ⟨vIxS size g1 g2⟩) (x := x) (y := y)
        simp only [h3, aop, vIxS_eq, h1, h2, doIndexAddr, hu]
        cases opnd T x with
        | none => rfl
        | some v => cases v with
          | slice a n c e' => cases a with
            | none => rfl
            | some p => cases opnd T y with
              | none => rfl
              | some u =>
                simp only [hs]
                cases natOf u with
                | none => rfl
                | some m => simp only; cases Nat.blt m n <;> rfl
          | ptr a => cases a with
            | none => cases opnd T y <;> rfl
            | some p => cases opnd T y <;> rfl
          | _ => rfl
      · cases h
    · cases h
  case convert s d x =>
    unfold cvC at h
    split at h
    · rename_i j k hs hd
      cases h
      obtain ⟨g, h1, h2⟩ := ac1_val (f := fun g => ⟨vCv k (sConv P F s d) g⟩) (x := x)
      simp only [h2, aop, vCv_eq hs hd, h1, doConv]
      cases opnd T x <;> rfl
    · cases h
  case call c =>
    unfold lnC at h
    split at h
    case h_2 => cases h
    rename_i hc
    split at h
    case h_2 => cases h
    rename_i t ts x ht hx
    split at h
    case h_2 => cases h
    rename_i e hu
    cases h
    obtain ⟨g, h1, h2⟩ := ac1_val (f := fun g => ⟨vLen g⟩) (x := x)
    simp only [h2, aop, hc, vLen, h1, ht, hx, opnds]
    cases opnd T x with
    | none => rfl
    | some v =>
      simp only [doBuiltin, builtinA, lenB, hu]
      cases v <;> rfl
end
end Go.Px
