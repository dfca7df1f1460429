/- An executable big-step reading of the model's code over an abstract heap: the operations and the run. -/
import Derived.Test.YtlhcpplnlgehbaaGreatPBase
namespace Go.Px
open Go
noncomputable section

/-- What is asked of the program's tables. -/
def undl (P : Program) (t : TypeId) : Option TypeDesc := P.underlying t
def szOf (P : Program) (t : TypeId) : Option Nat := match P.info? t with
  | some i => some i.size
  | none => none
def bytesOf (P : Program) (t : TypeId) : Option Nat := match P.info? t with
  | some i => some i.bytes
  | none => none
def zeroOf (P : Program) (t : TypeId) : Option AVal := match P.info? t with
  | some i => match i.zero with
    | some v => absConst 4 v
    | none => none
  | none => none
def isAggT (P : Program) (t : TypeId) : Option Bool := match undl P t with
  | some (.struct _) => some true
  | some (.array _ _) => some true
  | some _ => some false
  | none => none

def oTmp (t : Nat) (T : Tm) : Option AVal := Tm.get t T
def oConst (v : Value) (_T : Tm) : Option AVal := absConst 4 v
def oFunc (f : FuncId) (_T : Tm) : Option AVal := some (.func f [] [])
def oGlobal (_ : Nat) (_T : Tm) : Option AVal := none
def opnd (T : Tm) (x : Operand) : Option AVal := Operand.rec (motive := fun _ => Tm → Option AVal) oTmp oConst oGlobal oFunc x T

def opnds (T : Tm) : List Operand → Option (List AVal)
  | [] => some []
  | x :: xs => match opnd T x with
    | none => none
    | some v => match opnds T xs with
      | none => none
      | some vs => some (v :: vs)

inductive ANext where
  | val (v : AVal) (H : Hp)
  | call (f : FuncId) (args : List AVal)

def ANext.ofVal (v : Option AVal) (H : Hp) : Option ANext := match v with
  | some v => some (.val v H)
  | none => none

def unit : AVal := .tuple []

/-- The cells of a value that lies at a type's place. -/
def loadV (P : Program) (t : TypeId) (H : Hp) (i off : Nat) : Option AVal := match isAggT P t with
  | some true => match szOf P t with
    | some n => match H.read i off n with
      | some cs => some (.agg cs)
      | none => none
    | none => none
  | some false => H.read1 i off
  | none => none

def storeV (P : Program) (t : TypeId) (H : Hp) (i off : Nat) (v : AVal) : Option Hp := match szOf P t with
  | some 1 => match v.cells with
    | [v] => H.write1 i off v
    | _ => none
  | some n => bif Nat.beq v.cells.length n then H.write i off v.cells else none
  | none => none

def newRow (cs : List AVal) : AObj := .cells true (Tr.ofList cs 0 .nil) cs.length
def newRowH (H : Hp) (cs : List AVal) : Hp := H.alloc (newRow cs)

def takeN : Nat → List AVal → List AVal
  | 0, _ => []
  | n + 1, l => match l with
    | [] => []
    | x :: xs => x :: takeN n xs
def dropN : Nat → List AVal → List AVal
  | 0, l => l
  | n + 1, l => match l with
    | [] => []
    | _ :: xs => dropN n xs

def partV (P : Program) (t : TypeId) (cs : List AVal) (off : Nat) : Option AVal := match isAggT P t with
  | some true => match szOf P t with
    | some n => bif Nat.ble (off + n) cs.length then some (.agg (takeN n (dropN off cs))) else none
    | none => none
  | some false => cs[off]?
  | none => none

def placesOf (P : Program) : List Field → Option (List (Nat × Nat))
  | [] => some []
  | f :: fs => match szOf P f.type with
    | none => none
    | some n => match placesOf P fs with
      | none => none
      | some l => some ((f.offset, n) :: l)

/-- Some cells of a row are replaced. -/
def overlay : List AVal → Nat → List AVal → List AVal
  | [], _, _ => []
  | c :: cs, n + 1, vs => c :: overlay cs n vs
  | c :: cs, 0, vs => match vs with
    | [] => c :: cs
    | v :: vs => v :: overlay cs 0 vs

def fillA (place : Nat → Option (Nat × Nat)) (cells : List AVal) : List (Nat × AVal) → Option (List AVal)
  | [] => some cells
  | (i, v) :: rest => match place i with
    | none => none
    | some (off, size) => bif Nat.beq v.cells.length size && Nat.ble (off + size) cells.length then fillA place (overlay cells off v.cells) rest else none

def AVal.isTuple : AVal → Bool
  | .tuple _ => true
  | _ => false

def partsOf (T : Tm) : List (Nat × Operand) → Option (List (Nat × AVal))
  | [] => some []
  | (i, x) :: rest => match opnd T x with
    | none => none
    | some v => bif v.isTuple then none else match partsOf T rest with
      | none => none
      | some l => some ((i, v) :: l)

def repeatL (cs : List AVal) : Nat → List AVal
  | 0 => []
  | n + 1 => cs ++ repeatL cs n

def litOf : AVal → Option Int
  | .int _ (.lit z) => some z
  | _ => none
def natOf : AVal → Option Nat
  | .int _ (.lit (.ofNat n)) => some n
  | _ => none
def aint (n : Nat) : AVal := .int .i64 (.lit (.ofNat n))

def mostLen : Nat := 1048576

/-! ### equality -/
def fieldsEq (eq : TypeId → AVal → AVal → Option Bool) (P : Program) (xs ys : List AVal) : List Field → Option Bool
  | [] => some true
  | f :: fs => bif f.name == "_" then none else match partV P f.type xs f.offset, partV P f.type ys f.offset with
    | some a, some b => match eq f.type a b with
      | some true => fieldsEq eq P xs ys fs
      | some false => some false
      | none => none
    | _, _ => none

def elemsEq (eq : AVal → AVal → Option Bool) (P : Program) (e : TypeId) (n : Nat) (xs ys : List AVal) : Nat → Nat → Option Bool
  | 0, _ => some true
  | k + 1, i => match partV P e xs (i * n), partV P e ys (i * n) with
    | some a, some b => match eq a b with
      | some true => elemsEq eq P e n xs ys k (i + 1)
      | some false => some false
      | none => none
    | _, _ => none

def allBytes : List Nat → Bool
  | [] => true
  | x :: xs => Nat.blt x 256 && allBytes xs

def aeq (P : Program) (F : Facts) (H : Hp) : Nat → TypeId → AVal → AVal → Option Bool
  | 0, _, _, _ => none
  | d + 1, t, x, y => match x, y with
    | .bool a, .bool b => match undl P t with
      | some .bool => some (a == b)
      | _ => none
    | .int k a, .int j b => match undl P t with
      | some (.int _) => bif kbeq k j then SInt.eq F a b else none
      | _ => none
    | .str a, .str b => match undl P t with
      | some .string => bif natsBeq a b then some true else bif allBytes a && allBytes b then some false else none
      | _ => none
    | .ptr a, .ptr b => match undl P t with
      | some (.pointer e) => match a, b with
        | none, none => some true
        | none, some _ => some false
        | some _, none => some false
        | some (i, o), some (j, p) => match szOf P e with
          | some 0 => none
          | some _ => bif Nat.beq i j then some (Nat.beq o p) else match H.rowW i, H.rowW j with
            | some _, some _ => some false
            | _, _ => none
          | none => none
      | _ => none
    | .nilIface, .nilIface => match undl P t with
      | some (.interface _) => some true
      | _ => none
    | .nilIface, .iface _ _ => match undl P t with
      | some (.interface _) => some false
      | _ => none
    | .iface _ _, .nilIface => match undl P t with
      | some (.interface _) => some false
      | _ => none
    | .slice none _ _ _, .slice b _ _ _ => match undl P t with
      | some (.slice _) => some b.isNone
      | _ => none
    | .slice (some _) _ _ _, .slice none _ _ _ => match undl P t with
      | some (.slice _) => some false
      | _ => none
    | .map none, .map b => match undl P t with
      | some (.map _ _) => some b.isNone
      | _ => none
    | .map (some _), .map none => match undl P t with
      | some (.map _ _) => some false
      | _ => none
    | .nilFunc, .nilFunc => match undl P t with
      | some (.func _ _ _) => some true
      | _ => none
    | .nilFunc, .func _ _ _ => match undl P t with
      | some (.func _ _ _) => some false
      | _ => none
    | .func _ _ _, .nilFunc => match undl P t with
      | some (.func _ _ _) => some false
      | _ => none
    | .agg xs, .agg ys => match undl P t with
      | some (.struct fs) => bif P.stoodInHeld t then none else fieldsEq (aeq P F H d) P xs ys fs.toList
      | some (.array len e) => match szOf P e with
        | some n => elemsEq (aeq P F H d e) P e n xs ys len 0
        | none => none
      | _ => none
    | _, _ => none

/-! ### numbers -/
def natBits (op : BinOp) (a b : Nat) : Option Nat := match op with
  | .and => some (Nat.land a b)
  | .or => some (Nat.lor a b)
  | .xor => some (Nat.xor a b)
  | .andNot => some (Nat.xor a (Nat.land a b))
  | _ => none

def intOp (F : Facts) (op : BinOp) (k : IntKind) (x y : SInt) : Option AVal :=
  let num (r : Option SInt) : Option AVal := match r with
    | none => none
    | some r => match SInt.wrap F k r with
      | none => none
      | some r => some (.int k r)
  let tst (r : Option Bool) (neg : Bool) : Option AVal := match r with
    | none => none
    | some b => some (.bool (xor b neg))
  match op with
  | .add => num (x.add y)
  | .sub => num (x.sub y)
  | .mul => num (x.mul y)
  | .quo => match x, y with
    | .lit a, .lit b => bif ibeq b 0 then none else num (some (.lit (Int.tdiv a b)))
    | _, _ => none
  | .rem => match x, y with
    | .lit a, .lit b => bif ibeq b 0 then none else some (.int k (.lit (Int.tmod a b)))
    | _, _ => none
  | .eql => tst (SInt.eq F x y) false
  | .neq => tst (SInt.eq F x y) true
  | .lss => tst (SInt.lt F x y) false
  | .gtr => tst (SInt.lt F y x) false
  | .leq => tst (SInt.lt F y x) true
  | .geq => tst (SInt.lt F x y) true
  | .and | .or | .xor | .andNot => match x, y with
    | .lit (.ofNat a), .lit (.ofNat b) => bif kin k (.ofNat a) && kin k (.ofNat b) then (match natBits op a b with
        | some r => some (.int k (.lit (.ofNat r)))
        | none => none) else none
    | _, _ => none
  | _ => none

def shiftOp (F : Facts) (op : BinOp) (k : IntKind) (x y : SInt) : Option AVal := match x, y with
  | .lit (.ofNat a), .lit (.ofNat b) => match op with
    | .shl => bif Nat.ble b 64 then (match SInt.wrap F k (.lit (.ofNat (a * 2 ^ (Nat.min b k.bits)))) with
      | some r => some (.int k r)
      | none => none) else none
    | .shr => bif Nat.ble b 64 then some (.int k (.lit (.ofNat (Nat.div a (2 ^ (Nat.min b k.bits)))))) else none
    | _ => none
  | _, _ => none

/-- May two values be held against each other (c: one of them is a constant)? -/
def eqOk (P : Program) (t : TypeId) (c : Bool) : AVal → AVal → Bool
  | .nilIface, .nilIface => c
  | .agg _, .agg _ => !P.eqGuardType P.depth t
  | _, _ => true

def binA (P : Program) (F : Facts) (H : Hp) (op : BinOp) (t : TypeId) (c : Bool) (x y : AVal) : Option AVal := match x, y with
  | .int k a, .int j b => match op with
    | .shl => shiftOp F op k a b
    | .shr => shiftOp F op k a b
    | _ => bif kbeq k j then intOp F op k a b else none
  | .str a, .str b => match op with
    | .add => bif allBytes a && allBytes b && Nat.ble (a.length + b.length) mostLen then some (.str (a ++ b)) else none
    | .eql => bif natsBeq a b then some (.bool true) else bif allBytes a && allBytes b then some (.bool false) else none
    | .neq => bif natsBeq a b then some (.bool false) else bif allBytes a && allBytes b then some (.bool true) else none
    | _ => none
  | _, _ => match op with
    | .eql => bif eqOk P t c x y then (match aeq P F H 60 t x y with
      | some b => some (.bool b)
      | none => none) else none
    | .neq => bif eqOk P t c x y then (match aeq P F H 60 t x y with
      | some b => some (.bool (!b))
      | none => none) else none
    | _ => none

def unA (F : Facts) (op : UnOp) (x : AVal) : Option AVal := match op, x with
  | .not, .bool b => some (.bool (!b))
  | .neg, .int k a => match SInt.sub (.lit 0) a with
    | some r => match SInt.wrap F k r with
      | some r => some (.int k r)
      | none => none
    | none => none
  | .xor, .int k (.lit z) => bif kin k z then (match k with
    | .u8 | .u16 | .u32 | .u64 => some (.int k (.lit (kmax k - z)))
    | _ => none) else none
  | _, _ => none

def convA (P : Program) (F : Facts) (src dst : TypeId) (x : AVal) : Option AVal := match x with
  | .int _ a => match undl P src, undl P dst with
    | some (.int _), some (.int k) => match SInt.wrap F k a with
      | some r => some (.int k r)
      | none => none
    | _, _ => none
  | .str s => match undl P src, undl P dst with
    | some .string, some .string => some (.str s)
    | _, _ => none
  | _ => none

/-! ### slices -/
def boundA (x : Option AVal) (dflt most : Nat) : Option Nat := match x with
  | none => some dflt
  | some v => match natOf v with
    | some n => bif Nat.ble n most then some n else none
    | none => none

def endOf (len : Nat) (m : Option Nat) : Nat := match m with
  | some c => c
  | none => len
def endA (len : Nat) (cap : Option Nat) (mx : Option AVal) : Option (Option Nat) := match mx with
  | none => some cap
  | some v => match natOf v with
    | some n => bif Nat.ble n (endOf len cap) then some (some n) else none
    | none => none
/-- The bounds of a slice expression: low, high, and the new end (if it is known). -/
def boundsA (len : Nat) (cap : Option Nat) (lo hi mx : Option AVal) : Option (Nat × Nat × Option Nat) :=
  match mx, hi with
  | some _, none => none
  | _, _ =>
    match endA len cap mx with
    | none => none
    | some m => match boundA hi len (endOf len m) with
      | none => none
      | some h => match boundA lo 0 h with
        | none => none
        | some l => some (l, h, m)

/-- s[l:h:m]; the capacity of a slice may be unknown: then h is at most the length. -/
def sliceA (P : Program) (t : TypeId) (H : Hp) (x : AVal) (lo hi mx : Option AVal) : Option AVal := match x with
  | .slice a len cap es => match undl P t with
    | some (.slice e) => match szOf P e, boundsA len cap lo hi mx with
      | some size, some (l, h, m) => match a, m with
        | none, some c => some (.slice none (h - l) (some (c - l)) es)
        | none, none => none
        | some (i, off), some c => bif Nat.beq es size then (bif Nat.beq c l then some (.slice (some (i, off)) (h - l) (some (c - l)) es)
            else some (.slice (some (i, off + l * size)) (h - l) (some (c - l)) es)) else none
        | some (i, off), none => bif Nat.beq es size then (bif Nat.beq len l then none
            else some (.slice (some (i, off + l * size)) (h - l) none es)) else none
      | _, _ => none
    | _ => none
  | .ptr (some (i, off)) => match undl P t with
    | some (.array n e) => match szOf P e, boundsA n (some n) lo hi mx with
      | some size, some (l, h, some c) => match H.row i with
        | some rows => bif Nat.ble (off + n * size) rows then some (.slice (some (i, bif Nat.beq c l then off else off + l * size)) (h - l) (some (c - l)) size) else none
        | none => none
      | _, _ => none
    | _ => none
  | .str s => match undl P t with
    | some .string => match mx with
      | some _ => none
      | none => bif allBytes s then (match boundsA s.length (some s.length) lo hi none with
        | some (l, h, _) => some (.str ((s.drop l).take (h - l)))
        | none => none) else none
    | _ => none
  | _ => none

/-- The cells of the first n elements. -/
def firstA (H : Hp) (size n : Nat) : AVal → Option (List AVal)
  | .slice (some (i, off)) len _ _ => bif Nat.ble n len then H.read i off (n * size) else none
  | .slice none _ _ _ => bif Nat.beq n 0 then some [] else none
  | .str s => bif allBytes s && (Nat.beq size 1 && Nat.ble n s.length) then some (takeN n (s.map fun b => .int .u8 (.lit (.ofNat b)))) else none
  | _ => none

def lenA : AVal → Option Nat
  | .slice _ n _ _ => some n
  | .str s => bif allBytes s then some s.length else none
  | _ => none

/-- append(s, x...): x a slice. -/
def appendA (P : Program) (types : List TypeId) (H : Hp) (args : List AVal) : Option ANext := match types, args with
  | t :: xt :: _, s :: x :: _ => match undl P t, undl P xt with
    | some (.slice e), some (.slice _) => match szOf P e, bytesOf P e, zeroOf P e, s, lenA x with
      | some size, some bytes, some z, .slice a len cap es, some n =>
        bif Nat.beq z.cells.length size && Nat.ble (len + n) mostLen && Nat.ble bytes mostLen then
          match firstA H size n x with
          | none => none
          | some new => match a, cap with
            | none, _ => bif Nat.beq n 0 then some (.val s H) else
                some (.val (.slice (some (H.next, 0)) (len + n) none size) (newRowH H new))
            | some (i, off), none => bif Nat.beq n 0 then some (.val s H) else bif Nat.beq es size then (match H.rowW i with
              | some rows => bif Nat.beq (off + len * size) rows then (match H.read i off (len * size) with
                | some old => some (.val (.slice (some (H.next, 0)) (len + n) none size) (newRowH ⟨H.t.del i, H.next⟩ (old ++ new)))
                | none => none) else none
              | none => none) else none
            | some (i, off), some c => bif Nat.ble (len + n) c then (match H.write i (off + len * size) new with
                | some H => some (.val (.slice (some (i, off)) (len + n) (some c) es) H)
                | none => none)
              else match H.read i off (len * size) with
                | some old => some (.val (.slice (some (H.next, 0)) (len + n) none size) (newRowH H (old ++ new)))
                | none => none
        else none
      | _, _, _, _, _ => none
    | _, _ => none
  | _, _ => none

/-! ### maps -/
def flatBeq : AVal → AVal → Bool
  | .bool a, .bool b => a == b
  | .int k (.lit a), .int j (.lit b) => kbeq k j && ibeq a b
  | _, _ => false
def flatsBeq : List AVal → List AVal → Bool
  | [], [] => true
  | a :: x, b :: y => flatBeq a b && flatsBeq x y
  | _, _ => false
/-- The same plain key. -/
def keyBeq : AVal → AVal → Bool
  | .int k (.lit a), .int j (.lit b) => kbeq k j && ibeq a b
  | .bool a, .bool b => a == b
  | .str a, .str b => natsBeq a b && allBytes a
  | .agg a, .agg b => flatsBeq a b
  | _, _ => false

/-- Is a value of a type that a key may have (numbers, bools, texts; structs of numbers and bools)? -/
def keyFits (P : Program) (t : TypeId) (k : AVal) : Bool := match k with
  | .int _ _ => match undl P t with
    | some (.int _) => true
    | _ => false
  | .bool _ => match undl P t with
    | some .bool => true
    | _ => false
  | .str _ => match undl P t with
    | some .string => true
    | _ => false
  | .agg cs => match undl P t with
    | some (.struct fs) => fs.toList.all fun f => match partV P f.type cs f.offset with
      | some (.int _ _) => match undl P f.type with
        | some (.int _) => true
        | _ => false
      | some (.bool _) => match undl P f.type with
        | some .bool => true
        | _ => false
      | _ => false
    | _ => false
  | _ => false

def findE (eq : AVal → AVal → Option Bool) (k : AVal) : List Entry → Nat → Option (Option (Nat × Entry))
  | [], _ => some none
  | e :: es, i => match eq k e.key with
    | some true => some (some (i, e))
    | some false => findE eq k es (i + 1)
    | none => none

def lookupA (P : Program) (F : Facts) (t : TypeId) (H : Hp) (x k : AVal) (ok : Bool) : Option AVal := match undl P t with
  | some (.map kt et) => bif keyFits P kt k then (match zeroOf P et with
      | none => none
      | some z => match (match x with
          | .map none => some []
          | .map (some r) => match H.mapAt r with
            | some (es, _) => some es
            | none => none
          | _ => none) with
        | none => none
        | some es => match findE (aeq P F H 3 kt) k es 0 with
          | some (some (_, e)) => some (bif ok then .tuple [e.val, .bool true] else e.val)
          | some none => some (bif ok then .tuple [z, .bool false] else z)
          | none => none) else none
  | _ => none

def updateA (P : Program) (F : Facts) (t : TypeId) (H : Hp) (m k v : AVal) : Option Hp := match undl P t with
  | some (.map kt _) => bif keyFits P kt k then (match m with
      | .map (some r) => match H.mapAt r with
        | some (es, clock) => match findE (aeq P F H 3 kt) k es 0 with
          | some (some (i, e)) => bif keyBeq k e.key then some (H.put r (.map (es.set i ⟨k, v, e.born⟩) clock)) else none
          | some none => some (H.put r (.map (es ++ [⟨k, v, clock⟩]) (clock + 1)))
          | none => none
        | none => none
      | _ => none) else none
  | _ => none

def deleteA (P : Program) (F : Facts) (t : TypeId) (H : Hp) (m k : AVal) : Option Hp := match undl P t with
  | some (.map kt _) => bif keyFits P kt k then (match m with
      | .map (some r) => match H.mapAt r with
        | some (es, clock) => match findE (aeq P F H 3 kt) k es 0 with
          | some (some (i, _)) => some (H.put r (.map (es.eraseIdx i) clock))
          | some none => some (H.put r (.map es clock))
          | none => none
        | none => none
      | .map none => some H
      | _ => none) else none
  | _ => none

/-! ### one operation -/
def minA (F : Facts) : AVal → AVal → Option AVal
  | .int k x, .int _ y => match SInt.lt F y x with
    | some true => some (.int k y)
    | some false => some (.int k x)
    | none => none
  | _, _ => none
def maxA (F : Facts) : AVal → AVal → Option AVal
  | .int k x, .int _ y => match SInt.lt F x y with
    | some true => some (.int k y)
    | some false => some (.int k x)
    | none => none
  | _, _ => none
def foldA (f : AVal → AVal → Option AVal) : AVal → List AVal → Option AVal
  | v, [] => some v
  | v, x :: xs => match f v x with
    | some w => foldA f w xs
    | none => none

def lenB (P : Program) (H : Hp) (t : TypeId) (x : AVal) : Option AVal := match undl P t, x with
  | some .string, .str s => bif allBytes s then some (aint s.length) else none
  | some (.array n _), _ => some (aint n)
  | some (.slice _), .slice _ n _ _ => some (aint n)
  | some (.map _ _), .map none => some (aint 0)
  | some (.map _ _), .map (some r) => match H.mapAt r with
    | some (es, _) => some (aint es.length)
    | none => none
  | some (.chan _ _), .chan (some r) => match H.t.get r with
    | some (.chan _ buf _ _) => some (aint buf.length)
    | _ => none
  | _, _ => none

def builtinA (P : Program) (F : Facts) (b : Builtin) (types : List TypeId) (H : Hp) (args : List AVal) : Option ANext := match b with
  | .append => appendA P types H args
  | .len => match types, args with
    | t :: _, x :: _ => ANext.ofVal (lenB P H t x) H
    | _, _ => none
  | .cap => match types, args with
    | t :: _, .slice _ _ (some c) _ :: _ => match undl P t with
      | some (.slice _) => some (.val (aint c) H)
      | _ => none
    | _, _ => none
  | .min => match args with
    | x :: xs => ANext.ofVal (foldA (minA F) x xs) H
    | [] => none
  | .max => match args with
    | x :: xs => ANext.ofVal (foldA (maxA F) x xs) H
    | [] => none
  | .delete => match types, args with
    | t :: _, m :: k :: _ => match deleteA P F t H m k with
      | some H => some (.val unit H)
      | none => none
    | _, _ => none
  | .copy => match types, args with
    | t :: _, .slice (some (i, off)) n _ _ :: x :: _ => match undl P t with
      | some (.slice e) => match szOf P e, lenA x with
        | some size, some m =>
          let k := Nat.min m n
          match firstA H size k x with
          | some cs => match H.write i off cs with
            | some H => some (.val (aint k) H)
            | none => none
          | none => none
        | _, _ => none
      | _ => none
    | _, _ => none
  | .clear => match types, args with
    | t :: _, .slice (some (i, off)) n _ _ :: _ => match undl P t with
      | some (.slice e) => match zeroOf P e with
        | some z => match H.write i off (repeatL z.cells n) with
          | some H => some (.val unit H)
          | none => none
        | none => none
      | _ => none
    | t :: _, .slice none _ _ _ :: _ => match undl P t with
      | some (.slice _) => some (.val unit H)
      | _ => none
    | _, _ => none
  | _ => none

abbrev OV := Option AVal

def doPick (c : OV) (a b : OV) (H : Hp) : Option ANext := match c with
  | some (.bool c) => ANext.ofVal (bif c then a else b) H
  | _ => none
def doAlloc (z : OV) (H : Hp) : Option ANext := match z with
  | some z => bif z.isTuple then none else some (.val (.ptr (some (H.next, 0))) (newRowH H z.cells))
  | none => none
def doBuild (P : Program) (t : TypeId) (z : OV) (l : Option (List (Nat × AVal))) (H : Hp) : Option ANext := match z, l with
  | some z, some l => match undl P t with
    | some (.struct fs) => bif z.isTuple then none else match placesOf P fs.toList with
      | some pl => match fillA (fun i => pl[i]?) z.cells l with
        | some cs => some (.val (.agg cs) H)
        | none => none
      | none => none
    | some (.array _ e) => bif z.isTuple then none else match szOf P e with
      | some size => match fillA (fun i => some (i * size, size)) z.cells l with
        | some cs => some (.val (.agg cs) H)
        | none => none
      | none => none
    | _ => none
  | _, _ => none
def doBuildSlice (P : Program) (t : TypeId) (len : Nat) (l : Option (List (Nat × AVal))) (H : Hp) : Option ANext := match undl P t, l with
  | some (.slice e), some l => match szOf P e, zeroOf P e with
    | some size, some z => bif Nat.beq z.cells.length size && Nat.ble (len * size) 65536 && !z.isTuple then
        match fillA (fun i => some (i * size, size)) (repeatL z.cells len) l with
        | some cs => some (.val (.slice (some (H.next, 0)) len (some len) size) (newRowH H cs))
        | none => none
      else none
    | _, _ => none
  | _, _ => none
def doLoad (P : Program) (t : TypeId) (x : OV) (H : Hp) : Option ANext := match x with
  | some (.ptr (some (i, off))) => ANext.ofVal (loadV P t H i off) H
  | _ => none
def doStore (P : Program) (t : TypeId) (x y : OV) (H : Hp) : Option ANext := match x, y with
  | some (.ptr (some (i, off))), some v => match storeV P t H i off v with
    | some H => some (.val unit H)
    | none => none
  | _, _ => none
def doNilCheck (x : OV) (H : Hp) : Option ANext := match x with
  | some (.ptr (some a)) => some (.val (.ptr (some a)) H)
  | some (.func f a b) => some (.val (.func f a b) H)
  | _ => none
def isC : Operand → Bool
  | .const _ => true
  | _ => false
def doBin (P : Program) (F : Facts) (op : BinOp) (t : TypeId) (c : Bool) (x y : OV) (H : Hp) : Option ANext := match x, y with
  | some a, some b => ANext.ofVal (binA P F H op t c a b) H
  | _, _ => none
def doUn (F : Facts) (op : UnOp) (x : OV) (H : Hp) : Option ANext := match x with
  | some a => ANext.ofVal (unA F op a) H
  | none => none
def doConv (P : Program) (F : Facts) (s d : TypeId) (x : OV) (H : Hp) : Option ANext := match x with
  | some a => ANext.ofVal (convA P F s d a) H
  | none => none
def doIface (P : Program) (t : TypeId) (x : OV) (H : Hp) : Option ANext := match x, undl P t with
  | some _, some (.interface _) => none
  | some v, some _ => some (.val (.iface t v) H)
  | _, _ => none
def doFunc (f : Fn) (a b : Option (List AVal)) (H : Hp) : Option ANext := match f, a, b with
  | .func f, some a, some b => some (.val (.func f a b) H)
  | _, _, _ => none
def doMakeMap (P : Program) (t : TypeId) (r : Option OV) (H : Hp) : Option ANext := match undl P t with
  | some (.map _ _) => match r with
    | none => some (.val (.map (some H.next)) (H.alloc (.map [] 0)))
    | some (some (.int _ _)) => some (.val (.map (some H.next)) (H.alloc (.map [] 0)))
    | _ => none
  | _ => none
def doMakeChan (P : Program) (t : TypeId) (x : OV) (H : Hp) : Option ANext := match undl P t, x with
  | some (.chan _ e), some v => match natOf v, bytesOf P e with
    | some n, some b => bif Nat.ble n 1024 && Nat.ble b mostLen then some (.val (.chan (some H.next)) (H.alloc (.chan n [] 0 0))) else none
    | _, _ => none
  | _, _ => none
def doMakeSlice (P : Program) (t : TypeId) (x y : OV) (H : Hp) : Option ANext := match undl P t, x, y with
  | some (.slice e), some a, some b => match natOf a, natOf b, szOf P e, zeroOf P e, bytesOf P e with
    | some l, some c, some size, some z, some bytes =>
      bif Nat.beq z.cells.length size && Nat.ble c 65536 && Nat.ble l c && Nat.ble bytes mostLen && !z.isTuple then
        some (.val (.slice (some (H.next, 0)) l (some c) size) (newRowH H (repeatL z.cells c)))
      else none
    | _, _, _, _, _ => none
  | _, _, _ => none
def doSlice (P : Program) (t : TypeId) (x : OV) (lo hi mx : Option OV) (H : Hp) : Option ANext := match x, lo, hi, mx with
  | _, some none, _, _ => none
  | _, _, some none, _ => none
  | _, _, _, some none => none
  | some v, lo, hi, mx => ANext.ofVal (sliceA P t H v (lo.getD none) (hi.getD none) (mx.getD none)) H
  | none, _, _, _ => none
def doFieldAddr (P : Program) (t : TypeId) (x : OV) (n : Nat) (H : Hp) : Option ANext := match x, undl P t with
  | some (.ptr (some (i, off))), some (.struct fs) => match fs[n]? with
    | some f => match szOf P f.type with
      | some 0 => none
      | some _ => some (.val (.ptr (some (i, off + f.offset))) H)
      | none => none
    | none => none
  | _, _ => none
def doField (P : Program) (t : TypeId) (x : OV) (n : Nat) (H : Hp) : Option ANext := match x, undl P t with
  | some (.agg cs), some (.struct fs) => match fs[n]? with
    | some f => ANext.ofVal (partV P f.type cs f.offset) H
    | none => none
  | _, _ => none
def doIndexAddr (P : Program) (t : TypeId) (x y : OV) (H : Hp) : Option ANext := match x, y, undl P t with
  | some (.ptr (some (i, off))), some v, some (.array len e) => match natOf v, szOf P e with
    | some n, some size => bif Nat.blt n len then some (.val (.ptr (some (i, off + n * size))) H) else none
    | _, _ => none
  | some (.slice (some (i, off)) len _ _), some v, some (.slice e) => match natOf v, szOf P e with
    | some n, some size => bif Nat.blt n len then some (.val (.ptr (some (i, off + n * size))) H) else none
    | _, _ => none
  | _, _, _ => none
def doIndex (P : Program) (t : TypeId) (x y : OV) (H : Hp) : Option ANext := match x, y, undl P t with
  | some (.agg cs), some v, some (.array len e) => match natOf v, szOf P e with
    | some n, some size => bif Nat.blt n len then ANext.ofVal (partV P e cs (n * size)) H else none
    | _, _ => none
  | some (.str s), some v, some .string => match natOf v with
    | some n => bif allBytes s then (match s[n]? with
      | some b => some (.val (.int .u8 (.lit (.ofNat b))) H)
      | none => none) else none
    | none => none
  | _, _, _ => none
def doLookup (P : Program) (F : Facts) (t : TypeId) (x k : OV) (ok : Bool) (H : Hp) : Option ANext := match x, k with
  | some m, some k => ANext.ofVal (lookupA P F t H m k ok) H
  | _, _ => none
def doUpdate (P : Program) (F : Facts) (t : TypeId) (m k x : OV) (H : Hp) : Option ANext := match m, k, x with
  | some m, some k, some v => match updateA P F t H m k v with
    | some H => some (.val unit H)
    | none => none
  | _, _, _ => none
def doMapEntry (P : Program) (F : Facts) (t : TypeId) (m k : OV) (H : Hp) : Option ANext := match m, k, undl P t with
  | some (.map (some r)), some k, some (.map kt et) => bif keyFits P kt k then (match H.mapAt r, zeroOf P et with
      | some (es, clock), some z => match findE (aeq P F H 3 kt) k es 0 with
        | some (some (i, e)) => bif keyBeq k e.key then some (.val (.tuple [e.val, aint e.born]) (H.put r (.map (es.set i ⟨k, e.val, e.born⟩) clock))) else none
        | some none => some (.val (.tuple [z, aint clock]) (H.put r (.map (es ++ [⟨k, z, clock⟩]) (clock + 1))))
        | none => none
      | _, _ => none) else none
  | _, _, _ => none
def bornAt (b : Nat) : List Entry → Nat → Option (Nat × Entry)
  | [], _ => none
  | e :: es, i => bif Nat.beq e.born b then some (i, e) else bornAt b es (i + 1)
def doEntryStore (m st x : OV) (H : Hp) : Option ANext := match m, st, x with
  | some (.map (some r)), some s, some v => match natOf s, H.mapAt r with
    | some b, some (es, clock) => match bornAt b es 0 with
      | some (i, e) => some (.val unit (H.put r (.map (es.set i ⟨e.key, v, e.born⟩) clock)))
      | none => none
    | _, _ => none
  | _, _, _ => none
def doExtract (x : OV) (n : Nat) (H : Hp) : Option ANext := match x with
  | some (.tuple vs) => ANext.ofVal (vs[n]?) H
  | _ => none
def doAssert (P : Program) (x : OV) (asserted : TypeId) (ok : Bool) (H : Hp) : Option ANext := match x, undl P asserted with
  | some _, some (.interface _) => none
  | some .nilIface, some _ => bif ok then (match zeroOf P asserted with
      | some z => some (.val (.tuple [z, .bool false]) H)
      | none => none) else none
  | some (.iface t v), some _ => bif Nat.beq t asserted then some (.val (bif ok then .tuple [v, .bool true] else v) H) else none
  | _, _ => none
def doSelSend (x : OV) (v : OV) (H : Hp) : Option ANext := match x, v with
  | some (.chan (some r)), some v => match H.t.get r with
    | some (.chan cap buf s n) => bif Nat.blt buf.length cap then some (.val (.tuple [aint 0, .bool false]) (H.put r (.chan cap (buf ++ [v]) (s + 1) n)))
        else some (.val (.tuple [.int .i64 (.lit (-1)), .bool false]) H)
    | _ => none
  | _, _ => none
def doSelRecv (x : OV) (z : OV) (H : Hp) : Option ANext := match x, z with
  | some (.chan (some r)), some z => match H.t.get r with
    | some (.chan cap buf s n) => match buf with
      | [] => some (.val (.tuple [.int .i64 (.lit (-1)), .bool false, z]) H)
      | v :: buf => some (.val (.tuple [aint 0, .bool true, v]) (H.put r (.chan cap buf s (n + 1))))
    | _ => none
  | _, _ => none
def doSelect (P : Program) (T : Tm) (cases : List SelectCase) (blocking : Bool) (H : Hp) : Option ANext := match cases, blocking with
  | [c], false => match c.send with
    | some x => doSelSend (opnd T c.chan) (opnd T x) H
    | none => doSelRecv (opnd T c.chan) (zeroOf P c.elem) H
  | _, _ => none
def doBuiltin (P : Program) (F : Facts) (b : Builtin) (types : List TypeId) (args : Option (List AVal)) (H : Hp) : Option ANext := match args with
  | some args => builtinA P F b types H args
  | none => none
def doCall (f : OV) (args : Option (List AVal)) : Option ANext := match f, args with
  | some (.func f a b), some args => some (.call f (a ++ args ++ b))
  | _, _ => none

def aop (P : Program) (F : Facts) (T : Tm) (H : Hp) (o : Oper) : Option ANext := match o.op with
  | .move x => ANext.ofVal (opnd T x) H
  | .assign x => ANext.ofVal (opnd T x) H
  | .pick c a b => doPick (opnd T c) (opnd T a) (opnd T b) H
  | .alloc t => doAlloc (zeroOf P t) H
  | .box _ x => doAlloc (opnd T x) H
  | .build t parts => doBuild P t (zeroOf P t) (partsOf T parts.toList) H
  | .buildSlice t len parts => doBuildSlice P t len (partsOf T parts.toList) H
  | .load t x => doLoad P t (opnd T x) H
  | .store t x y => doStore P t (opnd T x) (opnd T y) H
  | .nilCheck x => doNilCheck (opnd T x) H
  | .binOp op t x y _ => doBin P F op t (isC x || isC y) (opnd T x) (opnd T y) H
  | .unOp op _ x => doUn F op (opnd T x) H
  | .convert s d x => doConv P F s d (opnd T x) H
  | .makeInterface t x => doIface P t (opnd T x) H
  | .makeFunc f a b => doFunc f (opnds T a.toList) (opnds T b.toList) H
  | .makeMap t r => doMakeMap P t (r.map (opnd T)) H
  | .makeChan t x => doMakeChan P t (opnd T x) H
  | .makeSlice t x y => doMakeSlice P t (opnd T x) (opnd T y) H
  | .slice t x lo hi mx => doSlice P t (opnd T x) (lo.map (opnd T)) (hi.map (opnd T)) (mx.map (opnd T)) H
  | .fieldAddr t x n => doFieldAddr P t (opnd T x) n H
  | .field t x n => doField P t (opnd T x) n H
  | .indexAddr t x y => doIndexAddr P t (opnd T x) (opnd T y) H
  | .index t x y => doIndex P t (opnd T x) (opnd T y) H
  | .lookup t x k ok => doLookup P F t (opnd T x) (opnd T k) ok H
  | .mapUpdate t m k x => doUpdate P F t (opnd T m) (opnd T k) (opnd T x) H
  | .insert t m k x => doUpdate P F t (opnd T m) (opnd T k) (opnd T x) H
  | .mapEntry t m k => doMapEntry P F t (opnd T m) (opnd T k) H
  | .entryStore _ m st x => doEntryStore (opnd T m) (opnd T st) (opnd T x) H
  | .extract x n => doExtract (opnd T x) n H
  | .typeAssert x _ asserted ok => doAssert P (opnd T x) asserted ok H
  | .call c => match c.callee with
    | .builtin b => doBuiltin P F b c.argTypes.toList (opnds T c.args.toList) H
    | .value f => doCall (opnd T f) (opnds T c.args.toList)
    | .invoke _ _ => none
  | _ => none

/-! ### the same, an operation's arm a name of its own (for the kernel: nothing open is made anew) -/
def xCallV (f : Operand) (c : Call) (_P : Program) (_F : Facts) (T : Tm) (_H : Hp) : Option ANext := doCall (opnd T f) (opnds T c.args.toList)
def xCallI (_r : Operand) (_m : String) (_c : Call) (_P : Program) (_F : Facts) (_T : Tm) (_H : Hp) : Option ANext := none
def xCallB (b : Builtin) (c : Call) (P : Program) (F : Facts) (T : Tm) (H : Hp) : Option ANext := doBuiltin P F b c.argTypes.toList (opnds T c.args.toList) H
def xMove (x : Operand) (_P : Program) (_F : Facts) (T : Tm) (H : Hp) : Option ANext := ANext.ofVal (opnd T x) H
def xAssign (x : Operand) (_P : Program) (_F : Facts) (T : Tm) (H : Hp) : Option ANext := ANext.ofVal (opnd T x) H
def xPick (c : Operand) (a : Operand) (b : Operand) (_P : Program) (_F : Facts) (T : Tm) (H : Hp) : Option ANext := doPick (opnd T c) (opnd T a) (opnd T b) H
def xAlloc (t : TypeId) (P : Program) (_F : Facts) (_T : Tm) (H : Hp) : Option ANext := doAlloc (zeroOf P t) H
def xBox (_t : TypeId) (x : Operand) (_P : Program) (_F : Facts) (T : Tm) (H : Hp) : Option ANext := doAlloc (opnd T x) H
def xBuild (t : TypeId) (parts : Array (Nat × Operand)) (P : Program) (_F : Facts) (T : Tm) (H : Hp) : Option ANext := doBuild P t (zeroOf P t) (partsOf T parts.toList) H
def xBuildSlice (t : TypeId) (len : Nat) (parts : Array (Nat × Operand)) (P : Program) (_F : Facts) (T : Tm) (H : Hp) : Option ANext := doBuildSlice P t len (partsOf T parts.toList) H
def xInsert (t : TypeId) (m : Operand) (k : Operand) (x : Operand) (P : Program) (F : Facts) (T : Tm) (H : Hp) : Option ANext := doUpdate P F t (opnd T m) (opnd T k) (opnd T x) H
def xLoad (t : TypeId) (x : Operand) (P : Program) (_F : Facts) (T : Tm) (H : Hp) : Option ANext := doLoad P t (opnd T x) H
def xStore (t : TypeId) (x : Operand) (y : Operand) (P : Program) (_F : Facts) (T : Tm) (H : Hp) : Option ANext := doStore P t (opnd T x) (opnd T y) H
def xReady (_g : Nat) (_P : Program) (_F : Facts) (_T : Tm) (_H : Hp) : Option ANext := none
def xWaits (_g : Nat) (_P : Program) (_F : Facts) (_T : Tm) (_H : Hp) : Option ANext := none
def xNilCheck (x : Operand) (_P : Program) (_F : Facts) (T : Tm) (H : Hp) : Option ANext := doNilCheck (opnd T x) H
def xBinOp (op : BinOp) (t : TypeId) (x : Operand) (y : Operand) (_yt : TypeId) (P : Program) (F : Facts) (T : Tm) (H : Hp) : Option ANext := doBin P F op t (isC x || isC y) (opnd T x) (opnd T y) H
def xUnOp (op : UnOp) (_t : TypeId) (x : Operand) (_P : Program) (F : Facts) (T : Tm) (H : Hp) : Option ANext := doUn F op (opnd T x) H
def xConvert (s : TypeId) (d : TypeId) (x : Operand) (P : Program) (F : Facts) (T : Tm) (H : Hp) : Option ANext := doConv P F s d (opnd T x) H
def xSliceToArrayPointer (_d : TypeId) (_x : Operand) (_P : Program) (_F : Facts) (_T : Tm) (_H : Hp) : Option ANext := none
def xMakeInterface (t : TypeId) (x : Operand) (P : Program) (_F : Facts) (T : Tm) (H : Hp) : Option ANext := doIface P t (opnd T x) H
def xMakeFunc (f : Fn) (a : Array Operand) (b : Array Operand) (_P : Program) (_F : Facts) (T : Tm) (H : Hp) : Option ANext := doFunc f (opnds T a.toList) (opnds T b.toList) H
def xMakeMap (t : TypeId) (r : Option Operand) (P : Program) (_F : Facts) (T : Tm) (H : Hp) : Option ANext := doMakeMap P t (r.map (opnd T)) H
def xMakeChan (t : TypeId) (x : Operand) (P : Program) (_F : Facts) (T : Tm) (H : Hp) : Option ANext := doMakeChan P t (opnd T x) H
def xMakeSlice (t : TypeId) (x : Operand) (y : Operand) (P : Program) (_F : Facts) (T : Tm) (H : Hp) : Option ANext := doMakeSlice P t (opnd T x) (opnd T y) H
def xSlice (t : TypeId) (x : Operand) (lo : Option Operand) (hi : Option Operand) (mx : Option Operand) (P : Program) (_F : Facts) (T : Tm) (H : Hp) : Option ANext := doSlice P t (opnd T x) (lo.map (opnd T)) (hi.map (opnd T)) (mx.map (opnd T)) H
def xFieldAddr (t : TypeId) (x : Operand) (n : Nat) (P : Program) (_F : Facts) (T : Tm) (H : Hp) : Option ANext := doFieldAddr P t (opnd T x) n H
def xField (t : TypeId) (x : Operand) (n : Nat) (P : Program) (_F : Facts) (T : Tm) (H : Hp) : Option ANext := doField P t (opnd T x) n H
def xIndexAddr (t : TypeId) (x : Operand) (y : Operand) (P : Program) (_F : Facts) (T : Tm) (H : Hp) : Option ANext := doIndexAddr P t (opnd T x) (opnd T y) H
def xIndex (t : TypeId) (x : Operand) (y : Operand) (P : Program) (_F : Facts) (T : Tm) (H : Hp) : Option ANext := doIndex P t (opnd T x) (opnd T y) H
def xLookup (t : TypeId) (x : Operand) (k : Operand) (ok : Bool) (P : Program) (F : Facts) (T : Tm) (H : Hp) : Option ANext := doLookup P F t (opnd T x) (opnd T k) ok H
def xMapUpdate (t : TypeId) (m : Operand) (k : Operand) (x : Operand) (P : Program) (F : Facts) (T : Tm) (H : Hp) : Option ANext := doUpdate P F t (opnd T m) (opnd T k) (opnd T x) H
def xMapEntry (t : TypeId) (m : Operand) (k : Operand) (P : Program) (F : Facts) (T : Tm) (H : Hp) : Option ANext := doMapEntry P F t (opnd T m) (opnd T k) H
def xEntryStore (_t : TypeId) (m : Operand) (st : Operand) (x : Operand) (_P : Program) (_F : Facts) (T : Tm) (H : Hp) : Option ANext := doEntryStore (opnd T m) (opnd T st) (opnd T x) H
def xRange (_t : TypeId) (_x : Operand) (_P : Program) (_F : Facts) (_T : Tm) (_H : Hp) : Option ANext := none
def xNext (_i : Operand) (_s : Bool) (_P : Program) (_F : Facts) (_T : Tm) (_H : Hp) : Option ANext := none
def xEntry (_i : Operand) (_P : Program) (_F : Facts) (_T : Tm) (_H : Hp) : Option ANext := none
def xTypeAssert (x : Operand) (_xt : TypeId) (asserted : TypeId) (ok : Bool) (P : Program) (_F : Facts) (T : Tm) (H : Hp) : Option ANext := doAssert P (opnd T x) asserted ok H
def xExtract (x : Operand) (n : Nat) (_P : Program) (_F : Facts) (T : Tm) (H : Hp) : Option ANext := doExtract (opnd T x) n H
def xCall (c : Call) (P : Program) (F : Facts) (T : Tm) (H : Hp) : Option ANext := Callee.rec (motive := fun _ => Call → Program → Facts → Tm → Hp → Option ANext) xCallV xCallI xCallB c.callee c P F T H
def xGo (_c : Call) (_P : Program) (_F : Facts) (_T : Tm) (_H : Hp) : Option ANext := none
def xDefer (_c : Call) (_P : Program) (_F : Facts) (_T : Tm) (_H : Hp) : Option ANext := none
def xPanic (_x : Operand) (_P : Program) (_F : Facts) (_T : Tm) (_H : Hp) : Option ANext := none
def xSend (_c : Operand) (_x : Operand) (_P : Program) (_F : Facts) (_T : Tm) (_H : Hp) : Option ANext := none
def xRecv (_t : TypeId) (_c : Operand) (_o : Bool) (_P : Program) (_F : Facts) (_T : Tm) (_H : Hp) : Option ANext := none
def xSelect (_c : Array SelectCase) (_b : Bool) (_P : Program) (_F : Facts) (_T : Tm) (_H : Hp) : Option ANext := none
def aopF (P : Program) (F : Facts) (T : Tm) (H : Hp) (o : Oper) : Option ANext :=
  Op.rec (motive := fun _ => Program → Facts → Tm → Hp → Option ANext) xMove xAssign xPick xAlloc xBox xBuild xBuildSlice xInsert xLoad xStore xReady xWaits xNilCheck xBinOp xUnOp xConvert xSliceToArrayPointer xMakeInterface xMakeFunc xMakeMap xMakeChan xMakeSlice xSlice xFieldAddr xField xIndexAddr xIndex xLookup xMapUpdate xMapEntry xEntryStore xRange xNext xEntry xTypeAssert xExtract xCall xGo xDefer xPanic xSend xRecv xSelect o.op P F T H
theorem aopF_eq (P : Program) (F : Facts) (T : Tm) (H : Hp) (o : Oper) : aopF P F T H o = aop P F T H o := by
  obtain ⟨dst, op, ty, pos, after, guard⟩ := o
  cases op <;> try rfl
  case call c =>
    obtain ⟨callee, args, ats⟩ := c
    cases callee <;> rfl

end
end Go.Px
