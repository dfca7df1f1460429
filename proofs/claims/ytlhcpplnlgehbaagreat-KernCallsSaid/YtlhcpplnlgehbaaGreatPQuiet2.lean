/- Operations that turn nothing: arithmetic, comparisons, conversions. -/
import Derived.Test.YtlhcpplnlgehbaaGreatPQuiet
namespace Go.Px
open Go Go.RowKit

variable {P : Program} {F : Facts} {V : Val} {B : Nat} {w0 w : World} {H : Hp}

theorem kbeq_iff (a b : IntKind) : kbeq a b = true ↔ a = b := by cases a <;> cases b <;> simp [kbeq, kcode]

theorem kin_nat {k : IntKind} {n : Nat} (h : kin k (.ofNat n) = true) : n < 2 ^ k.bits := by
  have := ((kin_iff k _).1 h).2
  have h' : (n : Int) ≤ kmax k := this
  cases k <;> simp only [kmax] at h' <;> simp only [IntKind.bits, Nat.reducePow] <;> omega

theorem bits_sound {k : IntKind} {op : BinOp} {a b r : Nat} (ha : kin k (.ofNat a) = true) (hb : kin k (.ofNat b) = true) (h : natBits op a b = some r) (w : World) :
    (Op.intBits op k (.ofNat a) (.ofNat b)).run P w = .ok (.int k (.ofNat r)) w := by
  have ea : (BitVec.ofInt k.bits (.ofNat a)).toNat = a := by
    rw [show (Int.ofNat a) = (a : Int) from rfl, BitVec.ofInt_natCast, BitVec.toNat_ofNat, Nat.mod_eq_of_lt (kin_nat ha)]
  have eb : (BitVec.ofInt k.bits (.ofNat b)).toNat = b := by
    rw [show (Int.ofNat b) = (b : Int) from rfl, BitVec.ofInt_natCast, BitVec.toNat_ofNat, Nat.mod_eq_of_lt (kin_nat hb)]
  have up : ∀ n : Nat, (n : Int) ≤ kmax k → k.wrap (n : Int) = (n : Int) := fun n hn => wrap_id ((kin_iff k _).2 ⟨by cases k <;> simp only [kmin] <;> omega, hn⟩)
  have hka := ((kin_iff k _).1 ha).2
  have hkb := ((kin_iff k _).1 hb).2
  have p2 : ∃ m, kmax k + 1 = ((2 ^ m : Nat) : Int) := by
    cases k with
    | i8 => exact ⟨7, by decide⟩
    | i16 => exact ⟨15, by decide⟩
    | i32 => exact ⟨31, by decide⟩
    | i64 => exact ⟨63, by decide⟩
    | u8 => exact ⟨8, by decide⟩
    | u16 => exact ⟨16, by decide⟩
    | u32 => exact ⟨32, by decide⟩
    | u64 => exact ⟨64, by decide⟩
  obtain ⟨m, hm⟩ := p2
  have hka' : a < 2 ^ m := by
    have : (a : Int) ≤ kmax k := hka
    have h2 : (a : Int) < ((2 ^ m : Nat) : Int) := by omega
    exact Int.ofNat_lt.1 h2
  have hkb' : b < 2 ^ m := by
    have : (b : Int) ≤ kmax k := hkb
    have h2 : (b : Int) < ((2 ^ m : Nat) : Int) := by omega
    exact Int.ofNat_lt.1 h2
  have fin : ∀ n : Nat, n < 2 ^ m → k.wrap (n : Int) = (n : Int) := fun n hn => up n (by
    have : (n : Int) < ((2 ^ m : Nat) : Int) := Int.ofNat_lt.2 hn
    omega)
  cases op <;> simp only [natBits] at h <;> try (cases h; done)
  · cases h
    simp only [Op.intBits, Sem.run_pure]
    rw [BitVec.toNat_and, ea, eb, fin _ (Nat.lt_of_le_of_lt Nat.and_le_left hka')]; rfl
  · cases h
    simp only [Op.intBits, Sem.run_pure]
    rw [BitVec.toNat_or, ea, eb, fin _ (Nat.or_lt_two_pow hka' hkb')]; rfl
  · cases h
    simp only [Op.intBits, Sem.run_pure]
    rw [BitVec.toNat_xor, ea, eb, fin _ (Nat.xor_lt_two_pow hka' hkb')]; rfl
  · cases h
    simp only [Op.intBits, Sem.run_pure]
    have key : ∀ (n : Nat) (x y : BitVec n), (x &&& ~~~y) = x ^^^ (x &&& y) := by
      intro n x y
      ext i hi
      simp only [BitVec.getElem_and, BitVec.getElem_not, BitVec.getElem_xor]
      cases x[i] <;> cases y[i] <;> rfl
    rw [key, BitVec.toNat_xor, BitVec.toNat_and, ea, eb, fin _ (Nat.xor_lt_two_pow hka' (Nat.lt_of_le_of_lt Nat.and_le_left hka'))]; rfl

theorem xor_not (a b : Bool) : (xor a b) = (if b then !a else a) := by cases a <;> cases b <;> rfl

theorem intOp_sound (hF : FOk F V.ρ) {op : BinOp} {k : IntKind} {x y : SInt} {v : AVal} (h : intOp F op k x y = some v) (t : TypeId) (w : World) :
    ∃ v', VRel V v v' ∧ (binOp op t (.int k (x.ev V.ρ)) (.int k (y.ev V.ρ))).run P w = .ok v' w := by
  have num : ∀ (s : Option SInt) (z : Int), (∀ r, s = some r → r.ev V.ρ = z) → (match s with
      | none => none
      | some r => match SInt.wrap F k r with
        | none => none
        | some r => some (AVal.int k r)) = some v → VRel V v (.int k (k.wrap z)) := by
    intro s z hs h
    cases s with
    | none => cases h
    | some r =>
      cases hw : SInt.wrap F k r with
      | none => simp only [hw] at h; cases h
      | some r' =>
        simp only [hw] at h; cases h
        rw [← hs r rfl, ← SInt.wrap_ev hF hw]
        exact .int k r'
  have tst : ∀ (s : Option Bool) (neg b : Bool), (∀ r, s = some r → xor r neg = b) → (match s with
      | none => none
      | some c => some (AVal.bool (xor c neg))) = some v → VRel V v (.bool b) := by
    intro s neg b hs h
    cases s with
    | none => cases h
    | some r => cases h; rw [hs r rfl]; exact .bool _
  cases op <;> simp only [intOp] at h
  case add => exact ⟨_, num _ _ (fun r hr => SInt.add_ev hr) h, by simp [binOp, Op.intArith]⟩
  case sub => exact ⟨_, num _ _ (fun r hr => SInt.sub_ev hr) h, by simp [binOp, Op.intArith]⟩
  case mul => exact ⟨_, num _ _ (fun r hr => SInt.mul_ev hr) h, by simp [binOp, Op.intArith]⟩
  case quo =>
    split at h
    · rename_i a b
      cases hb : ibeq b 0 with
      | true => rw [hb] at h; cases h
      | false =>
        rw [hb] at h
        have hne : b ≠ 0 := fun e => by rw [(ibeq_iff b 0).2 e] at hb; cases hb
        exact ⟨_, num (some (.lit (Int.tdiv a b))) (Int.tdiv a b) (fun r hr => by cases hr; rfl) h, by simp [binOp, Op.intDiv, SInt.ev, hne]⟩
    · cases h
  case rem =>
    split at h
    · rename_i a b
      cases hb : ibeq b 0 with
      | true => rw [hb] at h; cases h
      | false =>
        rw [hb] at h
        cases h
        have hne : b ≠ 0 := fun e => by rw [(ibeq_iff b 0).2 e] at hb; cases hb
        exact ⟨_, .int k (.lit (Int.tmod a b)), by simp [binOp, Op.intDiv, SInt.ev, hne]⟩
    · cases h
  case eql => exact ⟨_, tst _ _ _ (fun r hr => by rw [SInt.eq_ev hF hr, Bool.xor_false]) h, by simp [binOp, Op.intCmp, BEq.beq]⟩
  case neq => exact ⟨_, tst _ _ (! decide (x.ev V.ρ = y.ev V.ρ)) (fun r hr => by rw [SInt.eq_ev hF hr, Bool.xor_true]) h, by simp [binOp, Op.intCmp, bne, BEq.beq]⟩
  case lss => exact ⟨_, tst _ _ _ (fun r hr => by rw [SInt.lt_ev hF hr, Bool.xor_false]) h, by simp [binOp, Op.intCmp]⟩
  case gtr => exact ⟨_, tst _ _ _ (fun r hr => by rw [SInt.lt_ev hF hr, Bool.xor_false]) h, by simp [binOp, Op.intCmp]⟩
  case leq => exact ⟨.bool (decide (x.ev V.ρ ≤ y.ev V.ρ)), tst _ _ _ (fun r hr => by
      rw [SInt.lt_ev hF hr, Bool.xor_true]
      by_cases c : y.ev V.ρ < x.ev V.ρ
      · rw [decide_eq_true c, decide_eq_false (by omega)]; rfl
      · rw [decide_eq_false c, decide_eq_true (by omega)]; rfl) h, by simp [binOp, Op.intCmp]⟩
  case geq => exact ⟨.bool (decide (x.ev V.ρ ≥ y.ev V.ρ)), tst _ _ _ (fun r hr => by
      rw [SInt.lt_ev hF hr, Bool.xor_true]
      by_cases c : x.ev V.ρ < y.ev V.ρ
      · rw [decide_eq_true c, decide_eq_false (by omega)]; rfl
      · rw [decide_eq_false c, decide_eq_true (by omega)]; rfl) h, by simp [binOp, Op.intCmp]⟩
  case shl => cases h
  case shr => cases h
  all_goals
    split at h
    · rename_i a b
      cases hk : kin k (.ofNat a) && kin k (.ofNat b) with
      | false => rw [hk] at h; cases h
      | true =>
        rw [Bool.and_eq_true] at hk
        rw [hk.1, hk.2] at h
        simp only [Bool.and_self, cond_true] at h
        split at h
        · rename_i r hr
          cases h
          exact ⟨_, .int k (.lit (.ofNat r)), by simpa [binOp, SInt.ev] using bits_sound (P := P) hk.1 hk.2 hr w⟩
        · cases h
    · cases h
end Go.Px
