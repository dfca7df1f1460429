/- Operations that make a block. -/
import Derived.Test.YtlhcpplnlgehbaaGreatPQuiet7
namespace Go.Px
open Go Go.RowKit

variable {P : Program} {F : Facts} {V : Val} {B : Nat} {w0 w : World} {H : Hp}

/-- A new block, and a value that leads to it. -/
def Makes (P : Program) (V : Val) (B : Nat) (H : Hp) (w : World) (r : ANext) (s : Sem Value) : Prop :=
  ∃ v ob x base S v', r = .val v (H.alloc ob) ∧ s.run P w = .ok v' (w.alloc x) ∧ ORel V B ob w.heap.size base S x ∧
    ∀ V', V.le V' → V'.blk H.next = some (w.heap.size, base, S) → VRel V' v v'

theorem run_newObj (o : Obj) (w : World) : (newObj o).run P w = .ok w.heap.size (w.alloc o) := by
  simp [newObj, Sem.run]

theorem newVar_makes {v : AVal} {u : Value} (hv : VRel V v u) (ht : v.isTuple = false) (hB : B ≤ w.heap.size) (t : TypeId) :
    Makes P V B H w (.val (.ptr (some (H.next, 0))) (newRowH H v.cells)) (do pure (.pointer (some (← newVar t u)))) := by
  refine ⟨_, newRow v.cells, .cells u.cells t, 0, v.cells.length, .pointer (some ⟨w.heap.size, 0, none⟩), rfl, ?_, ?_, ?_⟩
  · simp [newVar, Go.newRow]
  · have := newRow_rel (B := B) hv.cells (cells_are hv ht) w.heap.size v.cells.length t [] hB (by simp)
    simpa using this
  · intro V' _ h
    have := VRel.ptr (V := V') H.next 0 _ _ _ h
    simpa using this

theorem doAlloc_zero {z : AVal} {t : TypeId} (hz : zeroOf P t = some z) (hB : B ≤ w.heap.size) {r : ANext} (h : doAlloc (some z) H = some r) : Makes P V B H w r (Instr.alloc t true (.tuple #[])) := by
  obtain ⟨zv, rz, hzr⟩ := run_zero (P := P) hz
  simp only [doAlloc] at h
  cases ht : z.isTuple with
  | true => rw [ht] at h; cases h
  | false =>
    rw [ht] at h; cases h
    obtain ⟨v, ob, x, base, S, v', h1, h2, h3, h4⟩ := newVar_makes (P := P) (H := H) (hzr V) ht hB t
    exact ⟨v, ob, x, base, S, v', h1, by simpa [Instr.alloc, rz] using h2, h3, h4⟩

theorem doAlloc_box {x : OV} {u : Value} (hx : ∀ v, x = some v → VRel V v u) (hB : B ≤ w.heap.size) (t : TypeId) {r : ANext} (h : doAlloc x H = some r) : Makes P V B H w r (Instr.box t u) := by
  unfold doAlloc at h
  split at h
  · rename_i v
    cases ht : v.isTuple with
    | true => rw [ht] at h; cases h
    | false =>
      rw [ht] at h; cases h
      exact newVar_makes (hx v rfl) ht hB t
  · cases h

theorem repeatL_len (cs : List AVal) : ∀ n, (repeatL cs n).length = n * cs.length := by
  intro n
  induction n with
  | zero => simp [repeatL]
  | succ n ih => simp [repeatL, ih, Nat.add_mul, Nat.add_comm]
theorem repeatL_at (cs : List AVal) : ∀ n i, i < n * cs.length → (repeatL cs n)[i]? = cs[i % cs.length]? := by
  intro n
  induction n with
  | zero => intro i h; omega
  | succ n ih =>
    intro i h
    simp only [repeatL]
    by_cases hi : i < cs.length
    · rw [List.getElem?_append_left hi, Nat.mod_eq_of_lt hi]
    · rw [List.getElem?_append_right (by omega), ih _ (by rw [Nat.add_mul] at h; omega), ← Nat.mod_eq_sub_mod (by omega)]

theorem repeatL_rel {z : AVal} {zv : Value} (hz : VRel V z zv) (n : Nat) (q : Array Value) (hq : n * z.cells.length ≠ 0 → q = zv.cells) :
    LRel V (repeatL z.cells n) ((Array.range (n * z.cells.length)).map (q[· % q.size]!)).toList := by
  have hc := hz.cells
  refine LRel.of (by rw [repeatL_len]; simp) fun i a b ha hb => ?_
  have hi : i < n * z.cells.length := by have := (List.getElem?_eq_some_iff.1 ha).1; rw [repeatL_len] at this; exact this
  rw [repeatL_at _ _ _ hi] at ha
  obtain rfl := hq (by omega)
  have hsz : zv.cells.size = z.cells.length := hz.cells_size
  obtain ⟨b', h1, h2⟩ := hc.at _ a ha
  have hlt : i % z.cells.length < zv.cells.size := by
    have := (List.getElem?_eq_some_iff.1 ha).1
    omega
  have hb' : zv.cells[i % zv.cells.size]! = b' := by
    rw [hsz]
    rw [getElem!_pos zv.cells _ hlt]
    rw [Array.getElem?_toList] at h1
    exact (Array.getElem?_eq_some_iff.1 h1).2
  simp [hi] at hb
  rw [hb'] at hb
  subst hb
  exact h2

theorem repeatL_mem {cs : List AVal} (hc : ∀ u, u ∈ cs → u.isCell = true) : ∀ n u, u ∈ repeatL cs n → u.isCell = true := by
  intro n
  induction n with
  | zero => intro u h; simp [repeatL] at h
  | succ n ih => intro u h; simp only [repeatL, List.mem_append] at h; exact h.elim (hc u) (ih u)

theorem doBuildSlice_makes {t : TypeId} {len : Nat} {l : Option (List (Nat × AVal))} {m : Array (Nat × Value)} {r : ANext} (hB : B ≤ w.heap.size) (hl : ∀ x, l = some x → PartsRel V x m.toList ∧ ∀ p, p ∈ x → ∀ u, u ∈ p.2.cells → u.isCell = true)
    (h : doBuildSlice P t len l H = some r) : Makes P V B H w r (Instr.buildSlice t len m) := by
  unfold doBuildSlice at h
  split at h
  · rename_i e l hu
    obtain ⟨hp, hpc⟩ := hl l rfl
    split at h
    · rename_i size z hs hz
      obtain ⟨zv, rz, hzr⟩ := run_zero (P := P) hz
      cases hb : Nat.beq z.cells.length size && Nat.ble (len * size) 65536 && !z.isTuple with
      | false => rw [hb] at h; cases h
      | true =>
        rw [hb] at h
        simp only [cond_true] at h
        simp only [Bool.and_eq_true, Bool.not_eq_true'] at hb
        obtain ⟨⟨hb1, hb2⟩, ht⟩ := hb
        have hb1 := Nat.eq_of_beq_eq_true hb1
        have hb2 := Nat.le_of_ble_eq_true hb2
        split at h
        · rename_i cs hf
          cases h
          have zc := cells_are (hzr V) ht
          let q : Array Value := if len * size = 0 then #[] else zv.cells
          have hq : len * z.cells.length ≠ 0 → q = zv.cells := fun hne => by show (if len * size = 0 then #[] else zv.cells) = _; rw [if_neg (by rw [← hb1]; exact hne)]
          have hrl := repeatL_rel (hzr V) len q hq
          rw [hb1] at hrl
          obtain ⟨y, h1, h2, h3, h4⟩ := fill_sound l m.toList _ _ cs hp hrl (repeatL_mem zc len) hpc hf
          have hlen : cs.length = len * size := by rw [h4, repeatL_len, hb1]
          refine ⟨_, newRow cs, .cells y e, 0, cs.length, .slice (some ⟨w.heap.size, 0, none⟩) len len, rfl, ?_, ?_, ?_⟩
          · simp only [Instr.buildSlice, Sem.run_bind, run_undl hu, Result.andThen_ok, run_size hs]
            rw [if_neg (by simp only [Nat.reducePow]; omega)]
            by_cases h0 : len * size = 0
            · have hq0 : q = #[] := if_pos h0
              rw [hq0] at h1
              rw [if_pos h0]
              simp only [Sem.run_bind, Sem.run_pure, Result.andThen_ok, h1, Go.newRow, run_newObj]
            · have hq0 : q = zv.cells := if_neg h0
              rw [hq0] at h1
              rw [if_neg h0]
              simp only [Sem.run_bind, Sem.run_pure, Result.andThen_ok, rz, h1, Go.newRow, run_newObj]
          · have := newRow_rel (B := B) h2 h3 w.heap.size cs.length e [] hB (by simp)
            simpa using this
          · intro V' _ hV
            have := VRel.slice (V := V') H.next 0 len (some len) size _ _ _ len hV (Nat.le_refl _) (fun k hk => by cases hk; rfl) (by omega)
            simpa using this
        · cases h
    · cases h
  · cases h

theorem doMakeMap_makes {t : TypeId} {x : Option OV} {u : Option Value} (hB : B ≤ w.heap.size) (hx : ∀ y, x = some (some y) → ∃ v, u = some v ∧ VRel V y v) (hn : x = none → u = none) {r : ANext} (h : doMakeMap P t x H = some r) :
    Makes P V B H w r (Instr.makeMap t u) := by
  have fin : ∀ (hr : (Instr.makeMap t u).run P w = .ok (.map (some w.heap.size)) (w.alloc (.map #[] 0))), Makes P V B H w (.val (.map (some H.next)) (H.alloc (.map [] 0))) (Instr.makeMap t u) := fun hr =>
    ⟨_, .map [] 0, .map #[] 0, 0, 0, _, rfl, hr, .map [] 0 _ 0 0 #[] hB rfl (fun i e m h => by simp at h), fun V' _ hV => .map H.next _ _ _ hV⟩
  unfold doMakeMap at h
  split at h
  · rename_i k e hu
    split at h
    · cases h
      rw [hn rfl]
      rw [hn rfl] at fin
      exact fin (by simp [Instr.makeMap])
    · rename_i k' s
      cases h
      obtain ⟨v, rfl, hv⟩ := hx _ rfl
      obtain rfl := hv.inv_int
      exact fin (by simp [Instr.makeMap, run_undl hu, asInt, asIntOf])
    · cases h
  · cases h

theorem doMakeChan_makes {t : TypeId} {x : OV} {u : Value} (hB : B ≤ w.heap.size) (hx : ∀ v, x = some v → VRel V v u) {r : ANext} (h : doMakeChan P t x H = some r) :
    Makes P V B H w r (Instr.makeChan t u) := by
  unfold doMakeChan at h
  split at h
  · rename_i d e v hu
    split at h
    · rename_i n bytes hn hby
      obtain ⟨k, rfl⟩ := natOf_some hn (hx _ rfl)
      cases hb : Nat.ble n 1024 && Nat.ble bytes mostLen with
      | false => rw [hb] at h; cases h
      | true =>
        rw [hb] at h
        cases h
        rw [Bool.and_eq_true] at hb
        have h1 := Nat.le_of_ble_eq_true hb.1
        have h2 := Nat.le_of_ble_eq_true hb.2
        obtain ⟨i, hi, hib⟩ := bytesOf_info hby
        have hmul : ((bytes : Int) * (n : Int)) ≤ 1048576 * 1024 := by
          have := Nat.mul_le_mul h2 h1
          have h2 : ((bytes * n : Nat) : Int) ≤ ((mostLen * 1024 : Nat) : Int) := Int.ofNat_le.2 this
          rw [Int.natCast_mul] at h2
          simpa [mostLen] using h2
        refine ⟨_, .chan n [] 0 0, .chan n #[] false 0 0 false, 0, 0, .chan (some w.heap.size), rfl, ?_, .chan n [] 0 0 _ 0 0 #[] hB .nil, fun V' _ hV => .chan H.next _ _ _ hV⟩
        have hm : (IntKind.i64.max : Int) = 9223372036854775807 := by decide
        have c2 : ¬ ((n : Int) < 0 ∨ (n : Int) > IntKind.i64.max ∨ (bytes : Int) * (n : Int) > 2 ^ 48 - 112) := by
          rw [hm]
          simp only [Int.reducePow, Int.reduceSub]
          omega
        simp only [Instr.makeChan, Sem.run_bind, asInt, asIntOf, Sem.run_pure, Result.andThen_ok, run_undl hu, run_typeInfo hi, hib]
        rw [if_neg c2]
        simp only [Sem.run_bind, run_newObj, Result.andThen_ok, Sem.run_pure, Int.toNat_natCast]
    · cases h
  · cases h

theorem run_askRoom (n : Nat) (w : World) : (askRoom n).run P w = .ok () w := by
  unfold askRoom
  split
  · rfl
  · rfl

theorem doMakeSlice_makes {t : TypeId} {x y : OV} {u z : Value} (hB : B ≤ w.heap.size) (hx : ∀ v, x = some v → VRel V v u) (hy : ∀ v, y = some v → VRel V v z) {r : ANext} (h : doMakeSlice P t x y H = some r) :
    Makes P V B H w r (Instr.makeSlice t u z) := by
  unfold doMakeSlice at h
  split at h
  · rename_i e a b hu
    split at h
    · rename_i l c size zz bytes hl hc hs hz hby
      obtain ⟨zv, rz, hzr⟩ := run_zero (P := P) hz
      obtain ⟨k1, rfl⟩ := natOf_some hl (hx _ rfl)
      obtain ⟨k2, rfl⟩ := natOf_some hc (hy _ rfl)
      cases hb : Nat.beq zz.cells.length size && Nat.ble c 65536 && Nat.ble l c && Nat.ble bytes mostLen && !zz.isTuple with
      | false => rw [hb] at h; cases h
      | true =>
        rw [hb] at h
        cases h
        simp only [Bool.and_eq_true, Bool.not_eq_true'] at hb
        obtain ⟨⟨⟨⟨hb1, hb2⟩, hb3⟩, hb4⟩, ht⟩ := hb
        have hb1 := Nat.eq_of_beq_eq_true hb1
        have hb2 := Nat.le_of_ble_eq_true hb2
        have hb3 := Nat.le_of_ble_eq_true hb3
        have hb4 := Nat.le_of_ble_eq_true hb4
        obtain ⟨i, hi, hib⟩ := bytesOf_info hby
        have zc := cells_are (hzr V) ht
        let q : Array Value := if c * size = 0 then #[] else zv.cells
        have hq : c * zz.cells.length ≠ 0 → q = zv.cells := fun hne => by show (if c * size = 0 then #[] else zv.cells) = _; rw [if_neg (by rw [← hb1]; exact hne)]
        have hrl := repeatL_rel (hzr V) c q hq
        rw [hb1] at hrl
        have hw1 : IntKind.i64.wrap (l : Int) = (l : Int) := wrap_id ((kin_iff _ _).2 ⟨by simp only [kmin]; omega, by simp only [kmax]; omega⟩)
        have hw2 : IntKind.i64.wrap (c : Int) = (c : Int) := wrap_id ((kin_iff _ _).2 ⟨by simp only [kmin]; omega, by simp only [kmax]; omega⟩)
        have hmul : ((bytes : Int) * (c : Int)) ≤ 1048576 * 65536 := by
          have := Nat.mul_le_mul hb4 hb2
          have h2 : ((bytes * c : Nat) : Int) ≤ ((mostLen * 65536 : Nat) : Int) := Int.ofNat_le.2 this
          rw [Int.natCast_mul] at h2
          simpa [mostLen] using h2
        have hlen : (repeatL zz.cells c).length = c * size := by rw [repeatL_len, hb1]
        refine ⟨_, newRow (repeatL zz.cells c), .cells ((Array.range (c * size)).map (q[· % q.size]!)) e, 0, (repeatL zz.cells c).length, .slice (some ⟨w.heap.size, 0, none⟩) l c, rfl, ?_, ?_, ?_⟩
        · simp only [Instr.makeSlice, Sem.run_bind, run_undl hu, Result.andThen_ok, asInt, asIntOf, Sem.run_pure, run_typeInfo hi, hib, hw1, hw2]
          have c1 : (decide ((c : Int) < 0) || decide ((bytes : Int) * (c : Int) > 2 ^ 48)) = false := by
            rw [Bool.or_eq_false_iff]
            exact ⟨decide_eq_false (by omega), decide_eq_false (by simp only [Int.reducePow]; omega)⟩
          have c2 : ¬ (((decide ((c : Int) < 0) || decide ((bytes : Int) * (c : Int) > 2 ^ 48)) || decide ((l : Int) < 0) || decide ((l : Int) > (c : Int))) = true) := by
            rw [c1]
            simp
            omega
          rw [if_neg c2]
          simp only [Sem.run_bind, run_askRoom, Result.andThen_ok, run_size hs, Int.toNat_natCast]
          by_cases h0 : c * size = 0
          · have hq0 : q = #[] := if_pos h0
            rw [hq0]
            rw [if_pos h0]
            simp only [Sem.run_bind, Sem.run_pure, Result.andThen_ok, Go.newRow, run_newObj]
          · have hq0 : q = zv.cells := if_neg h0
            rw [hq0]
            rw [if_neg h0]
            simp only [Sem.run_bind, Sem.run_pure, Result.andThen_ok, rz, Go.newRow, run_newObj]
        · have := newRow_rel (B := B) hrl (repeatL_mem zc c) w.heap.size (repeatL zz.cells c).length e [] hB (by simp)
          simpa only [List.append_nil, Array.toArray_toList] using this
        · intro V' _ hV
          have := VRel.slice (V := V') H.next 0 l (some c) size _ _ _ c hV hb3 (fun k hk => by cases hk; rfl) (by omega)
          simpa using this
    · cases h
  · cases h

/-- Operations that make a block and turn nothing else. -/
def allocOp : Op → Bool
  | .alloc _ | .box .. | .buildSlice .. | .makeMap .. | .makeChan .. | .makeSlice .. => true
  | _ => false

theorem alloc_sound (hB : B ≤ w.heap.size) {T : Tm} {a : Act} {o : Oper} (hT : Looks V T a o.op.operands) (hq : allocOp o.op = true) {r : ANext} (h : aop P F T H o = some r) :
    ∃ v ob x base S v', r = .val v (H.alloc ob) ∧ (execOp a.eval o).run P w = .ok (.value v') (w.alloc x) ∧ ORel V B ob w.heap.size base S x ∧
      ∀ V', V.le V' → V'.blk H.next = some (w.heap.size, base, S) → VRel V' v v' := by
  obtain ⟨dst, op, ty, pos, after, guard⟩ := o
  have ev : ∀ {x : Operand}, x ∈ op.operands → ∀ v, opnd T x = some v → VRel V v (a.eval x) := fun hx v h => hT _ hx v h
  clear hT
  have lift : ∀ {s : Sem Value} {r : ANext}, Makes P V B H w r s → (execOp a.eval ⟨dst, op, ty, pos, after, guard⟩) = (do pure (.value (← s))) →
      ∃ v ob x base S v', r = .val v (H.alloc ob) ∧ (execOp a.eval ⟨dst, op, ty, pos, after, guard⟩).run P w = .ok (.value v') (w.alloc x) ∧ ORel V B ob w.heap.size base S x ∧
        ∀ V', V.le V' → V'.blk H.next = some (w.heap.size, base, S) → VRel V' v v' := by
    intro s r ⟨v, ob, x, base, S, v', h1, h2, h3, h4⟩ e
    exact ⟨v, ob, x, base, S, v', h1, by rw [e]; simp [h2], h3, h4⟩
  cases op <;> simp only [allocOp] at hq <;> try (cases hq; done)
  case alloc t =>
    simp only [aop] at h
    cases hz : zeroOf P t with
    | none => rw [hz] at h; cases h
    | some z => rw [hz] at h; exact lift (doAlloc_zero hz hB h) rfl
  case box t x => exact lift (doAlloc_box (ev (by simp [Op.operands])) hB t h) rfl
  case buildSlice t len parts =>
    have h' : doBuildSlice P t len (partsOf T parts.toList) H = some r := h
    have hm : Makes P V B H w r (Instr.buildSlice t len (parts.map fun (i, x) => (i, a.eval x))) := doBuildSlice_makes hB (fun x hx => by
      have := partsOf_rel (a := a) (V := V) (fun y hy => ev (by simpa [Op.operands] using hy)) hx
      simpa using this) h'
    have e : (execOp a.eval ⟨dst, .buildSlice t len parts, ty, pos, after, guard⟩) = (do pure (.value (← Instr.buildSlice t len (parts.map fun (i, x) => (i, a.eval x))))) := by simp only [execOp]
    exact lift hm e
  case makeMap t x =>
    refine lift (doMakeMap_makes (u := x.map a.eval) hB (fun y hy => ?_) (fun hx => ?_) h) rfl
    · cases x with
      | none => cases hy
      | some x => simp only [Option.map_some, Option.some.injEq] at hy; exact ⟨a.eval x, rfl, ev (by simp [Op.operands]) _ hy⟩
    · cases x with
      | none => rfl
      | some x => cases hx
  case makeChan t x => exact lift (doMakeChan_makes hB (ev (by simp [Op.operands])) h) rfl
  case makeSlice t x y => exact lift (doMakeSlice_makes hB (ev (by simp [Op.operands])) (ev (by simp [Op.operands])) h) rfl
end Go.Px
