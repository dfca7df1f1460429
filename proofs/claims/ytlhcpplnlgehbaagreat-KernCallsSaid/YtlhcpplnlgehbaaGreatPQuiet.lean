/- Operations that turn nothing: each is what the model reckons. -/
import Derived.Test.YtlhcpplnlgehbaaGreatPInt
import Derived.Laws.BitsLemmas
namespace Go.Px
open Go Go.RowKit

variable {P : Program} {F : Facts} {V : Val} {B : Nat} {w0 w : World} {H : Hp}

theorem ofVal_some {x : Option AVal} {H : Hp} {r : ANext} (h : ANext.ofVal x H = some r) : ∃ v, x = some v ∧ r = .val v H := by
  cases x with
  | none => cases h
  | some v => cases h; exact ⟨v, rfl, rfl⟩

/-! ### the tables -/
theorem run_undl {t : TypeId} {d : TypeDesc} (h : undl P t = some d) (w : World) : (underlying t).run P w = .ok d w := run_underlying h w
theorem run_typeInfo {t : TypeId} {i : TypeInfo} (h : P.info? t = some i) (w : World) : (typeInfo t).run P w = .ok i w := by
  simp [typeInfo, program, h, Sem.run, Bind.bind, Sem.bind, Pure.pure]
theorem szOf_info {t : TypeId} {n : Nat} (h : szOf P t = some n) : ∃ i, P.info? t = some i ∧ i.size = n := by
  unfold szOf at h
  split at h
  · rename_i i hi; cases h; exact ⟨i, hi, rfl⟩
  · cases h
theorem bytesOf_info {t : TypeId} {n : Nat} (h : bytesOf P t = some n) : ∃ i, P.info? t = some i ∧ i.bytes = n := by
  unfold bytesOf at h
  split at h
  · rename_i i hi; cases h; exact ⟨i, hi, rfl⟩
  · cases h
theorem run_size {t : TypeId} {n : Nat} (h : szOf P t = some n) (w : World) : (sizeOf t).run P w = .ok n w := by
  obtain ⟨i, hi, rfl⟩ := szOf_info h
  simp [sizeOf, run_typeInfo hi]
theorem run_isAgg {t : TypeId} {b : Bool} (h : isAggT P t = some b) (w : World) : (isAgg t).run P w = .ok b w := by
  unfold isAggT at h
  split at h <;> first
    | (cases h; done)
    | (rename_i e; cases h; simp [isAgg, run_undl e])
theorem run_zero {t : TypeId} {z : AVal} (h : zeroOf P t = some z) : ∃ v, (∀ w, (zeroValue t).run P w = .ok v w) ∧ ∀ V, VRel V z v := by
  unfold zeroOf at h
  split at h
  · rename_i i hi
    split at h
    · rename_i v hv
      exact ⟨v, fun w => by simp [zeroValue, run_typeInfo hi, hv], fun V => absConst_rel V 4 v z h⟩
    · cases h
  · cases h

/-! ### inversions -/
theorem VRel.inv_agg {cs : List AVal} {v : Value} (h : VRel V (.agg cs) v) : ∃ x, v = .agg x ∧ LRel V cs x.toList ∧ ∀ u, u ∈ cs → u.isCell = true := by
  cases h with
  | agg _ x ha hx hc => exact ⟨x, rfl, LRel.ofArray ha hx, hc⟩
theorem VRel.inv_tuple {cs : List AVal} {v : Value} (h : VRel V (.tuple cs) v) : ∃ x, v = .tuple x ∧ LRel V cs x.toList := by
  cases h with
  | tuple _ x ha hx => exact ⟨x, rfl, LRel.ofArray ha hx⟩
theorem VRel.aggA {us : List AVal} {x : Array Value} (h : LRel V us x.toList) (hc : ∀ u, u ∈ us → u.isCell = true) : VRel V (.agg us) (.agg x) := by
  have := VRel.aggL h hc
  simpa using this
theorem VRel.tupleA {us : List AVal} {x : Array Value} (h : LRel V us x.toList) : VRel V (.tuple us) (.tuple x) := by
  have := VRel.tupleL h
  simpa using this
theorem VRel.inv_bool {b : Bool} {v : Value} (h : VRel V (.bool b) v) : v = .bool b := by cases h; rfl
theorem VRel.inv_int {k : IntKind} {s : SInt} {v : Value} (h : VRel V (.int k s) v) : v = .int k (s.ev V.ρ) := by cases h; rfl
theorem VRel.inv_ptr {i off : Nat} {v : Value} (h : VRel V (.ptr (some (i, off))) v) : ∃ b base S, V.blk i = some (b, base, S) ∧ v = .pointer (some ⟨b, base + off, none⟩) := by
  cases h with
  | ptr _ _ b base S h => exact ⟨b, base, S, h, rfl⟩
theorem natOf_some {a : AVal} {n : Nat} (h : natOf a = some n) {v : Value} (hv : VRel V a v) : ∃ k, v = .int k (n : Int) := by
  cases a <;> simp only [natOf] at h <;> try (cases h; done)
  split at h
  · rename_i h1; cases h1; cases h; exact ⟨_, hv.inv_int⟩
  · cases h

theorem take_spec : ∀ (n : Nat) (l : List AVal), takeN n l = l.take n := by
  intro n
  induction n with
  | zero => intro l; simp [takeN]
  | succ n ih => intro l; cases l with
    | nil => simp [takeN]
    | cons x l => simp [takeN, ih]
theorem drop_spec : ∀ (n : Nat) (l : List AVal), dropN n l = l.drop n := by
  intro n
  induction n with
  | zero => intro l; simp [dropN]
  | succ n ih => intro l; cases l with
    | nil => simp [dropN]
    | cons x l => simp [dropN, ih]
theorem LRel.take {us : List AVal} {vs : List Value} (h : LRel V us vs) (n : Nat) : LRel V (us.take n) (vs.take n) :=
  LRel.of (by simp [h.length]) fun i u v hu hv => by
    by_cases hi : i < n
    · rw [List.getElem?_take_of_lt hi] at hu hv; exact h.pt i u v hu hv
    · rw [List.getElem?_take_eq_none (by omega)] at hu; cases hu
theorem LRel.drop {us : List AVal} {vs : List Value} (h : LRel V us vs) (n : Nat) : LRel V (us.drop n) (vs.drop n) :=
  LRel.of (by simp [h.length]) fun i u v hu hv => by
    rw [List.getElem?_drop] at hu hv; exact h.pt _ u v hu hv

theorem part_sound {t : TypeId} {cs : List AVal} {off : Nat} {v : AVal} (h : partV P t cs off = some v) {x : Array Value} (hl : LRel V cs x.toList) (hc : ∀ u, u ∈ cs → u.isCell = true) (w : World) :
    ∃ v', VRel V v v' ∧ (part t x off).run P w = .ok v' w := by
  unfold partV at h
  split at h
  · rename_i ha
    split at h
    · rename_i n hn
      cases hb : Nat.ble (off + n) cs.length with
      | false => rw [hb] at h; cases h
      | true =>
        rw [hb] at h
        cases h
        rw [take_spec, drop_spec]
        have hle := Nat.le_of_ble_eq_true hb
        have hlen := hl.length
        refine ⟨.agg (x.extract off (off + n)), ?_, by simp [part, run_isAgg ha, run_size hn]⟩
        have hh : LRel V ((cs.drop off).take n) (x.extract off (off + n)).toList := by
          rw [Array.toList_extract, List.extract_eq_take_drop, Nat.add_sub_cancel_left]
          exact (hl.drop off).take n
        exact VRel.aggA hh fun u hu => hc u (List.mem_of_mem_drop (List.mem_of_mem_take hu))
    · cases h
  · rename_i ha
    obtain ⟨v', h1, h2⟩ := hl.at off v h
    refine ⟨v', h2, ?_⟩
    have h1' : x[off]? = some v' := by simpa using h1
    simp [part, run_isAgg ha, h1']
  · cases h

/-! ### a load -/
theorem loadV_sound (hW : WRel B w0 V H w) {t : TypeId} {i off b base S : Nat} {v : AVal} (hb : V.blk i = some (b, base, S)) (h : loadV P t H i off = some v) :
    ∃ v', VRel V v v' ∧ (loadVar t ⟨b, base + off, none⟩).run P w = .ok v' w := by
  unfold loadV at h
  split at h
  · rename_i ha
    split at h
    · rename_i n hn
      split at h
      · rename_i cs hr
        cases h
        obtain ⟨hlen, hc, vs, hl, hcell⟩ := read_rel hW hb hr
        refine ⟨.agg vs.toArray, VRel.aggL hl hc, ?_⟩
        have := run_loadCells_list (P := P) w ⟨b, base + off, none⟩ vs hcell
        rw [← hl.length, hlen] at this
        simp [loadVar, run_isAgg ha, run_size hn, this]
      · cases h
    · cases h
  · rename_i ha
    obtain ⟨v', h1, h2, _⟩ := read1_rel hW hb h
    exact ⟨v', h2, by simp [loadVar, run_isAgg ha, run_load, h1]⟩
  · cases h

theorem doLoad_sound (hW : WRel B w0 V H w) {t : TypeId} {x : OV} {r : ANext} {u : Value} (hx : ∀ v, x = some v → VRel V v u) (h : doLoad P t x H = some r) :
    ∃ v v', r = .val v H ∧ VRel V v v' ∧ (Instr.loadAt t u).run P w = .ok v' w := by
  unfold doLoad at h
  split at h
  · rename_i i off
    obtain ⟨b, base, S, hb, rfl⟩ := (hx _ rfl).inv_ptr
    obtain ⟨v, hv, rfl⟩ := ofVal_some h
    obtain ⟨v', h1, h2⟩ := loadV_sound hW hb hv
    exact ⟨v, v', rfl, h1, by simpa [Instr.loadAt, Instr.sureAddr] using h2⟩
  · cases h

/-! ### fields, indexes -/
theorem doFieldAddr_sound {t : TypeId} {x : OV} {n : Nat} {r : ANext} {u : Value} (hx : ∀ v, x = some v → VRel V v u) (h : doFieldAddr P t x n H = some r) (w : World) :
    ∃ v v', r = .val v H ∧ VRel V v v' ∧ (Instr.fieldAt t u n).run P w = .ok v' w := by
  unfold doFieldAddr at h
  split at h
  · rename_i i off fs hu
    obtain ⟨b, base, S, hb, rfl⟩ := (hx _ rfl).inv_ptr
    split at h
    · rename_i f hf
      split at h
      · cases h
      · rename_i m hne hs
        cases h
        have hm : m ≠ 0 := fun e => hne e
        refine ⟨_, .pointer (some ⟨b, base + (off + f.offset), none⟩), rfl, .ptr _ _ _ _ _ hb, ?_⟩
        simp only [Instr.fieldAt, Sem.run_bind, run_undl hu, Result.andThen_ok, hf, Instr.sureAddr, Sem.run_pure, fieldPlace, run_size hs, if_neg hm, addr_add, Nat.add_assoc]
      · cases h
    · cases h
  · cases h

theorem doField_sound {t : TypeId} {x : OV} {n : Nat} {r : ANext} {u : Value} (hx : ∀ v, x = some v → VRel V v u) (h : doField P t x n H = some r) (w : World) :
    ∃ v v', r = .val v H ∧ VRel V v v' ∧ (Instr.field t u n).run P w = .ok v' w := by
  unfold doField at h
  split at h
  · rename_i cs fs hu
    obtain ⟨y, rfl, hl, hc⟩ := (hx _ rfl).inv_agg
    split at h
    · rename_i f hf
      obtain ⟨v, hv, rfl⟩ := ofVal_some h
      obtain ⟨v', h1, h2⟩ := part_sound hv hl hc w
      exact ⟨v, v', rfl, h1, by simp [Instr.field, run_undl hu, hf, asAgg, h2]⟩
    · cases h
  · cases h

theorem doIndexAddr_sound {t : TypeId} {x y : OV} {r : ANext} {u z : Value} (hx : ∀ v, x = some v → VRel V v u) (hy : ∀ v, y = some v → VRel V v z) (h : doIndexAddr P t x y H = some r) (w : World) :
    ∃ v v', r = .val v H ∧ VRel V v v' ∧ (Instr.indexAt t u z).run P w = .ok v' w := by
  unfold doIndexAddr at h
  split at h
  · rename_i i off v len e hu
    obtain ⟨b, base, S, hb, rfl⟩ := (hx _ rfl).inv_ptr
    split at h
    · rename_i n size hn hs
      obtain ⟨k, rfl⟩ := natOf_some hn (hy _ rfl)
      cases hlt : Nat.blt n len with
      | false => rw [hlt] at h; cases h
      | true =>
        rw [hlt] at h
        cases h
        have hlt' : n < len := by simpa using hlt
        refine ⟨_, .pointer (some ⟨b, base + (off + n * size), none⟩), rfl, .ptr _ _ _ _ _ hb, ?_⟩
        simp only [Instr.indexAt, asIntOf, Sem.run_bind, Sem.run_pure, Result.andThen_ok, run_undl hu, Instr.sureAddr]
        rw [if_pos (⟨by omega, by omega⟩ : (0 : Int) ≤ (n : Int) ∧ (n : Int) < (len : Int))]
        simp only [Sem.run_bind, run_size hs, Result.andThen_ok, Sem.run_pure, Int.toNat_natCast, addr_add, Nat.add_assoc]
    · cases h
  · rename_i i off len cap es v e hu
    have hsl := hx _ rfl
    split at h
    · rename_i n size hn hs
      obtain ⟨k, rfl⟩ := natOf_some hn (hy _ rfl)
      cases hlt : Nat.blt n len with
      | false => rw [hlt] at h; cases h
      | true =>
        rw [hlt] at h
        cases h
        have hlt' : n < len := by simpa using hlt
        cases hsl with
        | slice _ _ _ _ _ b base S c hb hl hc hS =>
          refine ⟨_, .pointer (some ⟨b, base + (off + n * size), none⟩), rfl, .ptr _ _ _ _ _ hb, ?_⟩
          simp only [Instr.indexAt, asIntOf, Sem.run_bind, Sem.run_pure, Result.andThen_ok, run_undl hu]
          rw [if_pos (⟨by omega, by omega⟩ : (0 : Int) ≤ (n : Int) ∧ (n : Int) < (len : Int))]
          simp only [Sem.run_bind, run_size hs, Result.andThen_ok, Sem.run_pure, Int.toNat_natCast, addr_add, Nat.add_assoc]
    · cases h
  · cases h

theorem allBytes_iff (l : List Nat) : allBytes l = true ↔ ∀ n, n ∈ l → n < 256 := by
  induction l with
  | nil => simp [allBytes]
  | cons x l ih => simp [allBytes, ih]
theorem strEv_lit (ρ : Nat → Int) : ∀ (l : List Nat), (∀ n, n ∈ l → n < 256) → strEv ρ l = l.map UInt8.ofNat := by
  intro l
  induction l with
  | nil => intro _; rfl
  | cons x l ih => intro h; simp only [strEv, if_pos (h x (by simp)), List.map_cons, ih fun n hn => h n (by simp [hn]), List.cons_append, List.nil_append]
theorem str_bytes {l : List Nat} {s : ByteArray} (hl : allBytes l = true) (h : VRel V (.str l) (.string s)) : s.data.toList = l.map UInt8.ofNat := by
  cases h with
  | str _ _ h => rw [h, strEv_lit _ _ ((allBytes_iff l).1 hl)]
theorem VRel.inv_str {l : List Nat} {v : Value} (h : VRel V (.str l) v) : ∃ s, v = .string s ∧ s.data.toList = strEv V.ρ l := by
  cases h with
  | str _ s h => exact ⟨s, rfl, h⟩

theorem doIndex_sound {t : TypeId} {x y : OV} {r : ANext} {u z : Value} (hx : ∀ v, x = some v → VRel V v u) (hy : ∀ v, y = some v → VRel V v z) (h : doIndex P t x y H = some r) (w : World) :
    ∃ v v', r = .val v H ∧ VRel V v v' ∧ (Instr.index t u z).run P w = .ok v' w := by
  unfold doIndex at h
  split at h
  · rename_i cs v len e hu
    obtain ⟨q, rfl, hl, hc⟩ := (hx _ rfl).inv_agg
    split at h
    · rename_i n size hn hs
      obtain ⟨k, rfl⟩ := natOf_some hn (hy _ rfl)
      cases hlt : Nat.blt n len with
      | false => rw [hlt] at h; cases h
      | true =>
        rw [hlt] at h
        obtain ⟨v, hv, rfl⟩ := ofVal_some h
        have hlt' : n < len := by simpa using hlt
        obtain ⟨v', h1, h2⟩ := part_sound hv hl hc w
        refine ⟨v, v', rfl, h1, ?_⟩
        simp only [Instr.index, asIntOf, Sem.run_bind, Sem.run_pure, Result.andThen_ok, run_undl hu]
        rw [if_pos (⟨by omega, by omega⟩ : (0 : Int) ≤ (n : Int) ∧ (n : Int) < (len : Int))]
        simp only [Sem.run_bind, run_size hs, Result.andThen_ok, Int.toNat_natCast, h2]
    · cases h
  · rename_i s v hu
    split at h
    · rename_i n hn
      obtain ⟨k, rfl⟩ := natOf_some hn (hy _ rfl)
      cases hb : allBytes s with
      | false => rw [hb] at h; cases h
      | true =>
        rw [hb] at h
        simp only [cond_true] at h
        split at h
        · rename_i b hs
          cases h
          obtain ⟨q, rfl, _⟩ := (hx _ rfl).inv_str
          have hq := str_bytes hb (hx _ rfl)
          have hlt : n < s.length := (List.getElem?_eq_some_iff.1 hs).1
          have hq2 : q.data.toList[n]? = some (UInt8.ofNat b) := by rw [hq]; simp [hs]
          have hsz : n < q.size := by
            have : q.data.toList.length = s.length := by rw [hq]; simp
            have h2 : q.size = q.data.toList.length := by cases q; rfl
            omega
          have hq3 : q[n]? = some (UInt8.ofNat b) := by
            have e : q[n]? = some q[n] := by simp [hsz]
            rw [e]
            have e2 : q.data.toList[n]? = some q[n] := by
              cases q with
              | mk d =>
              have hd : n < d.size := hsz
              show d.toList[n]? = _
              rw [Array.getElem?_toList, Array.getElem?_eq_getElem hd]
              rfl
            rw [e2] at hq2
            exact hq2
          have hb2 : b < 256 := (allBytes_iff s).1 hb b (List.mem_of_getElem? hs)
          refine ⟨_, .int .u8 (b : Int), rfl, .int .u8 (.lit (.ofNat b)), ?_⟩
          simp only [Instr.index, asIntOf, Sem.run_bind, Sem.run_pure, Result.andThen_ok, run_undl hu]
          rw [if_pos (by omega : (0 : Int) ≤ (n : Int)), Int.toNat_natCast, hq3]
          simp [UInt8.toNat_ofNat_of_lt' hb2]
        · cases h
    · cases h
  · cases h
end Go.Px
