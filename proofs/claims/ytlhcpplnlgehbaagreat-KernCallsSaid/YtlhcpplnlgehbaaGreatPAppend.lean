/- append, copy, clear. -/
import Derived.Test.YtlhcpplnlgehbaaGreatPWrite
namespace Go.Px
open Go Go.RowKit

variable {P : Program} {F : Facts} {V : Val} {B : Nat} {w0 w : World} {H : Hp}

theorem growBy_le (n : Nat) : ∀ r c, Builtin.growBy n r c ≤ max c (n + (n + 768) / 4) := by
  intro r
  induction r with
  | zero => intro c; simp only [Builtin.growBy]; omega
  | succ r ih =>
    intro c
    simp only [Builtin.growBy]
    split
    · omega
    · have := ih (c + (c + 768) / 4)
      omega

theorem nextcap_le {n c : Nat} (h : c < n) : Builtin.nextslicecap n c ≤ 2 * n + 768 := by
  unfold Builtin.nextslicecap
  split
  · omega
  · split
    · omega
    · have := growBy_le n 4 c
      omega

/-- An abstract block is given up. -/
theorem WRel.del (hW : WRel B w0 V H w) (i : Nat) : WRel B w0 V ⟨H.t.del i, H.next⟩ w := by
  have sub : ∀ id o, (H.t.del i).get id = some o → id ≠ i ∧ H.t.get id = some o := by
    intro id o h
    rw [Tr.get_del] at h
    split at h
    · cases h
    · rename_i hne; exact ⟨hne, h⟩
  refine ⟨hW.below, hW.size, fun id hid => ⟨(hW.next id hid).1, ?_⟩, hW.lt, fun id o b base S h1 h2 => hW.obj id o b base S (sub id o h1).2 h2, fun id id' o o' b b' ba ba' S S' h1 h2 => hW.inj id id' o o' b b' ba ba' S S' (sub id o h1).2 (sub id' o' h2).2, hW.fz⟩
  show (H.t.del i).get id = none
  rw [Tr.get_del, (hW.next id hid).2]
  simp

/-- A block that goes on under another number. -/
theorem WRel.alias (hW : WRel B w0 V H w) {w' : World} {i b base S base' S' : Nat} {o o' : AObj} {x' : Obj} (hb : V.blk i = some (b, base, S)) (ho : H.t.get i = some o)
    (hbel : Below B w w') (hsz : w'.heap.size = w.heap.size) (hother : ∀ k, k ≠ b → w'.heap[k]? = w.heap[k]?) (hx : w'.heap[b]? = some x') (hr : ORel V B o' b base' S' x') :
    WRel B w0 (V.bind H.next (b, base', S')) (Hp.alloc ⟨H.t.del i, H.next⟩ o') w' := by
  have hle := hW.bind_le (b, base', S')
  have old : ∀ id b1 a1 S1, (V.bind H.next (b, base', S')).blk id = some (b1, a1, S1) → (id = H.next ∧ b1 = b ∧ a1 = base' ∧ S1 = S') ∨ (id ≠ H.next ∧ V.blk id = some (b1, a1, S1)) := by
    intro id b1 a1 S1 h
    by_cases e : id = H.next
    · subst e; simp [Val.bind] at h; exact .inl ⟨rfl, h.1.symm, h.2.1.symm, h.2.2.symm⟩
    · simp [Val.bind, e] at h; exact .inr ⟨e, h⟩
  have oldo : ∀ id q, ((Hp.alloc ⟨H.t.del i, H.next⟩ o').t.get id = some q) → (id = H.next ∧ q = o') ∨ (id ≠ H.next ∧ id ≠ i ∧ H.t.get id = some q) := by
    intro id q h
    simp only [Hp.alloc, Tr.get_set, Tr.get_del] at h
    by_cases e : id = H.next
    · subst e; simp at h; exact .inl ⟨rfl, h.symm⟩
    · rw [if_neg e] at h
      split at h
      · cases h
      · rename_i hne; exact .inr ⟨e, hne, h⟩
  refine ⟨hW.below.trans hbel, by rw [hsz]; exact hW.size, ?_, ?_, ?_, ?_, fz_turn hW.fz hother hx hr⟩
  · intro id hid
    have hid' : H.next + 1 ≤ id := hid
    have h1 := hW.next id (by omega)
    refine ⟨by simp [Val.bind, show id ≠ H.next by omega, h1.1], ?_⟩
    simp only [Hp.alloc, Tr.get_set, Tr.get_del]
    rw [if_neg (by omega), h1.2]
    simp
  · intro id b1 a1 S1 h
    rw [hsz]
    rcases old id b1 a1 S1 h with ⟨_, rfl, _⟩ | ⟨_, h⟩
    · exact hW.lt i _ _ _ hb
    · exact hW.lt id _ _ _ h
  · intro id q b1 a1 S1 h1 h2
    rcases oldo id q h1 with ⟨rfl, rfl⟩ | ⟨hne, hni, h1'⟩
    · rcases old _ _ _ _ h2 with ⟨_, rfl, rfl, rfl⟩ | ⟨hne, _⟩
      · exact ⟨x', hx, hr.mono hle⟩
      · exact absurd rfl hne
    · rcases old _ _ _ _ h2 with ⟨e, _⟩ | ⟨_, h2'⟩
      · exact absurd e hne
      · obtain ⟨y, hy, hyr⟩ := hW.obj id q b1 a1 S1 h1' h2'
        exact ⟨y, by rw [hother b1 (hW.inj id i q o b1 b a1 base S1 S h1' ho h2' hb hni)]; exact hy, hyr.mono hle⟩
  · intro id id' q q' b1 b2 a1 a2 S1 S2 h1 h2 h3 h4 hne
    rcases oldo _ _ h1 with ⟨e1, _⟩ | ⟨n1, m1, h1'⟩ <;> rcases oldo _ _ h2 with ⟨e2, _⟩ | ⟨n2, m2, h2'⟩
    · omega
    · rcases old _ _ _ _ h3 with ⟨_, rfl, _⟩ | ⟨n3, _⟩
      · rcases old _ _ _ _ h4 with ⟨e4, _⟩ | ⟨_, h4'⟩
        · exact absurd e4 n2
        · exact (hW.inj id' i q' o b2 b1 a2 base S2 S h2' ho h4' hb m2).symm
      · exact absurd e1 n3
    · rcases old _ _ _ _ h4 with ⟨_, rfl, _⟩ | ⟨n3, _⟩
      · rcases old _ _ _ _ h3 with ⟨e4, _⟩ | ⟨_, h3'⟩
        · exact absurd e4 n1
        · exact hW.inj id i q o b1 b2 a1 base S1 S h1' ho h3' hb m1
      · exact absurd e2 n3
    · rcases old _ _ _ _ h3 with ⟨e, _⟩ | ⟨_, h3'⟩
      · exact absurd e n1
      · rcases old _ _ _ _ h4 with ⟨e, _⟩ | ⟨_, h4'⟩
        · exact absurd e n2
        · exact hW.inj id id' q q' b1 b2 a1 a2 S1 S2 h1' h2' h3' h4' hne

theorem lenOf_sound {x : AVal} {u : Value} {n : Nat} (hx : VRel V x u) (h : lenA x = some n) (w : World) : (Builtin.lenOf u).run P w = .ok n w := by
  unfold lenA at h
  split at h
  · cases h; cases hx <;> rfl
  · rename_i s
    obtain ⟨q, rfl, hq⟩ := hx.inv_str
    cases hb : allBytes s with
    | false => rw [hb] at h; cases h
    | true =>
      rw [hb] at h; cases h
      simp [Builtin.lenOf, str_size hb hq]
  · cases h


theorem firstA_sound (hW : WRel B w0 V H w) {x : AVal} {u : Value} {size n : Nat} {as : List AVal} (hx : VRel V x u) (h : firstA H size n x = some as) :
    ∃ vs, LRel V as vs ∧ (∀ u, u ∈ as → u.isCell = true) ∧ (∀ w' : World, w'.heap = w.heap → (Builtin.firstCells size n u).run P w' = .ok vs.toArray w') ∧ as.length = n * size := by
  unfold firstA at h
  split at h
  · rename_i i off len cap es
    cases hx with
    | slice _ _ _ _ _ b base S c hb hl hc hS =>
      cases hle : Nat.ble n len with
      | false => rw [hle] at h; cases h
      | true =>
        rw [hle] at h
        simp only [cond_true] at h
        obtain ⟨h1, h2, vs, h3, h4⟩ := read_rel hW hb h
        refine ⟨vs, h3, h2, fun w' hh => ?_, h1⟩
        have := run_loadCells_list (P := P) w' ⟨b, base + off, none⟩ vs (fun j v hj => by rw [← h4 j v hj]; simp only [World.cell?, hh])
        rw [← h3.length, h1] at this
        simpa [Builtin.firstCells] using this
  · cases hx
    cases hn : Nat.beq n 0 with
    | false => rw [hn] at h; cases h
    | true =>
      rw [hn] at h; cases h
      have := Nat.eq_of_beq_eq_true hn
      subst this
      exact ⟨[], .nil, fun u h => by simp at h, fun _ _ => rfl, by simp⟩
  · rename_i s
    obtain ⟨q, rfl, hq⟩ := hx.inv_str
    cases hb0 : allBytes s && (Nat.beq size 1 && Nat.ble n s.length) with
    | false => rw [hb0] at h; cases h
    | true =>
      rw [hb0] at h; cases h
      simp only [Bool.and_eq_true] at hb0
      obtain ⟨hb, hsz1, hnl⟩ := hb0
      have hsz1 := Nat.eq_of_beq_eq_true hsz1
      have hnl := Nat.le_of_ble_eq_true hnl
      subst hsz1
      have hq' := str_bytes hb hx
      rw [take_spec]
      have key : ∀ (l : List Nat), (∀ k, k ∈ l → k < 256) → LRel V (l.map fun b => AVal.int .u8 (.lit (.ofNat b))) ((l.map UInt8.ofNat).map fun b => Value.int .u8 (b.toNat : Int)) := by
        intro l
        induction l with
        | nil => intro _; exact .nil
        | cons x l ih =>
          intro hl
          refine .cons ?_ (ih fun k hk => hl k (by simp [hk]))
          have e : (UInt8.ofNat x).toNat = x := UInt8.toNat_ofNat_of_lt' (hl x (by simp))
          show VRel V (AVal.int .u8 (.lit (.ofNat x))) (.int .u8 ((UInt8.ofNat x).toNat : Int))
          have := VRel.int (V := V) .u8 (.lit (.ofNat x))
          rw [e]; exact this
      have hk := (key s ((allBytes_iff s).1 hb)).take n
      refine ⟨_, hk, fun u hu => ?_, fun _ _ => ?_, by simp; omega⟩
      · obtain ⟨b, _, rfl⟩ := List.mem_map.1 (List.mem_of_mem_take hu); rfl
      · simp only [Builtin.firstCells, Sem.run_pure]
        congr 1
        apply Array.toList_inj.1
        simp only [Array.toList_map, ByteArray.data_extract, Array.toList_extract, List.extract_eq_take_drop, List.drop_zero, Nat.sub_zero, hq', List.map_take]
  · cases h

theorem run_choose (q : Question) (w : World) : ∃ n w', (choose q).run P w = .ok n w' ∧ (w' = w ∨ w' = w.drew) ∧ (q.forced = false → n = q.cut (w.tape w.drawn q)) := by
  cases hf : q.forced with
  | true => exact ⟨0, w, by simp [choose, Sem.run, hf], .inl rfl, fun h => by cases h⟩
  | false => exact ⟨_, w.drew, by simp [choose, Sem.run, hf], .inr rfl, fun _ => rfl⟩

theorem WRel.drew (hW : WRel B w0 V H w) : WRel B w0 V H w.drew :=
  ⟨hW.below.drew, hW.size, hW.next, hW.lt, hW.obj, hW.inj, hW.fz⟩

theorem storeRow {b k0 : Nat} {el : TypeId} {arr : Array Value} {vs : List Value} (hx : w.heap[b]? = some (.cells arr el)) (hS : k0 + vs.length ≤ arr.size) (hone : ∀ v, v ∈ vs → v.oneCell' = true) :
    ∃ arr' : Array Value, (storeCells ⟨b, k0, none⟩ vs).run P w = .ok () (w.setRow b arr') ∧ arr'.size = arr.size ∧ ∀ k, arr'[k]? = if k0 ≤ k ∧ k < k0 + vs.length then vs[k - k0]? else arr[k]? := by
  have hrun := run_storeCells_at (P := P) b k0 el vs 0 arr w hx (by omega) hone
  simp only [Nat.add_zero] at hrun
  refine ⟨_, hrun, by simp; omega, fun k => ?_⟩
  have ht : (arr.toList.take k0).length = k0 := by simp; omega
  rw [List.getElem?_toArray]
  by_cases h1 : k < k0
  · rw [if_neg (by omega), List.append_assoc, List.getElem?_append_left (by omega), List.getElem?_take_of_lt h1, Array.getElem?_toList]
  · by_cases h2 : k < k0 + vs.length
    · rw [if_pos (by omega), List.append_assoc, List.getElem?_append_right (by omega), ht, List.getElem?_append_left (by omega)]
    · rw [if_neg (by omega), List.getElem?_append_right (by simp only [List.length_append, ht]; omega), List.getElem?_drop]
      simp only [List.length_append, ht]
      rw [show k0 + vs.length + (k - (k0 + vs.length)) = k by omega, Array.getElem?_toList]

theorem cells_one {as : List AVal} {vs : List Value} (hl : LRel V as vs) (hc : ∀ u, u ∈ as → u.isCell = true) : ∀ v, v ∈ vs → v.oneCell' = true := by
  intro v hv
  obtain ⟨j, hj⟩ := List.mem_iff_getElem?.1 hv
  have hll := hl.length
  have hjl : j < as.length := by have := (List.getElem?_eq_some_iff.1 hj).1; omega
  exact oneCell_of (hl.pt j (as[j]'hjl) v (by simp [hjl]) hj) (hc _ (List.getElem_mem hjl))

theorem appendA_sound (hW : WRel B w0 V H w) {ts : Array TypeId} {ty : TypeId} {args : List AVal} {us : Array Value} (hl : LRel V args us.toList) {r : ANext} (h : appendA P ts.toList H args = some r) :
    ∃ v H' V' w' v', r = .val v H' ∧ Ext V V' H H' ∧ WRel B w0 V' H' w' ∧ VRel V' v v' ∧ (Builtin.append_ ts ty us).run P w = .ok v' w' := by
  unfold appendA at h
  split at h
  case h_2 => cases h
  rename_i t xt ts' s x as hts
  obtain ⟨su, hs0, hs⟩ := hl.at 0 s rfl
  obtain ⟨xu, hx0, hx⟩ := hl.at 1 x rfl
  rw [Array.getElem?_toList] at hs0 hx0
  have ht0 : ts[0]? = some t := by have : ts.toList[0]? = some t := by rw [hts]; rfl
                                   simpa using this
  have ht1 : ts[1]? = some xt := by have : ts.toList[1]? = some xt := by rw [hts]; rfl
                                    simpa using this
  split at h
  case h_2 => cases h
  rename_i e xe hu hxu
  split at h
  case h_2 => cases h
  rename_i size bytes z a len cap es n hsz hby hz hn
  obtain ⟨zv, rz, hzr⟩ := run_zero (P := P) hz
  obtain ⟨ti, hti, htb⟩ := bytesOf_info hby
  cases hb : Nat.beq z.cells.length size && Nat.ble (len + n) mostLen && Nat.ble bytes mostLen with
  | false => rw [hb] at h; cases h
  | true =>
  rw [hb] at h
  simp only [cond_true] at h
  simp only [Bool.and_eq_true] at hb
  have hb1 := Nat.eq_of_beq_eq_true hb.1.1
  have hb2 := Nat.le_of_ble_eq_true hb.1.2
  have hb3 := Nat.le_of_ble_eq_true hb.2
  have hzsz : zv.cells.size = size := by rw [(hzr V).cells_size, hb1]
  split at h
  case h_1 => cases h
  rename_i new hnew
  obtain ⟨vs, hvl, hvc, hvr, _⟩ := firstA_sound (P := P) hW hx hnew
  have hlenr := lenOf_sound (P := P) hx hn w
  -- the run up to the parting
  have room : ∀ c bs, c < len + n → su = .slice bs len c → ∀ (old : List Value), (∀ w' : World, w'.heap = w.heap → (Builtin.firstCells size len su).run P w' = .ok old.toArray w') →
      ∃ w' c' rest, (w' = w ∨ w' = w.drew) ∧ len + n ≤ c' ∧ rest.length = (c' - (len + n)) * size ∧ (Builtin.append_ ts ty us).run P w = .ok (.slice (some ⟨w'.heap.size, 0, none⟩) (len + n) c') (w'.alloc (.cells (old ++ vs ++ rest).toArray e)) := by
    intro c bs hc hsu old hold
    obtain ⟨c', w', hch, hw', hcv⟩ := run_choose (P := P) (.appendCap (len + n) c e) w
    have hc' : len + n ≤ c' := by
      rw [hcv rfl]
      simp only [Question.cut]
      omega
    have hh : w'.heap = w.heap := by rcases hw' with rfl | rfl <;> rfl
    have h1 := hold w' hh
    have h2 := hvr w' hh
    refine ⟨w', c', (Builtin.zeroCells zv.cells (c' - (len + n))).toList, hw', hc', by simp [Builtin.zeroCells, hzsz], ?_⟩
    have hm : (IntKind.i64.max : Int) = 9223372036854775807 := by decide
    have g1 : ¬ (((len + n : Nat) : Int) > IntKind.i64.max ∧ (False ∨ bytes = 0)) := by
      rw [hm]; unfold mostLen at hb2; omega
    have g2 : ¬ (Builtin.nextslicecap (len + n) c * bytes > 2 ^ 48) := by
      have a1 := nextcap_le hc
      have a2 : Builtin.nextslicecap (len + n) c * bytes ≤ (2 * mostLen + 768) * mostLen := Nat.mul_le_mul (by omega) hb3
      have a3 : (2 * mostLen + 768) * mostLen = 2199828561920 := by decide
      simp only [Nat.reducePow]
      omega
    subst hsu
    simp only [Builtin.append_, ht0, hs0, hx0, ht1, Sem.run_bind, run_undl hu, run_undl hxu, Result.andThen_ok, run_size hsz, Sem.run_pure, Bool.false_eq_true, if_false, hlenr]
    rw [if_neg (by omega)]
    simp only [Sem.run_bind, run_typeInfo hti, Result.andThen_ok, htb]
    rw [if_neg g1]
    simp only [Sem.run_bind, run_typeInfo hti, Result.andThen_ok, htb]
    rw [if_neg g2]
    simp only [Sem.run_bind, hch, Result.andThen_ok, run_typeInfo hti, run_askRoom, h1, h2, rz, Bool.not_false, if_true, Go.newRow, run_newObj, Sem.run_pure]
    congr 3
    simp
  have inplace : ∀ c bs, len + n ≤ c → su = .slice bs len c → ∀ w', (match bs with
        | some a => storeCells (a.add (len * size)) vs
        | none => pure () : Sem Unit).run P w = .ok () w' → (Builtin.append_ ts ty us).run P w = .ok (.slice bs (len + n) c) w' := by
    intro c bs hc hsu w' hst
    subst hsu
    simp only [Builtin.append_, ht0, hs0, hx0, ht1, Sem.run_bind, run_undl hu, run_undl hxu, Result.andThen_ok, run_size hsz, Sem.run_pure, Bool.false_eq_true, if_false, hlenr]
    rw [if_pos hc]
    simp only [Bool.not_false, if_true, Sem.run_bind, hvr w rfl, Result.andThen_ok]
    cases bs with
    | none => simp only [Sem.run_pure, Result.ok.injEq, true_and] at hst; subst hst; simp
    | some a =>
      simp only at hst
      simp only [Sem.run_bind]
      rw [hst]
      rfl
  have hnl : new.length = vs.length := hvl.length
  have hnn : new.length = n * size := by assumption
  -- into a new row
  have fresh : ∀ (w' : World) (c' : Nat) (old : List AVal) (oldv rest : List Value) (H1 : Hp), WRel B w0 V H1 w' → H1.next = H.next → len + n ≤ c' → rest.length = (c' - (len + n)) * size → LRel V old oldv → (∀ u, u ∈ old → u.isCell = true) → old.length = len * size →
      (Ext V V H H1 → Ext V (V.bind H.next (w'.heap.size, 0, c' * size)) H (newRowH H1 (old ++ new))) ∧ WRel B w0 (V.bind H.next (w'.heap.size, 0, c' * size)) (newRowH H1 (old ++ new)) (w'.alloc (.cells (oldv ++ vs ++ rest).toArray e)) ∧ VRel (V.bind H.next (w'.heap.size, 0, c' * size)) (.slice (some (H.next, 0)) (len + n) none size) (.slice (some ⟨w'.heap.size, 0, none⟩) (len + n) c') := by
    intro w' c' old oldv rest H1 hW1 hH1 hc' hrl ho hoc hol
    have hS : c' * size = (old ++ new).length + rest.length := by
      rw [List.length_append, hol, hnn, hrl, ← Nat.add_mul, ← Nat.add_mul]
      congr 1; omega
    have hrow := newRow_rel (B := B) (ho.append hvl) (fun u hu => by rcases List.mem_append.1 hu with h | h; exact hoc u h; exact hvc u h) w'.heap.size (c' * size) e rest hW1.size hS
    have hal := hW1.alloc hrow
    rw [hH1] at hal
    refine ⟨fun hE => hE.trans (by have := hW1.extAlloc (newRow (old ++ new)) (w'.heap.size, 0, c' * size); rw [hH1] at this; exact this), hal, ?_⟩
    have := VRel.slice (V := V.bind H.next (w'.heap.size, 0, c' * size)) H.next 0 (len + n) none size w'.heap.size 0 (c' * size) c' (Val.bind_at _ _ _) hc' (fun k h => by cases h) (by omega)
    simpa using this
  have keep : ∀ w', (w' = w ∨ w' = w.drew) → WRel B w0 V H w' := by
    rintro w' (rfl | rfl)
    · exact hW
    · exact hW.drew
  split at h
  · -- nil
    cases hs with
    | sliceN =>
      cases hn0 : Nat.beq n 0 with
      | true =>
        rw [hn0] at h; cases h
        have := Nat.eq_of_beq_eq_true hn0
        subst this
        exact ⟨_, _, V, w, _, rfl, .refl V H, hW, .sliceN es, inplace 0 none (by omega) rfl w (by simp)⟩
      | false =>
        rw [hn0] at h; cases h
        have hn0 : n ≠ 0 := fun e => by subst e; cases hn0
        obtain ⟨w', c', rest, hw', hc', hrl, hrun⟩ := room 0 none (by omega) rfl [] (fun w' _ => by simp [Builtin.firstCells])
        obtain ⟨f1, f2, f3⟩ := fresh w' c' [] [] rest H (keep w' hw') rfl hc' hrl .nil (by simp) (by simp)
        exact ⟨_, _, _, _, _, rfl, f1 (.refl V H), f2, f3, hrun⟩
  · -- the room unknown
    rename_i i off
    cases hs with
    | slice _ _ _ _ _ b base S c hbk hlc hcc hSS =>
    cases hn0 : Nat.beq n 0 with
    | true =>
      rw [hn0] at h; cases h
      have := Nat.eq_of_beq_eq_true hn0
      subst this
      have hv0 : vs = [] := List.eq_nil_of_length_eq_zero (by omega)
      refine ⟨_, _, V, w, _, rfl, .refl V H, hW, .slice i off len none es b base S c hbk hlc hcc hSS, inplace c _ (by omega) rfl w ?_⟩
      subst hv0
      simp [storeCells]
    | false =>
    rw [hn0] at h
    simp only [cond_false] at h
    cases hes : Nat.beq es size with
    | false => rw [hes] at h; cases h
    | true =>
    rw [hes] at h
    have := Nat.eq_of_beq_eq_true hes
    subst this
    simp only [cond_true] at h
    split at h
    case h_2 => cases h
    rename_i rows hrows
    cases hr : Nat.beq (off + len * es) rows with
    | false => rw [hr] at h; cases h
    | true =>
    rw [hr] at h
    simp only [cond_true] at h
    split at h
    case h_2 => cases h
    rename_i old hold
    cases h
    have hr := Nat.eq_of_beq_eq_true hr
    obtain ⟨ro1, ro2, oldv, ro3, ro4⟩ := read_rel hW hbk hold
    have roll := ro3.length
    by_cases hroom : len + n ≤ c
    · -- in place
      unfold Hp.rowW at hrows
      split at hrows
      case h_2 => cases hrows
      rename_i cc m ho
      cases hrows
      obtain ⟨xo, hxo, hor⟩ := hW.obj i _ b base S ho hbk
      cases hor with
      | cells _ _ _ _ _ _ arr el fz hrw hfz hS' hn' hall hcs =>
      obtain ⟨rfl, hB⟩ := hrw rfl
      have hone := cells_one hvl hvc
      have hfit : (len + n) * es ≤ c * es := Nat.mul_le_mul_right _ hroom
      rw [Nat.add_mul] at hfit
      obtain ⟨arr', hst, hsz', harr'⟩ := storeRow (P := P) (k0 := base + (off + len * es)) hxo (by omega) hone
      have hbel : Below B w (w.setRow b arr') := ⟨rfl, rfl, rfl, by simp [World.setRow], fun k hk => setRow_other w b k _ (by omega)⟩
      have hors : ORel V B (newRow (old ++ new)) b (base + off) (S - off) (.cells arr' el) := by
        have hlen : (old ++ new).length = len * es + n * es := by rw [List.length_append, ro1, hnn]
        refine .cells true _ _ b (base + off) (S - off) arr' el (0, 0) (fun _ => ⟨rfl, hB⟩) (fun _ => rfl) (by rw [hsz']; omega) (by omega) (fun j hj => ?_) (fun j q hq => ?_)
        · rw [Tr.get_ofList, if_pos (by omega)]
          exact ⟨(old ++ new)[j]'hj, by simp only [Nat.sub_zero]; exact List.getElem?_eq_getElem hj⟩
        · rw [Tr.get_ofList] at hq
          split at hq
          · rename_i hj
            simp only [Nat.sub_zero] at hq
            have hjl : j < (old ++ new).length := (List.getElem?_eq_some_iff.1 hq).1
            by_cases hjo : j < old.length
            · rw [List.getElem?_append_left hjo] at hq
              obtain ⟨v, h1, h2⟩ := ro3.at j q hq
              refine ⟨by omega, ro2 q (List.mem_of_getElem? hq), v, ?_, h2⟩
              rw [harr', if_neg (by omega)]
              have := ro4 j v h1
              simpa [World.cell?, hxo, addr_add] using this
            · rw [List.getElem?_append_right (by omega)] at hq
              obtain ⟨v, h1, h2⟩ := hvl.at _ q hq
              refine ⟨by omega, hvc q (List.mem_of_getElem? hq), v, ?_, h2⟩
              have hjv : j - old.length < vs.length := (List.getElem?_eq_some_iff.1 h1).1
              rw [harr', if_pos (by omega), ← h1]
              congr 1; omega
          · rw [Tr.get_nil] at hq; cases hq
      have hal := hW.alias (base' := base + off) (S' := S - off) hbk ho hbel (by simp [World.setRow]) (fun k hk => setRow_other w b k _ hk) (setRow_heap w b arr _ el (0, 0) hxo) hors
      refine ⟨_, _, _, _, _, rfl, (Ext.del hbk).trans ((hW.del i).extAlloc (newRow (old ++ new)) (b, base + off, S - off)), hal, ?_, inplace c _ hroom rfl _ (by simp only [addr_add]; rw [Nat.add_assoc]; exact hst)⟩
      have := VRel.slice (V := V.bind H.next (b, base + off, S - off)) H.next 0 (len + n) none es b (base + off) (S - off) c (Val.bind_at _ _ _) hroom (fun k h => by cases h) (by omega)
      simpa using this
    · obtain ⟨w', c', rest, hw', hc', hrl, hrun⟩ := room c _ (by omega) rfl oldv (fun w' hh => by
        have := run_loadCells_list (P := P) w' ⟨b, base + off, none⟩ oldv (fun j v hj => by rw [← ro4 j v hj]; simp only [World.cell?, hh])
        rw [← roll, ro1] at this
        simpa [Builtin.firstCells] using this)
      obtain ⟨f1, f2, f3⟩ := fresh w' c' old oldv rest ⟨H.t.del i, H.next⟩ ((keep w' hw').del i) rfl hc' hrl ro3 ro2 ro1
      exact ⟨_, _, _, _, _, rfl, f1 (.del hbk), f2, f3, hrun⟩
  · -- the room known
    rename_i i off ck
    cases hs with
    | slice _ _ _ _ _ b base S c hbk hlc hcc hSS =>
    have := hcc _ rfl
    subst this
    cases hroom : Nat.ble (len + n) c with
    | true =>
      rw [hroom] at h
      simp only [cond_true] at h
      split at h
      case h_2 => cases h
      rename_i H' hwr
      cases h
      have hroom := Nat.le_of_ble_eq_true hroom
      obtain ⟨w', hst, hW'⟩ := write_sound (P := P) hW hbk hwr hvl
      refine ⟨_, _, V, w', _, rfl, hW'.2, hW'.1, ?_, inplace c _ hroom rfl _ (by simp only [addr_add]; rw [Nat.add_assoc]; exact hst)⟩
      exact .slice i off (len + n) _ es b base S c hbk hroom hcc hSS
    | false =>
      rw [hroom] at h
      simp only [cond_false] at h
      have hroom : ¬ len + n ≤ c := fun e => by rw [Nat.ble_eq_true_of_le e] at hroom; cases hroom
      split at h
      case h_2 => cases h
      rename_i old hold
      cases h
      obtain ⟨ro1, ro2, oldv, ro3, ro4⟩ := read_rel hW hbk hold
      have roll := ro3.length
      obtain ⟨w', c', rest, hw', hc', hrl, hrun⟩ := room c _ (by omega) rfl oldv (fun w' hh => by
        have := run_loadCells_list (P := P) w' ⟨b, base + off, none⟩ oldv (fun j v hj => by rw [← ro4 j v hj]; simp only [World.cell?, hh])
        rw [← roll, ro1] at this
        simpa [Builtin.firstCells] using this)
      obtain ⟨f1, f2, f3⟩ := fresh w' c' old oldv rest H (keep w' hw') rfl hc' hrl ro3 ro2 ro1
      exact ⟨_, _, _, _, _, rfl, f1 (.refl V H), f2, f3, hrun⟩
end Go.Px
