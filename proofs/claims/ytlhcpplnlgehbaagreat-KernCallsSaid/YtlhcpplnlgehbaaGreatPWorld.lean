/- Reading, making and writing blocks: the abstract heap beside the model's world. -/
import Derived.Test.YtlhcpplnlgehbaaGreatPRel
import Derived.Laws.Entries
import Derived.Laws.Cells
import Derived.Laws.CopyRow
import Derived.LoopTactic
namespace Go.Px
open Go Go.RowKit

variable {P : Program} {F : Facts} {V : Val} {B : Nat} {w0 w : World} {H : Hp}

theorem addr_add (b o n : Nat) : (⟨b, o, none⟩ : Addr).add n = ⟨b, o + n, none⟩ := Addr.add_lit b o n

/-! ### reading -/
theorem read1_rel (hW : WRel B w0 V H w) {i off b base S : Nat} {a : AVal} (hb : V.blk i = some (b, base, S)) (h : H.read1 i off = some a) :
    ∃ v, w.cell? ⟨b, base + off, none⟩ = some v ∧ VRel V a v ∧ a.isCell = true := by
  unfold Hp.read1 at h
  split at h
  · rename_i rw c n ho
    obtain ⟨x, hx, hr⟩ := hW.obj i _ b base S ho hb
    cases hr with
    | cells _ _ _ _ _ _ arr el fz hrw hfz hS hn hall hc =>
      obtain ⟨h1, h2, v, h3, h4⟩ := hc off a h
      exact ⟨v, by simp [World.cell?, hx, h3], h4, h2⟩
  · cases h

theorem readFrom_succ (c : Tr AVal) (i n : Nat) : readFrom c i (n + 1) = (match c.get i with
    | none => none
    | some v => match readFrom c (i + 1) n with
      | none => none
      | some vs => some (v :: vs)) := by
  show Option.rec (motive := fun _ => Option (List AVal)) none (fun v => Option.rec (motive := fun _ => Option (List AVal)) none (fun vs => some (v :: vs)) (readFrom c (i + 1) n)) (c.get i) = _
  cases c.get i with
  | none => rfl
  | some v => cases readFrom c (i + 1) n <;> rfl

theorem readFrom_spec (c : Tr AVal) : ∀ (n i : Nat) (vs : List AVal), readFrom c i n = some vs → vs.length = n ∧ ∀ (j : Nat) v, vs[j]? = some v → c.get (i + j) = some v := by
  intro n
  induction n with
  | zero => intro i vs h; have : some ([] : List AVal) = some vs := h; cases this; exact ⟨rfl, fun j v h => by simp at h⟩
  | succ n ih =>
    intro i vs h
    rw [readFrom_succ] at h
    cases h1 : c.get i with
    | none => rw [h1] at h; cases h
    | some v =>
      rw [h1] at h
      cases h2 : readFrom c (i + 1) n with
      | none => rw [h2] at h; cases h
      | some us =>
        rw [h2] at h
        cases h
        obtain ⟨h3, h4⟩ := ih (i + 1) us h2
        refine ⟨by simp [h3], fun j u hu => ?_⟩
        cases j with
        | zero => simp at hu; subst hu; exact h1
        | succ j => simp at hu; rw [show i + (j + 1) = i + 1 + j by omega]; exact h4 j u hu

theorem read_rel (hW : WRel B w0 V H w) {i off b base S n : Nat} {as : List AVal} (hb : V.blk i = some (b, base, S)) (h : H.read i off n = some as) :
    as.length = n ∧ (∀ u, u ∈ as → u.isCell = true) ∧ ∃ vs, LRel V as vs ∧ ∀ j v, vs[j]? = some v → w.cell? ((⟨b, base + off, none⟩ : Addr).add j) = some v := by
  unfold Hp.read at h
  split at h
  · rename_i rw c m ho
    obtain ⟨x, hx, hr⟩ := hW.obj i _ b base S ho hb
    cases hr with
    | cells _ _ _ _ _ _ arr el fz hrw hfz hS hn hall hc =>
      obtain ⟨hl, hg⟩ := readFrom_spec c n off as h
      refine ⟨hl, fun u hu => ?_, ?_⟩
      · obtain ⟨j, hj⟩ := List.mem_iff_getElem?.1 hu
        exact (hc _ _ (hg j u hj)).2.1
      · refine ⟨(List.range n).map fun j => arr.getD (base + (off + j)) undef, ?_, ?_⟩
        · refine LRel.of (by simp [hl]) fun j u v hu hv => ?_
          obtain ⟨_, _, v', h3, h4⟩ := hc _ _ (hg j u hu)
          have hj : j < n := by have := (List.getElem?_eq_some_iff.1 hu).1; omega
          simp [hj] at hv
          rw [h3] at hv
          simp at hv
          subst hv
          exact h4
        · intro j v hv
          rw [addr_add]
          by_cases hj : j < n
          · simp [hj] at hv
            obtain ⟨a, ha⟩ : ∃ a, as[j]? = some a := ⟨as[j]'(by omega), List.getElem?_eq_getElem (by omega)⟩
            obtain ⟨_, _, v', h3, h4⟩ := hc _ _ (hg j a ha)
            rw [h3] at hv
            simp at hv
            subst hv
            simp [World.cell?, hx, Nat.add_assoc, h3]
          · simp [hj] at hv
  · cases h

/-! ### a new block -/
def Val.bind (V : Val) (id : Nat) (x : Nat × Nat × Nat) : Val := ⟨V.ρ, fun i => if i = id then some x else V.blk i⟩

theorem Val.bind_le {i : Nat} (hn : V.blk i = none) (x : Nat × Nat × Nat) : V.le (V.bind i x) :=
  ⟨rfl, fun id y h => by
    have : id ≠ i := fun e => by rw [e, hn] at h; cases h
    simp [Val.bind, this, h]⟩

theorem WRel.bind_le (hW : WRel B w0 V H w) (x : Nat × Nat × Nat) : V.le (V.bind H.next x) := Val.bind_le (hW.next _ (Nat.le_refl _)).1 x

theorem heap_alloc_lt (w : World) (x : Obj) (k : Nat) (h : k < w.heap.size) : (w.alloc x).heap[k]? = w.heap[k]? := Below.heap_alloc w x k h
theorem heap_alloc_at (w : World) (x : Obj) : (w.alloc x).heap[w.heap.size]? = some x := by show (w.heap.push x)[w.heap.size]? = _; simp

theorem heap_alloc_ne (w : World) (x : Obj) (k : Nat) (h : k ≠ w.heap.size) : (w.alloc x).heap[k]? = w.heap[k]? := by
  show (w.heap.push x)[k]? = _
  rw [Array.getElem?_push, if_neg h]
theorem fz_turn {w' : World} {b base S : Nat} {o : AObj} {x' : Obj} (hf : ∀ b arr el z, B ≤ b → w.heap[b]? = some (.cells arr el z) → z = (0, 0)) (hother : ∀ k, k ≠ b → w'.heap[k]? = w.heap[k]?)
    (hx : w'.heap[b]? = some x') (hr : ORel V B o b base S x') : ∀ b arr el z, B ≤ b → w'.heap[b]? = some (.cells arr el z) → z = (0, 0) := by
  intro b' arr el z hB h
  by_cases e : b' = b
  · subst e
    rw [hx] at h
    cases h
    cases hr with
    | cells _ _ _ _ _ _ _ _ _ _ hfz => exact hfz hB
  · rw [hother b' e] at h
    exact hf b' arr el z hB h

theorem WRel.alloc (hW : WRel B w0 V H w) {o : AObj} {x : Obj} {base S : Nat} (ho : ORel V B o w.heap.size base S x) :
    WRel B w0 (V.bind H.next (w.heap.size, base, S)) (H.alloc o) (w.alloc x) := by
  have hle := hW.bind_le (w.heap.size, base, S)
  have old : ∀ id b base' S', (V.bind H.next (w.heap.size, base, S)).blk id = some (b, base', S') → (id = H.next ∧ b = w.heap.size ∧ base' = base ∧ S' = S) ∨ (id ≠ H.next ∧ V.blk id = some (b, base', S') ∧ b < w.heap.size) := by
    intro id b base' S' h
    by_cases e : id = H.next
    · subst e; simp [Val.bind] at h; exact .inl ⟨rfl, h.1.symm, h.2.1.symm, h.2.2.symm⟩
    · simp [Val.bind, e] at h; exact .inr ⟨e, h, hW.lt _ _ _ _ h⟩
  have oldo : ∀ id o', (H.alloc o).t.get id = some o' → (id = H.next ∧ o' = o) ∨ (id ≠ H.next ∧ H.t.get id = some o') := by
    intro id o' h
    simp only [Hp.alloc, Tr.get_set] at h
    by_cases e : id = H.next
    · subst e; simp at h; exact .inl ⟨rfl, h.symm⟩
    · rw [if_neg e] at h; exact .inr ⟨e, h⟩
  refine ⟨hW.below.alloc hW.size x, by simp; have := hW.size; omega, ?_, ?_, ?_, ?_, fz_turn hW.fz (fun k hk => heap_alloc_ne w x k hk) (heap_alloc_at w x) ho⟩
  · intro id hid
    have hid' : H.next + 1 ≤ id := hid
    have h1 := hW.next id (by omega)
    exact ⟨by simp [Val.bind, show id ≠ H.next by omega, h1.1], by simp only [Hp.alloc, Tr.get_set]; rw [if_neg (by omega)]; exact h1.2⟩
  · intro id b base' S' h
    rcases old id b base' S' h with ⟨_, rfl, _⟩ | ⟨_, _, h⟩ <;> simp <;> omega
  · intro id o' b base' S' h1 h2
    rcases old id b base' S' h2 with ⟨rfl, rfl, rfl, rfl⟩ | ⟨hne, h2', hlt⟩
    · rcases oldo _ _ h1 with ⟨_, rfl⟩ | ⟨hne, _⟩
      · exact ⟨x, heap_alloc_at w x, ho.mono hle⟩
      · exact absurd rfl hne
    · rcases oldo _ _ h1 with ⟨rfl, _⟩ | ⟨_, h1'⟩
      · exact absurd rfl hne
      · obtain ⟨y, hy, hr⟩ := hW.obj id o' b base' S' h1' h2'
        exact ⟨y, by rw [heap_alloc_lt w x b hlt]; exact hy, hr.mono hle⟩
  · intro id id' o1 o2 b b' base1 base2 S1 S2 h1 h2 h3 h4 hne
    rcases old _ _ _ _ h3 with ⟨rfl, rfl, _⟩ | ⟨hn1, h3', hlt1⟩ <;> rcases old _ _ _ _ h4 with ⟨rfl, rfl, _⟩ | ⟨hn2, h4', hlt2⟩
    · exact absurd rfl hne
    · omega
    · omega
    · rcases oldo _ _ h1 with ⟨e, _⟩ | ⟨_, h1'⟩
      · exact absurd e hn1
      · rcases oldo _ _ h2 with ⟨e, _⟩ | ⟨_, h2'⟩
        · exact absurd e hn2
        · exact hW.inj id id' o1 o2 b b' base1 base2 S1 S2 h1' h2' h3' h4' hne

theorem Val.bind_at (V : Val) (id : Nat) (x : Nat × Nat × Nat) : (V.bind id x).blk id = some x := by simp [Val.bind]

/-- A row of new cells. -/
theorem newRow_rel {as : List AVal} {vs : List Value} (h : LRel V as vs) (hc : ∀ u, u ∈ as → u.isCell = true) (b S : Nat) (el : TypeId) (rest : List Value) (hB : B ≤ b)
    (hS : S = as.length + rest.length) : ORel V B (newRow as) b 0 S (.cells (vs ++ rest).toArray el) := by
  have hl := h.length
  refine .cells true _ _ b 0 S _ el (0, 0) (fun _ => ⟨rfl, hB⟩) (fun _ => rfl) (by simp [hS, hl]) (by omega) (fun i hi => ?_) (fun i a ha => ?_)
  · rw [Tr.get_ofList, if_pos (by omega)]
    exact ⟨as[i]'hi, by simp [hi]⟩
  · rw [Tr.get_ofList] at ha
    split at ha
    · rename_i hi
      have ha' : as[i]? = some a := by simpa using ha
      obtain ⟨v, h1, h2⟩ := h.at i a ha'
      have hlt : i < vs.length := (List.getElem?_eq_some_iff.1 h1).1
      exact ⟨by omega, hc a (List.mem_of_getElem? ha'), v, by simp [List.getElem?_append_left hlt, h1], h2⟩
    · rw [Tr.get_nil] at ha; cases ha

/-! ### a block written -/
theorem WRel.put (hW : WRel B w0 V H w) {w' : World} {id b base S : Nat} {o o' : AObj} {x' : Obj} (hb : V.blk id = some (b, base, S)) (ho : H.t.get id = some o)
    (hbel : Below B w w') (hsz : w'.heap.size = w.heap.size) (hother : ∀ k, k ≠ b → w'.heap[k]? = w.heap[k]?) (hx : w'.heap[b]? = some x') (hr : ORel V B o' b base S x') :
    WRel B w0 V (H.put id o') w' := by
  have oldo : ∀ i q, (H.put id o').t.get i = some q → (i = id ∧ q = o') ∨ (i ≠ id ∧ H.t.get i = some q) := by
    intro i q h
    simp only [Hp.put, Tr.get_set] at h
    by_cases e : i = id
    · subst e; simp at h; exact .inl ⟨rfl, h.symm⟩
    · rw [if_neg e] at h; exact .inr ⟨e, h⟩
  have some' : ∀ i q, (H.put id o').t.get i = some q → ∃ q', H.t.get i = some q' := by
    intro i q h
    rcases oldo i q h with ⟨rfl, _⟩ | ⟨_, h⟩
    · exact ⟨o, ho⟩
    · exact ⟨q, h⟩
  refine ⟨hW.below.trans hbel, by rw [hsz]; exact hW.size, ?_, fun i b' ba S' h => by rw [hsz]; exact hW.lt i b' ba S' h, ?_, ?_, fz_turn hW.fz hother hx hr⟩
  · intro i hi
    have h1 := hW.next i hi
    refine ⟨h1.1, ?_⟩
    simp only [Hp.put, Tr.get_set]
    by_cases e : i = id
    · subst e; rw [h1.1] at hb; cases hb
    · rw [if_neg e]; exact h1.2
  · intro i q b' ba S' h1 h2
    rcases oldo i q h1 with ⟨rfl, rfl⟩ | ⟨hne, h1'⟩
    · rw [hb] at h2; cases h2
      exact ⟨x', hx, hr⟩
    · obtain ⟨y, hy, hyr⟩ := hW.obj i q b' ba S' h1' h2
      exact ⟨y, by rw [hother b' (hW.inj i id q o b' b ba base S' S h1' ho h2 hb hne)]; exact hy, hyr⟩
  · intro i j q1 q2 b1 b2 a1 a2 S1 S2 h1 h2 h3 h4 hne
    obtain ⟨q1', h1'⟩ := some' i q1 h1
    obtain ⟨q2', h2'⟩ := some' j q2 h2
    exact hW.inj i j q1' q2' b1 b2 a1 a2 S1 S2 h1' h2' h3 h4 hne

/-! ### what later heaps keep -/
/-- A later valuation and heap: nothing old is bound anew, and a block that stands for none stays as it is. -/
structure Ext (V V' : Val) (H H' : Hp) : Prop where
  le : V.le V'
  old : ∀ id, id < H.next → V'.blk id = V.blk id
  next : H.next ≤ H'.next
  ghost : ∀ id, id < H.next → V.blk id = none → H'.t.get id = H.t.get id

theorem Ext.refl (V : Val) (H : Hp) : Ext V V H H := ⟨.refl V, fun _ _ => rfl, Nat.le_refl _, fun _ _ _ => rfl⟩
theorem Ext.trans {V V' V'' : Val} {H H' H'' : Hp} (h : Ext V V' H H') (h' : Ext V' V'' H' H'') : Ext V V'' H H'' :=
  ⟨h.le.trans h'.le, fun id hi => by rw [h'.old id (Nat.lt_of_lt_of_le hi h.next), h.old id hi], Nat.le_trans h.next h'.next,
    fun id hi hn => by rw [h'.ghost id (Nat.lt_of_lt_of_le hi h.next) (by rw [h.old id hi]; exact hn), h.ghost id hi hn]⟩
theorem Ext.put {i : Nat} {x : Nat × Nat × Nat} (hb : V.blk i = some x) (o : AObj) : Ext V V H (H.put i o) :=
  ⟨.refl V, fun _ _ => rfl, Nat.le_refl _, fun id _ hn => by
    simp only [Hp.put, Tr.get_set]
    rw [if_neg (fun e => by subst e; rw [hb] at hn; cases hn)]⟩
theorem WRel.extAlloc (hW : WRel B w0 V H w) (o : AObj) (x : Nat × Nat × Nat) : Ext V (V.bind H.next x) H (H.alloc o) :=
  ⟨hW.bind_le x, fun id hi => by simp [Val.bind, show id ≠ H.next by omega], Nat.le_succ _, fun id hi _ => by
    simp only [Hp.alloc, Tr.get_set]; rw [if_neg (by omega)]⟩
theorem Ext.del {i : Nat} {x : Nat × Nat × Nat} (hb : V.blk i = some x) : Ext V V H ⟨H.t.del i, H.next⟩ :=
  ⟨.refl V, fun _ _ => rfl, Nat.le_refl _, fun id _ hn => by
    show (H.t.del i).get id = _
    rw [Tr.get_del, if_neg (fun e => by subst e; rw [hb] at hn; cases hn)]⟩
theorem WRel.putE (hW : WRel B w0 V H w) {w' : World} {id b base S : Nat} {o o' : AObj} {x' : Obj} (hb : V.blk id = some (b, base, S)) (ho : H.t.get id = some o)
    (hbel : Below B w w') (hsz : w'.heap.size = w.heap.size) (hother : ∀ k, k ≠ b → w'.heap[k]? = w.heap[k]?) (hx : w'.heap[b]? = some x') (hr : ORel V B o' b base S x') :
    WRel B w0 V (H.put id o') w' ∧ Ext V V H (H.put id o') := ⟨hW.put hb ho hbel hsz hother hx hr, .put hb o'⟩

theorem setRow_other (w : World) (b k : Nat) (arr : Array Value) (h : k ≠ b) : (w.setRow b arr).heap[k]? = w.heap[k]? := by
  simp only [World.setRow, Array.getElem?_modify]
  rw [if_neg (Ne.symm h)]
end Go.Px
