/- A call whose arguments hold no place, run by itself: its contract as a hook in any heap. -/
import Derived.Test.YtlhcpplnlgehbaaGreatPJit4
namespace Go.Px
open Go Go.RowKit

noncomputable section
def shA (N : Nat) (a : Option (Nat × Nat)) : Option (Nat × Nat) := match a with
  | some (i, o) => some (N + i, o)
  | none => none
def shN (N : Nat) (a : Option Nat) : Option Nat := match a with
  | some i => some (N + i)
  | none => none
mutual
/-- A value whose places lie so far behind. -/
def shV (N : Nat) : AVal → AVal
  | .bool b => .bool b
  | .int k s => .int k s
  | .str s => .str s
  | .ptr a => .ptr (shA N a)
  | .slice a l c e => .slice (shA N a) l c e
  | .map r => .map (shN N r)
  | .chan r => .chan (shN N r)
  | .func f a b => .func f (shL N a) (shL N b)
  | .nilFunc => .nilFunc
  | .iface t v => .iface t (shV N v)
  | .nilIface => .nilIface
  | .agg cs => .agg (shL N cs)
  | .tuple vs => .tuple (shL N vs)
def shL (N : Nat) : List AVal → List AVal
  | [] => []
  | v :: vs => shV N v :: shL N vs
end
mutual
/-- Does a value hold no place? -/
def flatV : AVal → Bool
  | .bool _ => true
  | .int _ _ => true
  | .str _ => true
  | .ptr a => a.isNone
  | .slice a _ _ _ => a.isNone
  | .map r => r.isNone
  | .chan r => r.isNone
  | .func _ a b => flatL a && flatL b
  | .nilFunc => true
  | .iface _ v => flatV v
  | .nilIface => true
  | .agg cs => flatL cs
  | .tuple vs => flatL vs
def flatL : List AVal → Bool
  | [] => true
  | v :: vs => flatV v && flatL vs
end
end

theorem shL_get (N : Nat) : ∀ (l : List AVal) (i : Nat), (shL N l)[i]? = (l[i]?).map (shV N) := by
  intro l
  induction l with
  | nil => intro i; simp [shL]
  | cons v l ih => intro i; cases i with
    | zero => simp [shL]
    | succ i => simpa [shL] using ih i
theorem shL_len (N : Nat) : ∀ (l : List AVal), (shL N l).length = l.length := by
  intro l
  induction l with
  | nil => rfl
  | cons v l ih => simp [shL, ih]
theorem shV_cell (N : Nat) (v : AVal) : (shV N v).isCell = v.isCell := by cases v <;> simp [shV, AVal.isCell]
theorem flatL_get : ∀ (l : List AVal), flatL l = true → ∀ (i : Nat) v, l[i]? = some v → flatV v = true := by
  intro l
  induction l with
  | nil => intro _ i v h; simp at h
  | cons u l ih =>
    intro h i v hi
    simp only [flatL, Bool.and_eq_true] at h
    cases i with
    | zero => simp at hi; subst hi; exact h.1
    | succ i => exact ih h.2 i v (by simpa using hi)

/-- The one's blocks behind the other one's. -/
def Val.join (V V1 : Val) (N : Nat) : Val := ⟨V.ρ, fun id => if id < N then V.blk id else V1.blk (id - N)⟩

theorem VRel.shift {V V1 : Val} {N : Nat} (hρ : V1.ρ = V.ρ) {a : AVal} {v : Value} (h : VRel V1 a v) : VRel (V.join V1 N) (shV N a) v := by
  have hb : ∀ id x, V1.blk id = some x → (V.join V1 N).blk (N + id) = some x := by
    intro id x hx
    show (if N + id < N then V.blk (N + id) else V1.blk (N + id - N)) = some x
    rw [if_neg (by omega), show N + id - N = id by omega]; exact hx
  have hr : (V.join V1 N).ρ = V1.ρ := hρ.symm
  induction h with
  | bool b => simp only [shV]; exact .bool b
  | int k s => simp only [shV]; rw [← hr]; exact .int k s
  | str l s h => simp only [shV]; exact .str l s (by rw [hr]; exact h)
  | ptrN => simp only [shV, shA]; exact .ptrN
  | ptr id off b base S h => simp only [shV, shA]; exact .ptr _ off b base S (hb _ _ h)
  | sliceN es => simp only [shV, shA]; exact .sliceN es
  | slice id off len cap es b base S c h hl hc hS => simp only [shV, shA]; exact .slice _ off len cap es b base S c (hb _ _ h) hl hc hS
  | mapN => simp only [shV, shN]; exact .mapN
  | map id b base S h => simp only [shV, shN]; exact .map _ b base S (hb _ _ h)
  | chanN => simp only [shV, shN]; exact .chanN
  | chan id b base S h => simp only [shV, shN]; exact .chan _ b base S (hb _ _ h)
  | func f a c x y ha hc _ _ ihx ihy =>
    simp only [shV]
    refine .func f _ _ x y (by rw [shL_len]; exact ha) (by rw [shL_len]; exact hc) (fun i u v hu hv => ?_) (fun i u v hu hv => ?_)
    · rw [shL_get] at hu
      cases hq : a[i]? with
      | none => rw [hq] at hu; cases hu
      | some q => rw [hq] at hu; cases hu; exact ihx i q v hq hv
    · rw [shL_get] at hu
      cases hq : c[i]? with
      | none => rw [hq] at hu; cases hu
      | some q => rw [hq] at hu; cases hu; exact ihy i q v hq hv
  | nilFunc => simp only [shV]; exact .nilFunc
  | iface t v w _ ih => simp only [shV]; exact .iface t _ w ih
  | nilIface => simp only [shV]; exact .nilIface
  | agg a x ha _ hc ih =>
    simp only [shV]
    refine .agg _ x (by rw [shL_len]; exact ha) (fun i u v hu hv => ?_) (fun u hu => ?_)
    · rw [shL_get] at hu
      cases hq : a[i]? with
      | none => rw [hq] at hu; cases hu
      | some q => rw [hq] at hu; cases hu; exact ih i q v hq hv
    · obtain ⟨i, hi⟩ := List.mem_iff_getElem?.1 hu
      rw [shL_get] at hi
      cases hq : a[i]? with
      | none => rw [hq] at hi; cases hi
      | some q => rw [hq] at hi; cases hi; rw [shV_cell]; exact hc q (List.mem_of_getElem? hq)
  | tuple a x ha _ ih =>
    simp only [shV]
    refine .tuple _ x (by rw [shL_len]; exact ha) (fun i u v hu hv => ?_)
    rw [shL_get] at hu
    cases hq : a[i]? with
    | none => rw [hq] at hu; cases hu
    | some q => rw [hq] at hu; cases hu; exact ih i q v hq hv

theorem VRel.flat {V V' : Val} (hρ : V'.ρ = V.ρ) {a : AVal} {v : Value} (h : VRel V a v) (hf : flatV a = true) : VRel V' a v := by
  induction h with
  | bool b => exact .bool b
  | int k s => rw [← hρ]; exact .int k s
  | str l s h => exact .str l s (by rw [hρ]; exact h)
  | ptrN => exact .ptrN
  | ptr id off b base S h => simp [flatV] at hf
  | sliceN es => exact .sliceN es
  | slice id off len cap es b base S c h hl hc hS => simp [flatV] at hf
  | mapN => exact .mapN
  | map id b base S h => simp [flatV] at hf
  | chanN => exact .chanN
  | chan id b base S h => simp [flatV] at hf
  | func f a c x y ha hc _ _ ihx ihy =>
    simp only [flatV, Bool.and_eq_true] at hf
    exact .func f a c x y ha hc (fun i u v hu hv => ihx i u v hu hv (flatL_get a hf.1 i u hu)) (fun i u v hu hv => ihy i u v hu hv (flatL_get c hf.2 i u hu))
  | nilFunc => exact .nilFunc
  | iface t v w _ ih => exact .iface t v w (ih (by simpa [flatV] using hf))
  | nilIface => exact .nilIface
  | agg a x ha _ hc ih => exact .agg a x ha (fun i u v hu hv => ih i u v hu hv (flatL_get a (by simpa [flatV] using hf) i u hu)) hc
  | tuple a x ha _ ih => exact .tuple a x ha (fun i u v hu hv => ih i u v hu hv (flatL_get a (by simpa [flatV] using hf) i u hu))
theorem LRel.flat {V V' : Val} (hρ : V'.ρ = V.ρ) : ∀ {us : List AVal} {vs : List Value}, LRel V us vs → flatL us = true → LRel V' us vs := by
  intro us vs h
  induction h with
  | nil => intro _; exact .nil
  | cons hv _ ih => intro hf; simp only [flatL, Bool.and_eq_true] at hf; exact .cons (hv.flat hρ hf.1) (ih hf.2)

noncomputable section
/-- What is kept of a small heap: rows of cells (fl: that hold no place), empty maps. -/
inductive TO where
  | row (fl : Bool) (cs : List AVal)
  | map0
def TO.obj (N : Nat) : TO → AObj
  | .row fl cs => newRow (bif fl then cs else shL N cs)
  | .map0 => .map [] 0
abbrev Tmpl := List (Nat × TO)
def TO.ok (o : Option AObj) (t : TO) : Bool := match o, t with
  | some (.cells true c n), .row fl cs => Nat.beq n cs.length && ((bif fl then flatL cs else true) && (match readFrom c 0 n with
    | some l => listEq avEq l cs
    | none => false))
  | some (.map [] 0), .map0 => true
  | _, _ => false
def tmplOk (H : Hp) : Tmpl → Bool
  | [] => true
  | (i, t) :: l => t.ok (H.t.get i) && tmplOk H l
def layT (N : Nat) : Tmpl → Tr AObj → Tr AObj
  | [], T => T
  | (i, t) :: l, T => (layT N l T).set (N + i) (t.obj N)
end

theorem listEq_eq' : ∀ {a b : List AVal}, listEq avEq a b = true → a = b := by
  intro a
  induction a with
  | nil => intro b h; cases b with
    | nil => rfl
    | cons => simp [listEq] at h
  | cons x a ih => intro b h; cases b with
    | nil => simp [listEq] at h
    | cons y b => simp only [listEq, Bool.and_eq_true] at h; rw [avEq_eq h.1, ih h.2]

theorem tmplOk_at {H : Hp} : ∀ {l : Tmpl}, tmplOk H l = true → ∀ i t, (i, t) ∈ l → t.ok (H.t.get i) = true := by
  intro l
  induction l with
  | nil => intro _ i t h; simp at h
  | cons p l ih =>
    obtain ⟨j, u⟩ := p
    intro h i t hm
    simp only [tmplOk, Bool.and_eq_true] at h
    rcases List.mem_cons.1 hm with e | hm
    · cases e; exact h.1
    · exact ih h.2 i t hm
theorem layT_get (N : Nat) : ∀ (l : Tmpl) (T : Tr AObj) (id : Nat) (o : AObj), (layT N l T).get id = some o → (∃ i t, (i, t) ∈ l ∧ id = N + i ∧ o = t.obj N) ∨ ((∀ i t, (i, t) ∈ l → id ≠ N + i) ∧ T.get id = some o) := by
  intro l
  induction l with
  | nil => intro T id o h; exact .inr ⟨fun i t h => by simp at h, h⟩
  | cons p l ih =>
    obtain ⟨j, u⟩ := p
    intro T id o h
    simp only [layT, Tr.get_set] at h
    by_cases e : id = N + j
    · rw [if_pos e] at h; cases h; exact .inl ⟨j, u, by simp, e, rfl⟩
    · rw [if_neg e] at h
      rcases ih T id o h with ⟨i, t, h1, h2, h3⟩ | ⟨h1, h2⟩
      · exact .inl ⟨i, t, by simp [h1], h2, h3⟩
      · refine .inr ⟨fun i t hm => ?_, h2⟩
        rcases List.mem_cons.1 hm with e' | hm
        · cases e'; exact e
        · exact h1 i t hm

theorem TO.rel {V V1 : Val} {N B B1 : Nat} (hB : B ≤ B1) (hρ : V1.ρ = V.ρ) {o : AObj} {t : TO} (hok : t.ok (some o) = true) {b base S : Nat} {x : Obj} (h : ORel V1 B1 o b base S x) :
    ORel (V.join V1 N) B (t.obj N) b base S x ∧ B1 ≤ b := by
  cases h with
  | cells rw c n _ _ _ arr el fz hrw hfz hS hn hall hc =>
    cases t with
    | map0 => cases rw <;> simp [TO.ok] at hok
    | row fl cs =>
      cases rw with
      | false => simp [TO.ok] at hok
      | true =>
        simp only [TO.ok, Bool.and_eq_true] at hok
        obtain ⟨h1, h2, h3⟩ := hok
        have hlen : n = cs.length := Nat.eq_of_beq_eq_true h1
        split at h3
        case h_2 => cases h3
        rename_i l hl
        have := listEq_eq' h3
        subst this
        obtain ⟨g1, g2⟩ := readFrom_spec c n 0 l hl
        obtain ⟨z1, z2⟩ := hrw rfl
        refine ⟨?_, z2⟩
        have hsz : (bif fl then l else shL N l).length = n := by
          cases fl with
          | true => exact g1
          | false => show (shL N l).length = n; rw [shL_len]; exact g1
        show ORel (V.join V1 N) B (.cells true (Tr.ofList (bif fl then l else shL N l) 0 .nil) (bif fl then l else shL N l).length) b base S (.cells arr el fz)
        refine .cells true _ _ b base S arr el fz (fun _ => ⟨z1, Nat.le_trans hB z2⟩) (fun _ => z1) hS (by omega) (fun i hi => ?_) (fun i a ha => ?_)
        · rw [Tr.get_ofList, if_pos (by omega)]
          exact ⟨_, List.getElem?_eq_getElem (by omega)⟩
        · rw [Tr.get_ofList] at ha
          split at ha
          case isFalse => rw [Tr.get_nil] at ha; cases ha
          rename_i hi
          rw [Nat.sub_zero] at ha
          cases fl with
          | true =>
            have hfl : flatL l = true := h2
            have ha' : l[i]? = some a := ha
            have hg := g2 i a ha'
            rw [Nat.zero_add] at hg
            obtain ⟨q1, q2, v, q3, q4⟩ := hc i a hg
            exact ⟨by omega, q2, v, q3, q4.flat (V' := V.join V1 N) (show (V.join V1 N).ρ = V1.ρ from hρ.symm) (flatL_get l hfl i a ha')⟩
          | false =>
            have ha' : (shL N l)[i]? = some a := ha
            rw [shL_get] at ha'
            cases hq : l[i]? with
            | none => rw [hq] at ha'; cases ha'
            | some q =>
              rw [hq] at ha'
              cases ha'
              have hg := g2 i q hq
              rw [Nat.zero_add] at hg
              obtain ⟨q1, q2, v, q3, q4⟩ := hc i q hg
              exact ⟨by omega, by rw [shV_cell]; exact q2, v, q3, q4.shift hρ⟩
  | map es clock _ _ _ ms hBb hl he =>
    cases t with
    | row fl cs => simp [TO.ok] at hok
    | map0 =>
      cases es with
      | cons e es => simp [TO.ok] at hok
      | nil => cases clock with
        | succ k => simp [TO.ok] at hok
        | zero => exact ⟨.map [] 0 b base S ms (Nat.le_trans hB hBb) hl (fun i e m h => by simp at h), hBb⟩
  | chan cap buf s r _ _ _ x hBb hx => cases t <;> simp [TO.ok] at hok

variable {P : Program} {F : Facts} {G : (Nat → Int) → Prop} {V : Val} {B : Nat} {w0 w : World} {H : Hp}

theorem WRel.join {V1 : Val} {H1 : Hp} {w' : World} (hW : WRel B w0 V H w) (h1 : WRel w.heap.size w V1 H1 w') (hρ : V1.ρ = V.ρ) {l : Tmpl} (hl : tmplOk H1 l = true) :
    WRel B w0 (V.join V1 H.next) ⟨layT H.next l H.t, H.next + H1.next⟩ w' ∧ Ext V (V.join V1 H.next) H ⟨layT H.next l H.t, H.next + H1.next⟩ := by
  have hlt : ∀ i t, (i, t) ∈ l → i < H1.next ∧ ∃ o, H1.t.get i = some o ∧ t.ok (some o) = true := by
    intro i t hm
    have hk := tmplOk_at hl i t hm
    cases hg : H1.t.get i with
    | none => rw [hg] at hk; cases t <;> simp [TO.ok] at hk
    | some o =>
      rw [hg] at hk
      refine ⟨?_, o, rfl, hk⟩
      by_cases hn : i < H1.next
      · exact hn
      · have := (h1.next i (by omega)).2
        rw [hg] at this; cases this
  have oldlt : ∀ id x, V.blk id = some x → id < H.next := by
    intro id x hx
    by_cases hn : id < H.next
    · exact hn
    · have := (hW.next id (by omega)).1; rw [hx] at this; cases this
  have hle : V.le (V.join V1 H.next) := ⟨rfl, fun id x hx => by show (if id < H.next then V.blk id else V1.blk (id - H.next)) = some x; rw [if_pos (oldlt id x hx)]; exact hx⟩
  have blk : ∀ id b base S, (V.join V1 H.next).blk id = some (b, base, S) → (id < H.next ∧ V.blk id = some (b, base, S)) ∨ (H.next ≤ id ∧ V1.blk (id - H.next) = some (b, base, S)) := by
    intro id b base S h
    by_cases hn : id < H.next
    · have h' : (if id < H.next then V.blk id else V1.blk (id - H.next)) = some (b, base, S) := h
      rw [if_pos hn] at h'; exact .inl ⟨hn, h'⟩
    · have h' : (if id < H.next then V.blk id else V1.blk (id - H.next)) = some (b, base, S) := h
      rw [if_neg hn] at h'; exact .inr ⟨by omega, h'⟩
  have gets : ∀ id o, (layT H.next l H.t).get id = some o → (id < H.next ∧ H.t.get id = some o) ∨ (H.next ≤ id ∧ ∃ t o1, (id - H.next, t) ∈ l ∧ H1.t.get (id - H.next) = some o1 ∧ t.ok (some o1) = true ∧ o = t.obj H.next) := by
    intro id o h
    rcases layT_get H.next l H.t id o h with ⟨i, t, hm, rfl, rfl⟩ | ⟨_, h⟩
    · obtain ⟨_, o1, h3, h4⟩ := hlt i t hm
      have e : H.next + i - H.next = i := by omega
      exact .inr ⟨by omega, t, o1, by rw [e]; exact hm, by rw [e]; exact h3, h4, rfl⟩
    · refine .inl ⟨?_, h⟩
      by_cases hn : id < H.next
      · exact hn
      · have := (hW.next id (by omega)).2; rw [h] at this; cases this
  have hbel := h1.below
  refine ⟨⟨hW.below.trans (hbel.mono hW.size), Nat.le_trans hW.size hbel.size, fun id hid => ?_, fun id b base S h => ?_, fun id o b base S h2 h3 => ?_, fun id id' o o' b b' base base' S S' g1 g2 g3 g4 hne => ?_, fun b arr el z hB h => ?_⟩, ⟨hle, fun id hid => ?_, by show H.next ≤ H.next + H1.next; omega, fun id hid hn => ?_⟩⟩
  · have hid' : H.next + H1.next ≤ id := hid
    have n1 := h1.next (id - H.next) (by omega)
    refine ⟨?_, ?_⟩
    · show (if id < H.next then V.blk id else V1.blk (id - H.next)) = none
      rw [if_neg (by omega)]; exact n1.1
    · show (layT H.next l H.t).get id = none
      cases hg : (layT H.next l H.t).get id with
      | none => rfl
      | some o =>
        rcases gets id o hg with ⟨hn, _⟩ | ⟨_, t, o1, hm, _⟩
        · omega
        · have := (hlt _ _ hm).1; omega
  · rcases blk id b base S h with ⟨_, h⟩ | ⟨_, h⟩
    · exact Nat.lt_of_lt_of_le (hW.lt _ _ _ _ h) hbel.size
    · exact h1.lt _ _ _ _ h
  · rcases gets id o h2 with ⟨hn, h2⟩ | ⟨hn, t, o1, hm, h4, h5, rfl⟩
    · rcases blk id b base S h3 with ⟨_, h3⟩ | ⟨hn', _⟩
      · obtain ⟨x, q1, q2⟩ := hW.obj id o b base S h2 h3
        exact ⟨x, by rw [hbel.block b (hW.lt _ _ _ _ h3)]; exact q1, q2.mono hle⟩
      · omega
    · rcases blk id b base S h3 with ⟨hn', _⟩ | ⟨_, h3⟩
      · omega
      · obtain ⟨x, q1, q2⟩ := h1.obj _ o1 b base S h4 h3
        exact ⟨x, q1, (TO.rel hW.size hρ h5 q2).1⟩
  · rcases blk id b base S g3 with ⟨hn, g3'⟩ | ⟨hn, g3'⟩ <;> rcases blk id' b' base' S' g4 with ⟨hn', g4'⟩ | ⟨hn', g4'⟩
    · rcases gets id o g1 with ⟨_, g1'⟩ | ⟨hh, _⟩
      · rcases gets id' o' g2 with ⟨_, g2'⟩ | ⟨hh, _⟩
        · exact hW.inj id id' o o' b b' base base' S S' g1' g2' g3' g4' hne
        · omega
      · omega
    · have hl1 := hW.lt _ _ _ _ g3'
      rcases gets id' o' g2 with ⟨hh, _⟩ | ⟨_, t, o1, hm, q1, q2, rfl⟩
      · omega
      · obtain ⟨x, r1, r2⟩ := h1.obj _ o1 b' base' S' q1 g4'
        have := (TO.rel (N := H.next) (V := V) hW.size hρ q2 r2).2
        omega
    · have hl1 := hW.lt _ _ _ _ g4'
      rcases gets id o g1 with ⟨hh, _⟩ | ⟨_, t, o1, hm, q1, q2, rfl⟩
      · omega
      · obtain ⟨x, r1, r2⟩ := h1.obj _ o1 b base S q1 g3'
        have := (TO.rel (N := H.next) (V := V) hW.size hρ q2 r2).2
        omega
    · rcases gets id o g1 with ⟨hh, _⟩ | ⟨_, t, o1, hm, q1, q2, rfl⟩
      · omega
      rcases gets id' o' g2 with ⟨hh, _⟩ | ⟨_, t', o1', hm', q1', q2', rfl⟩
      · omega
      exact h1.inj _ _ o1 o1' b b' base base' S S' q1 q1' g3' g4' (by omega)
  · by_cases hlt2 : b < w.heap.size
    · rw [hbel.block b hlt2] at h
      exact hW.fz b arr el z hB h
    · exact h1.fz b arr el z (by omega) h
  · show (if id < H.next then V.blk id else V1.blk (id - H.next)) = V.blk id
    rw [if_pos hid]
  · show (layT H.next l H.t).get id = H.t.get id
    cases hg : (layT H.next l H.t).get id with
    | some o =>
      rcases gets id o hg with ⟨_, h⟩ | ⟨hh, _⟩
      · exact h.symm
      · omega
    | none =>
      cases hg2 : H.t.get id with
      | none => rfl
      | some o =>
        exfalso
        have key : ∀ (l : Tmpl) (T : Tr AObj), T.get id = some o → (∀ i t, (i, t) ∈ l → id ≠ H.next + i) → (layT H.next l T).get id = some o := by
          intro l
          induction l with
          | nil => intro T h _; exact h
          | cons p l ih =>
            obtain ⟨j, u⟩ := p
            intro T h hne
            simp only [layT, Tr.get_set]
            rw [if_neg (hne j u (by simp))]
            exact ih T h (fun i t hm => hne i t (by simp [hm]))
        have := key l H.t hg2 (fun i t _ => by omega)
        rw [hg] at this; cases this

noncomputable section
/-- The hook of a call of these arguments. -/
def hookTmpl (as : List AVal) (l : Tmpl) (nx : Nat) (v : AVal) (args : List AVal) (H : Hp) : Option (AVal × Hp) :=
  bif listEq avEq args as then some (shV H.next v, ⟨layT H.next l H.t, H.next + nx⟩) else none
/-- What the run of such a call must say. -/
def tmplRun (r : RV) (l : Tmpl) (nx : Nat) (v : AVal) : Bool := match r with
  | .ok u H => avEq u v && (Nat.beq H.next nx && tmplOk H l)
  | .fail => false
end
theorem hookTmpl_ok (hP : POk P) {f : FuncId} (hf : Callable P f) {as : List AVal} {l : Tmpl} {nx : Nat} {v : AVal} (hfl : flatL as = true) {n : Nat} (h : tmplRun ((execJ P [] (fun _ => none) n).call f as ⟨.nil, 0⟩) l nx v = true) :
    CallOk P F G B w0 fun f' args H => if f' = f then hookTmpl as l nx v args H else none := by
  intro f' args H u H' hh
  simp only at hh
  split at hh
  case isFalse => cases hh
  rename_i hf'
  subst hf'
  unfold hookTmpl at hh
  cases he : listEq avEq args as with
  | false => rw [he] at hh; cases hh
  | true =>
    rw [he] at hh
    obtain rfl := listEq_eq' he
    cases hh
    refine ⟨hf, fun V w args' hF hW hl => ?_⟩
    have hR := execJ_ok (F := []) (G := fun _ => True) (B := w.heap.size) (w0 := w) hP (hook := fun _ => none) noHooks_ok n
    have hW0 : WRel w.heap.size w ⟨V.ρ, fun _ => none⟩ ⟨.nil, 0⟩ w := by
      refine ⟨.refl _ _, Nat.le_refl _, fun id _ => ⟨rfl, by rw [Tr.get_nil]⟩, fun id b base S h => (by cases h), fun id o b base S _ h => (by cases h), fun id id' o o' b b' ba ba' S S' _ _ h => (by cases h), fun b arr el z hb h => ?_⟩
      have := (Array.getElem?_eq_some_iff.1 h).1
      omega
    unfold tmplRun at h
    split at h
    case h_2 => cases h
    rename_i u1 H1 hr
    simp only [Bool.and_eq_true] at h
    obtain ⟨h1, h2, h3⟩ := h
    obtain rfl := avEq_eq h1
    have h2' : H1.next = nx := Nat.eq_of_beq_eq_true h2
    subst h2'
    have hcall : (recOf (execJ P [] (fun _ => none) n)).call f' args ⟨.nil, 0⟩ = some (u1, H1) := by
      show ((execJ P [] (fun _ => none) n).call f' args ⟨.nil, 0⟩).opt = _
      rw [hr]; rfl
    refine ((hR.call f' args _ _ _ hcall).2 ⟨V.ρ, fun _ => none⟩ w args' ⟨fun i lo hi h => by simp at h, trivial⟩ hW0 (LRel.flat (V := V) (V' := ⟨V.ρ, fun _ => none⟩) rfl hl hfl)).mono fun e w' he => ?_
    obtain ⟨V1, v', rfl, q1, q2, q3⟩ := he
    have hρ : V1.ρ = V.ρ := q1.le.ρ
    obtain ⟨r1, r2⟩ := hW.join q2 hρ h3
    exact ⟨V.join V1 H.next, v', rfl, r2, r1, q3.shift hρ⟩
end Go.Px
