/- Operations that turn nothing: what is built, parts, lengths. -/
import Derived.Test.YtlhcpplnlgehbaaGreatPMaps
namespace Go.Px
open Go Go.RowKit

variable {P : Program} {F : Facts} {V : Val} {B : Nat} {w0 w : World} {H : Hp}

theorem overlay_len : ∀ (l : List AVal) (o : Nat) (vs : List AVal), (overlay l o vs).length = l.length := by
  intro l
  induction l with
  | nil => intro o vs; simp [overlay]
  | cons c l ih =>
    intro o vs
    cases o with
    | succ o => simp [overlay, ih]
    | zero => cases vs <;> simp [overlay, ih]
theorem overlay_at : ∀ (l : List AVal) (o : Nat) (vs : List AVal) (i : Nat), (overlay l o vs)[i]? = if o ≤ i ∧ i < o + vs.length ∧ i < l.length then vs[i - o]? else l[i]? := by
  intro l
  induction l with
  | nil => intro o vs i; simp [overlay]
  | cons c l ih =>
    intro o vs i
    cases o with
    | succ o =>
      cases i with
      | zero => simp [overlay]
      | succ i =>
        simp only [overlay, List.getElem?_cons_succ, ih, List.length_cons]
        by_cases h : o ≤ i ∧ i < o + vs.length ∧ i < l.length
        · rw [if_pos h, if_pos (by omega)]; congr 1; omega
        · rw [if_neg h, if_neg (by omega)]
    | zero =>
      cases vs with
      | nil => simp [overlay]
      | cons v vs =>
        cases i with
        | zero => simp [overlay]
        | succ i =>
          simp only [overlay, List.getElem?_cons_succ, ih, List.length_cons, Nat.sub_zero]
          by_cases h : 0 ≤ i ∧ i < 0 + vs.length ∧ i < l.length
          · rw [if_pos h, if_pos (by omega)]
          · rw [if_neg h, if_neg (by omega)]

theorem fold_size (off : Nat) : ∀ (vs : List (Value × Nat)) (cs : Array Value), (vs.foldl (fun cs (x : Value × Nat) => cs.setIfInBounds (off + x.2) x.1) cs).size = cs.size := by
  intro vs
  induction vs with
  | nil => intro cs; rfl
  | cons x vs ih => intro cs; simp [ih]
theorem fold_at (off : Nat) : ∀ (vs : List Value) (k : Nat) (cs : Array Value) (i : Nat), ((vs.zipIdx k).foldl (fun cs (x : Value × Nat) => cs.setIfInBounds (off + x.2) x.1) cs)[i]? = if off + k ≤ i ∧ i < off + k + vs.length ∧ i < cs.size then vs[i - (off + k)]? else cs[i]? := by
  intro vs
  induction vs with
  | nil => intro k cs i; simp only [List.zipIdx_nil, List.foldl_nil, List.length_nil, Nat.add_zero]; rw [if_neg (by omega)]
  | cons v vs ih =>
    intro k cs i
    simp only [List.zipIdx_cons, List.foldl_cons, ih, Array.size_setIfInBounds, List.length_cons]
    by_cases h1 : off + (k + 1) ≤ i ∧ i < off + (k + 1) + vs.length ∧ i < cs.size
    · rw [if_pos h1, if_pos (by omega)]
      rw [show i - (off + k) = (i - (off + (k + 1))) + 1 by omega]
      simp
    · rw [if_neg h1]
      by_cases h2 : i = off + k
      · subst h2
        by_cases h3 : off + k < cs.size
        · rw [if_pos (by omega)]; simp [h3]
        · rw [if_neg (by omega), Array.getElem?_eq_none (by simp; omega), Array.getElem?_eq_none (by omega)]
      · rw [if_neg (by omega), Array.getElem?_setIfInBounds_ne (Ne.symm h2)]

theorem cells_are {v : AVal} {u : Value} (h : VRel V v u) (ht : v.isTuple = false) : ∀ x, x ∈ v.cells → x.isCell = true := by
  cases h <;> first
    | (cases ht; done)
    | (intro x hx; simp only [AVal.cells, List.mem_singleton] at hx; subst hx; rfl)
    | (rename_i hc; exact hc)
/-- Parts: places and values. -/
def PartsRel (V : Val) (l : List (Nat × AVal)) (m : List (Nat × Value)) : Prop := l.map (·.1) = m.map (·.1) ∧ LRel V (l.map (·.2)) (m.map (·.2))

theorem partsOf_rel {T : Tm} {a : Act} : ∀ {l : List (Nat × Operand)} {vs : List (Nat × AVal)}, (∀ x, x ∈ l.map (·.2) → ∀ v, opnd T x = some v → VRel V v (a.eval x)) → partsOf T l = some vs → PartsRel V vs (l.map fun (i, x) => (i, a.eval x)) ∧ ∀ p, p ∈ vs → ∀ u, u ∈ p.2.cells → u.isCell = true := by
  intro l
  induction l with
  | nil => intro vs _ h; cases h; exact ⟨⟨rfl, .nil⟩, fun p hp => by simp at hp⟩
  | cons x xs ih =>
    intro vs hl h
    obtain ⟨i, x⟩ := x
    simp only [partsOf] at h
    cases h1 : opnd T x with
    | none => rw [h1] at h; cases h
    | some v =>
      rw [h1] at h
      cases ht : v.isTuple with
      | true => simp only [ht, cond_true] at h; cases h
      | false =>
        simp only [ht, cond_false] at h
        cases h2 : partsOf T xs with
        | none => rw [h2] at h; cases h
        | some us =>
          rw [h2] at h; cases h
          obtain ⟨h3, h4⟩ := ih (fun y hy => hl y (by rw [List.map_cons]; exact List.mem_cons_of_mem _ hy)) h2
          have hv := hl x (by simp) v h1
          refine ⟨⟨by simp [h3.1], .cons hv h3.2⟩, fun p hp => ?_⟩
          rcases List.mem_cons.1 hp with rfl | hp
          · exact cells_are hv ht
          · exact h4 p hp

theorem fill_sound {place : Nat → Option (Nat × Nat)} : ∀ (l : List (Nat × AVal)) (m : List (Nat × Value)) (cs : List AVal) (x : Array Value) (out : List AVal), PartsRel V l m → LRel V cs x.toList → (∀ u, u ∈ cs → u.isCell = true) →
    (∀ p, p ∈ l → ∀ u, u ∈ p.2.cells → u.isCell = true) → fillA place cs l = some out → ∃ y, Instr.fill place x m = some y ∧ LRel V out y.toList ∧ (∀ u, u ∈ out → u.isCell = true) ∧ out.length = cs.length := by
  intro l
  induction l with
  | nil =>
    intro m cs x out hp hl hc _ h
    cases h
    have : m = [] := by have := hp.1; cases m <;> simp_all
    subst this
    exact ⟨x, rfl, hl, hc, rfl⟩
  | cons p l ih =>
    intro m cs x out hp hl hc hpc h
    obtain ⟨i, v⟩ := p
    cases m with
    | nil => have := hp.1; simp at this
    | cons q m =>
      obtain ⟨j, u⟩ := q
      have hij : i = j := by have := hp.1; simp at this; exact this.1
      subst hij
      have hvu : VRel V v u := by have := hp.2; simp only [List.map_cons] at this; cases this; assumption
      have hp' : PartsRel V l m := ⟨by have := hp.1; simp at this; exact this, by have := hp.2; simp only [List.map_cons] at this; cases this; assumption⟩
      simp only [fillA] at h
      split at h
      · cases h
      · rename_i off size hpl
        cases hb : Nat.beq v.cells.length size && Nat.ble (off + size) cs.length with
        | false => rw [hb] at h; cases h
        | true =>
          rw [hb] at h
          simp only [cond_true] at h
          rw [Bool.and_eq_true] at hb
          have h1 := Nat.eq_of_beq_eq_true hb.1
          have h2 := Nat.le_of_ble_eq_true hb.2
          have hcl := hvu.cells
          have hsz : u.cells.size = size := by rw [hvu.cells_size, h1]
          have hlen := hl.length
          have hlen' : cs.length = x.size := by simpa using hlen
          have hstep : Instr.fill place x ((i, u) :: m) = Instr.fill place (u.cells.zipIdx.foldl (fun cs (c, j) => cs.setIfInBounds (off + j) c) x) m := by
            simp only [Instr.fill, hpl]
            rw [if_neg]
            simp [hsz]
            omega
          rw [hstep]
          refine ih m (overlay cs off v.cells) _ out hp' ?_ ?_ (fun p hp => hpc p (by simp [hp])) h |>.imp fun y hy => ⟨hy.1, hy.2.1, hy.2.2.1, by rw [hy.2.2.2, overlay_len]⟩
          · have hfold : (u.cells.zipIdx.foldl (fun cs (c, j) => cs.setIfInBounds (off + j) c) x) = ((u.cells.toList.zipIdx 0).foldl (fun cs (x : Value × Nat) => cs.setIfInBounds (off + x.2) x.1) x) := by
              rw [← Array.foldl_toList, Array.toList_zipIdx]
            rw [hfold]
            refine LRel.of ?_ fun n a b ha hb => ?_
            · rw [overlay_len, Array.length_toList]; exact hlen'.trans (fold_size off _ x).symm
            · rw [overlay_at] at ha
              rw [Array.getElem?_toList, fold_at] at hb
              have e3 : u.cells.toList.length = v.cells.length := hcl.length.symm
              by_cases hc1 : off ≤ n ∧ n < off + v.cells.length ∧ n < cs.length
              · rw [if_pos hc1] at ha
                rw [if_pos (by omega)] at hb
                exact hcl.pt _ a b ha hb
              · rw [if_neg hc1] at ha
                rw [if_neg (by omega)] at hb
                exact hl.pt n a b ha (by simpa using hb)
          · intro a ha
            obtain ⟨n, hn⟩ := List.mem_iff_getElem?.1 ha
            rw [overlay_at] at hn
            split at hn
            · exact hpc (i, v) (by simp) a (List.mem_of_getElem? hn)
            · exact hc a (List.mem_of_getElem? hn)

end Go.Px
