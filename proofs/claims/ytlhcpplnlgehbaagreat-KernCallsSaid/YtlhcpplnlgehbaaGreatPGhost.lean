/- Blocks that stand for none yet; what an operation's heap is. -/
import Derived.Test.YtlhcpplnlgehbaaGreatPStep
namespace Go.Px
open Go Go.RowKit

variable {P : Program} {F : Facts} {V : Val} {B : Nat} {w0 w : World} {H : Hp} {ops : Array Oper}

theorem WRel.ghost (hW : WRel B w0 V H w) (o : AObj) : WRel B w0 V (H.alloc o) w := by
  have hn := (hW.next H.next (Nat.le_refl _)).1
  have oldo : ∀ id q, (H.alloc o).t.get id = some q → id = H.next ∨ H.t.get id = some q := by
    intro id q h
    simp only [Hp.alloc, Tr.get_set] at h
    by_cases e : id = H.next
    · exact .inl e
    · rw [if_neg e] at h; exact .inr h
  refine ⟨hW.below, hW.size, fun id hid => ?_, hW.lt, fun id q b base S h1 h2 => ?_, fun id id' q q' b b' ba ba' S S' h1 h2 h3 h4 => ?_, hW.fz⟩
  · have hid' : H.next + 1 ≤ id := hid
    have h1 := hW.next id (by omega)
    exact ⟨h1.1, by simp only [Hp.alloc, Tr.get_set]; rw [if_neg (by omega)]; exact h1.2⟩
  · rcases oldo id q h1 with rfl | h1
    · rw [hn] at h2; cases h2
    · exact hW.obj id q b base S h1 h2
  · rcases oldo id q h1 with rfl | h1
    · rw [hn] at h3; cases h3
    · rcases oldo id' q' h2 with rfl | h2
      · rw [hn] at h4; cases h4
      · exact hW.inj id id' q q' b b' ba ba' S S' h1 h2 h3 h4

theorem Ext.ghostAlloc (V : Val) (H : Hp) (o : AObj) : Ext V V H (H.alloc o) :=
  ⟨.refl V, fun _ _ => rfl, Nat.le_succ _, fun id hi _ => by simp only [Hp.alloc, Tr.get_set]; rw [if_neg (by omega)]⟩

theorem WRel.bindGhost (hW : WRel B w0 V H w) {g : Nat} {o : AObj} {x : Obj} {base S : Nat} (hg : V.blk g = none) (hgl : g < H.next) (ho : H.t.get g = some o) (hr : ORel V B o w.heap.size base S x) :
    WRel B w0 (V.bind g (w.heap.size, base, S)) H (w.alloc x) := by
  have hle := Val.bind_le hg (w.heap.size, base, S)
  have old : ∀ id b base' S', (V.bind g (w.heap.size, base, S)).blk id = some (b, base', S') → (id = g ∧ b = w.heap.size ∧ base' = base ∧ S' = S) ∨ (id ≠ g ∧ V.blk id = some (b, base', S') ∧ b < w.heap.size) := by
    intro id b base' S' h
    by_cases e : id = g
    · subst e; simp [Val.bind] at h; exact .inl ⟨rfl, h.1.symm, h.2.1.symm, h.2.2.symm⟩
    · simp [Val.bind, e] at h; exact .inr ⟨e, h, hW.lt _ _ _ _ h⟩
  refine ⟨hW.below.alloc hW.size x, by simp; have := hW.size; omega, fun id hid => ?_, ?_, ?_, ?_, fz_turn hW.fz (fun k hk => heap_alloc_ne w x k hk) (heap_alloc_at w x) hr⟩
  · have h1 := hW.next id hid
    exact ⟨by simp [Val.bind, show id ≠ g by omega, h1.1], h1.2⟩
  · intro id b base' S' h
    rcases old id b base' S' h with ⟨_, rfl, _⟩ | ⟨_, _, h⟩ <;> simp <;> omega
  · intro id q b base' S' h1 h2
    rcases old id b base' S' h2 with ⟨rfl, rfl, rfl, rfl⟩ | ⟨hne, h2', hlt⟩
    · rw [ho] at h1; cases h1
      exact ⟨x, heap_alloc_at w x, hr.mono hle⟩
    · obtain ⟨y, hy, hyr⟩ := hW.obj id q b base' S' h1 h2'
      exact ⟨y, by rw [heap_alloc_lt w x b hlt]; exact hy, hyr.mono hle⟩
  · intro id id' o1 o2 b b' base1 base2 S1 S2 h1 h2 h3 h4 hne
    rcases old _ _ _ _ h3 with ⟨rfl, rfl, _⟩ | ⟨hn1, h3', hlt1⟩ <;> rcases old _ _ _ _ h4 with ⟨rfl, rfl, _⟩ | ⟨hn2, h4', hlt2⟩
    · exact absurd rfl hne
    · omega
    · omega
    · exact hW.inj id id' o1 o2 b b' base1 base2 S1 S2 h1 h2 h3' h4' hne

theorem alloc_heap {T : Tm} {o : Oper} (ha : allocOp o.op = true) {r : ANext} (h : aop P F T H o = some r) : ∃ v ob, r = .val v (H.alloc ob) := by
  obtain ⟨dst, op, ty, pos, after, guard⟩ := o
  cases op <;> simp only [allocOp] at ha <;> try (cases ha; done)
  case alloc t =>
    simp only [aop, doAlloc] at h
    split at h
    · rename_i z _; cases hz : z.isTuple <;> simp only [hz, cond_true, cond_false] at h <;> cases h; exact ⟨_, _, rfl⟩
    · cases h
  case box t x =>
    simp only [aop, doAlloc] at h
    split at h
    · rename_i z _; cases hz : z.isTuple <;> simp only [hz, cond_true, cond_false] at h <;> cases h; exact ⟨_, _, rfl⟩
    · cases h
  case buildSlice t n ps =>
    simp only [aop, doBuildSlice] at h
    split at h
    · split at h
      · rename_i size z _ _
        cases hz : (Nat.beq z.cells.length size && Nat.ble (n * size) 65536 && !z.isTuple) <;> simp only [hz, cond_true, cond_false] at h
        · cases h
        · split at h
          · cases h; exact ⟨_, _, rfl⟩
          · cases h
      · cases h
    · cases h
  case makeMap t x =>
    simp only [aop, doMakeMap] at h
    split at h
    · split at h
      · cases h; exact ⟨_, _, rfl⟩
      · cases h; exact ⟨_, _, rfl⟩
      · cases h
    · cases h
  case makeChan t x =>
    simp only [aop, doMakeChan] at h
    split at h
    · split at h
      · rename_i n b _ _
        cases hz : (Nat.ble n 1024 && Nat.ble b mostLen) <;> simp only [hz, cond_true, cond_false] at h <;> cases h; exact ⟨_, _, rfl⟩
      · cases h
    · cases h
  case makeSlice t x y =>
    simp only [aop, doMakeSlice] at h
    split at h
    · split at h
      · rename_i l c size z bytes _ _ _ _ _
        cases hz : (Nat.beq z.cells.length size && Nat.ble c 65536 && Nat.ble l c && Nat.ble bytes mostLen && !z.isTuple) <;> simp only [hz, cond_true, cond_false] at h <;> cases h; exact ⟨_, _, rfl⟩
      · cases h
    · cases h

/-- What an operation says at every heap. -/
def Flat (f : Hp → Option ANext) : Prop := ∃ g : Option AVal, ∀ H, f H = ANext.ofVal g H

theorem Flat.all {f : Hp → Option ANext} (h : Flat f) {v : AVal} {H H1 : Hp} (e : f H = some (.val v H1)) : ∀ H', f H' = some (.val v H') := by
  obtain ⟨g, hg⟩ := h
  intro H'
  rw [hg] at e ⊢
  obtain ⟨u, h1, h2⟩ := ofVal_some e
  cases h2
  rw [h1]; rfl

theorem pure_quiet {o : Op} (h : pureOp o = true) : quietOp o = true := by
  cases o <;> first | rfl | (cases h; done)

theorem pure_flat {T : Tm} {o : Oper} (hp : pureOp o.op = true) : Flat fun H => aop P F T H o := by
  obtain ⟨dst, op, ty, pos, after, guard⟩ := o
  have none_ : Flat fun _ => none := ⟨none, fun _ => rfl⟩
  have some_ : ∀ v, Flat fun H => some (.val v H) := fun v => ⟨some v, fun _ => rfl⟩
  have val_ : ∀ g, Flat fun H => ANext.ofVal g H := fun g => ⟨g, fun _ => rfl⟩
  cases op <;> simp only [pureOp] at hp <;> try (cases hp; done)
  case move x => exact val_ _
  case assign x => exact val_ _
  case pick c x y =>
    simp only [aop, doPick]
    split
    · exact val_ _
    · exact none_
  case build t ps =>
    simp only [aop, doBuild]
    split
    · split
      · generalize AVal.isTuple _ = bb
        cases bb
        · simp only [cond_false]
          split
          · split
            · exact some_ _
            · exact none_
          · exact none_
        · exact none_
      · generalize AVal.isTuple _ = bb
        cases bb
        · simp only [cond_false]
          split
          · split
            · exact some_ _
            · exact none_
          · exact none_
        · exact none_
      · exact none_
    · exact none_
  case nilCheck x =>
    simp only [aop, doNilCheck]
    split
    · exact some_ _
    · exact some_ _
    · exact none_
  case unOp op t x =>
    simp only [aop, doUn]
    split
    · exact val_ _
    · exact none_
  case makeInterface t x =>
    simp only [aop, doIface]
    split
    · exact none_
    · exact some_ _
    · exact none_
  case makeFunc f xs ys =>
    simp only [aop, doFunc]
    split
    · exact some_ _
    · exact none_
  case fieldAddr t x n =>
    simp only [aop, doFieldAddr]
    split
    · split
      · split
        · exact none_
        · exact some_ _
        · exact none_
      · exact none_
    · exact none_
  case field t x n =>
    simp only [aop, doField]
    split
    · split
      · exact val_ _
      · exact none_
    · exact none_
  case indexAddr t x y =>
    simp only [aop, doIndexAddr]
    split
    · split
      · generalize Nat.blt _ _ = bb
        cases bb <;> first | exact none_ | exact some_ _
      · exact none_
    · split
      · generalize Nat.blt _ _ = bb
        cases bb <;> first | exact none_ | exact some_ _
      · exact none_
    · exact none_
  case index t x y =>
    simp only [aop, doIndex]
    split
    · split
      · generalize Nat.blt _ _ = bb
        cases bb <;> first | exact none_ | exact val_ _
      · exact none_
    · split
      · generalize allBytes _ = bb
        cases bb
        · exact none_
        · simp only [cond_true]
          split
          · exact some_ _
          · exact none_
      · exact none_
    · exact none_
  case extract x n =>
    simp only [aop, doExtract]
    split
    · exact val_ _
    · exact none_
  case typeAssert x xt t ok =>
    simp only [aop, doAssert]
    split
    · exact none_
    · cases ok
      · exact none_
      · simp only [cond_true]
        split
        · exact some_ _
        · exact none_
    · generalize Nat.beq _ _ = bb
      cases bb <;> first | exact none_ | exact some_ _
    · exact none_
end Go.Px
