/- copy, clear, an entry of a map turned. -/
import Derived.Test.YtlhcpplnlgehbaaGreatPAppend
namespace Go.Px
open Go Go.RowKit

variable {P : Program} {F : Facts} {V : Val} {B : Nat} {w0 w : World} {H : Hp}

theorem copy_sound (hW : WRel B w0 V H w) {ts : Array TypeId} {ty : TypeId} {args : List AVal} {us : Array Value} (hl : LRel V args us.toList) {r : ANext} (h : builtinA P F .copy ts.toList H args = some r) :
    ∃ v H' w' v', r = .val v H' ∧ Ext V V H H' ∧ WRel B w0 V H' w' ∧ VRel V v v' ∧ (Builtin.copy_ ts ty us).run P w = .ok v' w' := by
  simp only [builtinA] at h
  split at h
  case h_2 => cases h
  rename_i t ts' i off n cap es x as hts
  obtain ⟨su, hs0, hs⟩ := hl.at 0 _ rfl
  obtain ⟨xu, hx0, hx⟩ := hl.at 1 x rfl
  rw [Array.getElem?_toList] at hs0 hx0
  have ht0 : ts[0]? = some t := by have : ts.toList[0]? = some t := by rw [hts]; rfl
                                   simpa using this
  split at h
  case h_2 => cases h
  rename_i e hu
  split at h
  case h_2 => cases h
  rename_i size m hsz hm
  split at h
  case h_2 => cases h
  rename_i cs hcs
  split at h
  case h_2 => cases h
  rename_i H' hwr
  cases h
  obtain ⟨vs, hvl, hvc, hvr, hvn⟩ := firstA_sound (P := P) hW hx hcs
  have hlenr := lenOf_sound (P := P) hx hm w
  cases hs with
  | slice _ _ _ _ _ b base S c hbk hlc hcc hSS =>
  obtain ⟨w', hst, hW', hE⟩ := write_sound (P := P) hW hbk hwr hvl
  refine ⟨_, _, w', _, rfl, hE, hW', .int .i64 _, ?_⟩
  simp only [Builtin.copy_, ht0, hs0, hx0, Sem.run_bind, run_undl hu, Result.andThen_ok, hlenr, run_size hsz, hvr w rfl, hst, Sem.run_pure]
  rfl

theorem clear_sound (hW : WRel B w0 V H w) {ts : Array TypeId} {ty : TypeId} {args : List AVal} {us : Array Value} (hl : LRel V args us.toList) {r : ANext} (h : builtinA P F .clear ts.toList H args = some r) :
    ∃ v H' w' v', r = .val v H' ∧ Ext V V H H' ∧ WRel B w0 V H' w' ∧ VRel V v v' ∧ (Builtin.clear_ ts ty us).run P w = .ok v' w' := by
  simp only [builtinA] at h
  split at h
  case h_3 => cases h
  · rename_i t ts' i off n cap es as hts
    obtain ⟨su, hs0, hs⟩ := hl.at 0 _ rfl
    rw [Array.getElem?_toList] at hs0
    have ht0 : ts[0]? = some t := by have : ts.toList[0]? = some t := by rw [hts]; rfl
                                     simpa using this
    split at h
    case h_2 => cases h
    rename_i e hu
    split at h
    case h_2 => cases h
    rename_i z hz
    obtain ⟨zv, rz, hzr⟩ := run_zero (P := P) hz
    split at h
    case h_2 => cases h
    rename_i H' hwr
    cases h
    cases hs with
    | slice _ _ _ _ _ b base S c hbk hlc hcc hSS =>
    have hrl := repeatL_rel (hzr V) n zv.cells (fun _ => rfl)
    have ez : ((Array.range (n * z.cells.length)).map (zv.cells[· % zv.cells.size]!)).toList = (Builtin.zeroCells zv.cells n).toList := by rw [← (hzr V).cells_size]; rfl
    rw [ez] at hrl
    obtain ⟨w', hst, hW', hE⟩ := write_sound (P := P) hW hbk hwr hrl
    refine ⟨_, _, w', _, rfl, hE, hW', undef_rel V, ?_⟩
    cases n with
    | zero =>
      have : w' = w := by
        have e0 : (Builtin.zeroCells zv.cells 0).toList = [] := by simp [Builtin.zeroCells]
        rw [e0] at hst
        simpa [storeCells] using hst.symm
      subst this
      simp [Builtin.clear_, ht0, hs0, run_undl hu, undef]
    | succ n =>
      simp only [Builtin.clear_, ht0, hs0, Sem.run_bind, run_undl hu, Result.andThen_ok, rz, hst, Sem.run_pure]
      rfl
  · rename_i t ts' n cap es as hts
    obtain ⟨su, hs0, hs⟩ := hl.at 0 _ rfl
    rw [Array.getElem?_toList] at hs0
    have ht0 : ts[0]? = some t := by have : ts.toList[0]? = some t := by rw [hts]; rfl
                                     simpa using this
    split at h
    case h_2 => cases h
    rename_i e hu
    cases h
    cases hs with
    | sliceN =>
    refine ⟨_, _, w, _, rfl, .refl V H, hW, undef_rel V, ?_⟩
    simp [Builtin.clear_, ht0, hs0, run_undl hu, undef]

theorem doMapEntry_sound (hF : FOk F V.ρ) (hW : WRel B w0 V H w) {t : TypeId} {m k : OV} {mu ku : Value} (hm : ∀ v, m = some v → VRel V v mu) (hk : ∀ v, k = some v → VRel V v ku)
    {r : ANext} (h : doMapEntry P F t m k H = some r) : ∃ v H' w' v', r = .val v H' ∧ Ext V V H H' ∧ WRel B w0 V H' w' ∧ VRel V v v' ∧ (Instr.mapEntry t mu ku).run P w = .ok v' w' := by
  unfold doMapEntry at h
  split at h
  case h_2 => cases h
  rename_i i k kt et hu
  replace hm := hm _ rfl
  replace hk := hk _ rfl
  cases hf : keyFits P kt k with
  | false => rw [hf] at h; cases h
  | true =>
  rw [hf] at h
  simp only [cond_true] at h
  split at h
  case h_2 => cases h
  rename_i es clock z hma hz
  obtain ⟨zv, rz, hzr⟩ := run_zero (P := P) hz
  obtain ⟨b, base, S, hb, rfl⟩ := hm.inv_map
  obtain ⟨ho, ms, hms, hmr, hB⟩ := mapAt_rel hW hb hma
  have hno : ∀ (es : Array MapEntry) c a t f, Obj.map es c ≠ .cells a t f := fun _ _ _ _ _ => nofun
  split at h
  · rename_i j e hfe
    obtain ⟨q, h1, h2⟩ := findKey_sound hF hW hk hf hmr hfe
    rcases h2 with ⟨h2, _⟩ | ⟨j', e', m', h2, rfl, h3, h4⟩
    · cases h2
    cases h2
    cases hkb : keyBeq k e.key with
    | false => rw [hkb] at h; cases h
    | true =>
      rw [hkb] at h; cases h
      have hE := hmr.2 j e m' h3 h4
      obtain ⟨_, hsame⟩ := keyBeq_eq (V := V) hkb
      obtain ⟨he, hsb⟩ := hsame ku m'.key hk hE.key
      have h4' : ms[j]? = some m' := by simpa using h4
      have hstay : (Instr.keyThatStays (((ms[j]?).map (·.key)).getD ku) ku).run P w = .ok ku w := by
        rw [h4']
        simp only [Option.map_some, Option.getD_some, Instr.keyThatStays, hsb, if_true, Sem.run_pure]
      have hput := hW.putObj hb ho hB (o' := .map (es.set j ⟨k, e.val, e.born⟩) clock) (x' := .map (ms.modify j fun e => { e with key := ku }) clock) (by
        refine .map _ _ _ _ _ _ hB (by simp; simpa using hmr.1) fun n e1 m1 he1 hm1 => ?_
        rw [Array.getElem?_modify] at hm1
        by_cases hn : n = j
        · subst hn
          have hlt : n < es.length := (List.getElem?_eq_some_iff.1 h3).1
          simp [hlt] at he1
          rw [if_pos rfl, h4'] at hm1
          simp at hm1
          subst he1 hm1
          exact ⟨hk, hE.val, hE.born⟩
        · rw [List.getElem?_set_ne (Ne.symm hn)] at he1
          rw [if_neg (Ne.symm hn)] at hm1
          exact hmr.2 n e1 m1 he1 (by simpa using hm1))
      refine ⟨_, _, _, .tuple #[m'.val, goInt m'.born], rfl, hput.2, hput.1, ?_, ?_⟩
      · have : LRel V [e.val, aint e.born] [m'.val, goInt m'.born] := .cons hE.val (.cons (by rw [hE.born]; exact .int .i64 _) .nil)
        exact VRel.tupleL this
      · simp only [Instr.mapEntry, Sem.run_bind, run_undl hu, Result.andThen_ok, run_getMap hms, run_checkKey' hf hk, h1, hstay, setObj_world hms (hno _ _), Sem.run_pure]
        rw [h4']; rfl
  · rename_i hfe
    cases h
    obtain ⟨q, h1, h2⟩ := findKey_sound hF hW hk hf hmr hfe
    rcases h2 with ⟨_, rfl⟩ | ⟨j', e', m', h2, _⟩
    · have hput := hW.putObj hb ho hB (o' := .map (es ++ [⟨k, z, clock⟩]) (clock + 1)) (x' := .map (ms.push { key := ku, val := zv, born := clock }) (clock + 1)) (by
        have hlen : es.length = ms.size := by simpa using hmr.1
        refine .map _ _ _ _ _ _ hB (by simp [hlen]) fun n e1 m1 he1 hm1 => ?_
        rw [Array.getElem?_push] at hm1
        by_cases hn : n = ms.size
        · subst hn
          rw [if_pos rfl] at hm1
          rw [← hlen] at he1
          simp at he1 hm1
          subst he1 hm1
          exact ⟨hk, hzr V, rfl⟩
        · rw [if_neg hn] at hm1
          have hlt : n < ms.size := (Array.getElem?_eq_some_iff.1 hm1).1
          rw [List.getElem?_append_left (by omega)] at he1
          exact hmr.2 n e1 m1 he1 (by simpa using hm1))
      refine ⟨_, _, _, .tuple #[zv, goInt clock], rfl, hput.2, hput.1, ?_, ?_⟩
      · have : LRel V [z, aint clock] [zv, goInt clock] := .cons (hzr V) (.cons (.int .i64 _) .nil)
        exact VRel.tupleL this
      · simp only [Instr.mapEntry, Sem.run_bind, run_undl hu, Result.andThen_ok, run_getMap hms, run_checkKey' hf hk, h1, rz, setObj_world hms (hno _ _), Sem.run_pure]
    · cases h2
  · cases h

theorem bornAt_spec (b : Nat) : ∀ (es : List Entry) (ms : List MapEntry) (i j : Nat) (e : Entry), (∀ (n : Nat) (x : Entry) (m : MapEntry), es[n]? = some x → ms[n]? = some m → m.born = x.born) → es.length = ms.length → bornAt b es i = some (j, e) →
    i ≤ j ∧ es[j - i]? = some e ∧ ms.findIdx? (fun m => (m.born : Int) == (b : Int)) = some (j - i) := by
  intro es
  induction es with
  | nil => intro ms i j e _ _ h; cases h
  | cons x es ih =>
    intro ms i j e hb hl h
    cases ms with
    | nil => simp at hl
    | cons m ms =>
      have hbm := hb 0 x m rfl rfl
      simp only [bornAt] at h
      cases hx : Nat.beq x.born b with
      | true =>
        rw [hx] at h; cases h
        have := Nat.eq_of_beq_eq_true hx
        refine ⟨Nat.le_refl _, by simp, ?_⟩
        simp [List.findIdx?_cons, hbm, this]
      | false =>
        rw [hx] at h
        have hne : x.born ≠ b := fun e => by subst e; simp at hx
        obtain ⟨h1, h2, h3⟩ := ih ms (i + 1) j e (fun n y q hy hq => hb (n + 1) y q (by simpa using hy) (by simpa using hq)) (by simpa using hl) h
        refine ⟨by omega, ?_, ?_⟩
        · rw [show j - i = (j - (i + 1)) + 1 by omega]; simpa using h2
        · have : ((m.born : Int) == (b : Int)) = false := by
            rw [hbm]; simp; omega
          rw [List.findIdx?_cons, this]
          simp only [Bool.false_eq_true, if_false, h3, Option.map_some]
          congr 1; omega

theorem doEntryStore_sound (hW : WRel B w0 V H w) {t : TypeId} {m s x : OV} {mu su xu : Value} (hm : ∀ v, m = some v → VRel V v mu) (hs : ∀ v, s = some v → VRel V v su) (hx : ∀ v, x = some v → VRel V v xu)
    {r : ANext} (h : doEntryStore m s x H = some r) : ∃ H' w', r = .val unit H' ∧ Ext V V H H' ∧ WRel B w0 V H' w' ∧ (Instr.entryStore t mu su xu).run P w = .ok () w' := by
  unfold doEntryStore at h
  split at h
  case h_2 => cases h
  rename_i i s x
  replace hm := hm _ rfl
  replace hs := hs _ rfl
  replace hx := hx _ rfl
  split at h
  case h_2 => cases h
  rename_i b es clock hn hma
  split at h
  case h_2 => cases h
  rename_i j e hbo
  cases h
  obtain ⟨bk, base, S, hb, rfl⟩ := hm.inv_map
  obtain ⟨ho, ms, hms, hmr, hB⟩ := mapAt_rel hW hb hma
  obtain ⟨k, rfl⟩ := natOf_some hn hs
  have hno : ∀ (es : Array MapEntry) c a t f, Obj.map es c ≠ .cells a t f := fun _ _ _ _ _ => nofun
  obtain ⟨_, h3, h4⟩ := bornAt_spec b es ms.toList 0 j e (fun n y q hy hq => (hmr.2 n y q hy hq).born) hmr.1 hbo
  simp only [Nat.sub_zero] at h3 h4
  have hput := hW.putObj hb ho hB (o' := .map (es.set j ⟨e.key, x, e.born⟩) clock) (x' := .map (ms.modify j fun e => { e with val := xu }) clock) (by
    refine .map _ _ _ _ _ _ hB (by simp; simpa using hmr.1) fun n e1 m1 he1 hm1 => ?_
    rw [Array.getElem?_modify] at hm1
    by_cases hn : n = j
    · subst hn
      have hlt : n < es.length := (List.getElem?_eq_some_iff.1 h3).1
      simp [hlt] at he1
      rw [if_pos rfl] at hm1
      cases hmj : ms[n]? with
      | none => rw [hmj] at hm1; cases hm1
      | some mj =>
        rw [hmj] at hm1
        simp at hm1
        subst he1 hm1
        have hE := hmr.2 n e mj h3 (by simpa using hmj)
        exact ⟨hE.key, hx, hE.born⟩
    · rw [List.getElem?_set_ne (Ne.symm hn)] at he1
      rw [if_neg (Ne.symm hn)] at hm1
      exact hmr.2 n e1 m1 he1 (by simpa using hm1))
  refine ⟨_, _, rfl, hput.2, hput.1, ?_⟩
  have h5 : ms.findIdx? (fun m => (m.born : Int) == (b : Int)) = some j := by
    rw [← h4, ← List.findIdx?_toArray, Array.toArray_toList]
  simp only [Instr.entryStore, Sem.run_bind, run_getMap hms, Result.andThen_ok, asInt, asIntOf, Sem.run_pure, h5]
  exact setObj_world hms (hno _ _)
end Go.Px
