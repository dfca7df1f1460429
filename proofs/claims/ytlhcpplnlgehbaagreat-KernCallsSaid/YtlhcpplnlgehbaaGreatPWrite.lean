/- Operations that write a block. -/
import Derived.Test.YtlhcpplnlgehbaaGreatPAlloc
namespace Go.Px
open Go Go.RowKit

variable {P : Program} {F : Facts} {V : Val} {B : Nat} {w0 w : World} {H : Hp}

theorem writeFrom_get : ∀ (vs : List AVal) (c : Tr AVal) (o i : Nat), (writeFrom c o vs).get i = if o ≤ i ∧ i < o + vs.length then vs[i - o]? else c.get i := by
  intro vs
  induction vs with
  | nil => intro c o i; show c.get i = _; rw [if_neg (by simp)]
  | cons v vs ih =>
    intro c o i
    show (writeFrom (c.set o v) (o + 1) vs).get i = _
    rw [ih, Tr.get_set]
    simp only [List.length_cons]
    by_cases h1 : o + 1 ≤ i ∧ i < o + 1 + vs.length
    · rw [if_pos h1, if_pos (by omega)]
      have : i - o = (i - (o + 1)) + 1 := by omega
      rw [this]; simp
    · rw [if_neg h1]
      by_cases h2 : i = o
      · subst h2; simp
      · rw [if_neg h2, if_neg (by omega)]

theorem oneCell_of {a : AVal} {v : Value} (h : VRel V a v) (hc : a.isCell = true) : v.oneCell' = true := by cases h <;> first | rfl | cases hc

theorem write_rel (hW : WRel B w0 V H w) {i b base S off m : Nat} {c : Tr AVal} {as : List AVal} {vs : List Value} (hb : V.blk i = some (b, base, S)) (ho : H.t.get i = some (.cells true c m))
    (hlen : off + as.length ≤ m) (hc : ∀ u, u ∈ as → u.isCell = true) (hl : LRel V as vs) :
    ∃ w', (storeCells ⟨b, base + off, none⟩ vs).run P w = .ok () w' ∧ WRel B w0 V (H.put i (.cells true (writeFrom c off as) m)) w' ∧ Ext V V H (H.put i (.cells true (writeFrom c off as) m)) := by
  obtain ⟨x, hx, hr⟩ := hW.obj i _ b base S ho hb
  cases hr with
  | cells _ _ _ _ _ _ arr el fz hrw hfz hS hn hall hcc =>
    obtain ⟨rfl, hB⟩ := hrw rfl
    have hll := hl.length
    have hone : ∀ v, v ∈ vs → v.oneCell' = true := by
      intro v hv
      obtain ⟨j, hj⟩ := List.mem_iff_getElem?.1 hv
      have hjl : j < as.length := by have := (List.getElem?_eq_some_iff.1 hj).1; omega
      exact oneCell_of (hl.pt j (as[j]'hjl) v (by simp [hjl]) hj) (hc _ (List.getElem_mem hjl))
    have hrun := run_storeCells_at (P := P) b (base + off) el vs 0 arr w hx (by omega) hone
    simp only [Nat.add_zero] at hrun
    refine ⟨_, hrun, ?_⟩
    have hbs : b < w.heap.size := hW.lt i b base S hb
    have harr : ∀ k, ((arr.toList.take (base + off) ++ vs ++ arr.toList.drop (base + off + vs.length)).toArray)[k]? = if base + off ≤ k ∧ k < base + off + vs.length then vs[k - (base + off)]? else arr[k]? := by
      intro k
      have ht : (arr.toList.take (base + off)).length = base + off := by simp; omega
      rw [List.getElem?_toArray]
      by_cases h1 : k < base + off
      · rw [if_neg (by omega), List.append_assoc, List.getElem?_append_left (by omega), List.getElem?_take_of_lt h1, Array.getElem?_toList]
      · by_cases h2 : k < base + off + vs.length
        · rw [if_pos (by omega), List.append_assoc, List.getElem?_append_right (by omega), ht, List.getElem?_append_left (by omega)]
        · rw [if_neg (by omega), List.getElem?_append_right (by simp only [List.length_append, ht]; omega), List.getElem?_drop]
          simp only [List.length_append, ht]
          rw [show base + off + vs.length + (k - (base + off + vs.length)) = k by omega, Array.getElem?_toList]
    have hsz : ((arr.toList.take (base + off) ++ vs ++ arr.toList.drop (base + off + vs.length)).toArray).size = arr.size := by simp; omega
    refine hW.putE hb ho ⟨rfl, rfl, rfl, ?_, fun k hk => setRow_other w b k _ (by omega)⟩ ?_ (fun k hk => setRow_other w b k _ hk) (setRow_heap w b arr _ el (0, 0) hx) ?_
    · simp [World.setRow]
    · simp [World.setRow]
    · refine .cells true _ m b base S _ el (0, 0) (fun _ => ⟨rfl, hB⟩) (fun _ => rfl) (by rw [hsz]; exact hS) hn (fun j hj => ?_) (fun j a ha => ?_)
      · rw [writeFrom_get]
        split
        · rename_i h; exact ⟨as[j - off]'(by omega), by simp [show j - off < as.length by omega]⟩
        · exact hall j hj
      · rw [writeFrom_get] at ha
        split at ha
        · rename_i h
          obtain ⟨v, h1, h2⟩ := hl.at _ a ha
          refine ⟨by omega, hc a (List.mem_of_getElem? ha), v, ?_, h2⟩
          rw [harr, if_pos (by omega), show base + j - (base + off) = j - off by omega]
          exact h1
        · rename_i h
          obtain ⟨h0, h1, v, h2, h3⟩ := hcc j a ha
          refine ⟨h0, h1, v, ?_, h3⟩
          rw [harr, if_neg (by omega)]
          exact h2

theorem write_sound (hW : WRel B w0 V H w) {i b base S off : Nat} {as : List AVal} {vs : List Value} {H' : Hp} (hb : V.blk i = some (b, base, S)) (h : H.write i off as = some H') (hl : LRel V as vs) :
    ∃ w', (storeCells ⟨b, base + off, none⟩ vs).run P w = .ok () w' ∧ WRel B w0 V H' w' ∧ Ext V V H H' := by
  unfold Hp.write at h
  split at h
  · rename_i c m ho
    cases hc : Nat.ble (off + as.length) m && allCells as with
    | false => rw [hc] at h; cases h
    | true =>
      rw [hc] at h; cases h
      rw [Bool.and_eq_true] at hc
      exact write_rel hW hb ho (Nat.le_of_ble_eq_true hc.1) ((allCells_iff as).1 hc.2) hl
  · cases h

theorem write1_sound (hW : WRel B w0 V H w) {i b base S off : Nat} {a : AVal} {v : Value} {H' : Hp} (hb : V.blk i = some (b, base, S)) (h : H.write1 i off a = some H') (hl : VRel V a v) :
    ∃ w', (storeCells ⟨b, base + off, none⟩ [v]).run P w = .ok () w' ∧ WRel B w0 V H' w' ∧ Ext V V H H' := by
  unfold Hp.write1 at h
  split at h
  · rename_i c m ho
    cases hc : Nat.blt off m && a.isCell with
    | false => rw [hc] at h; cases h
    | true =>
      rw [hc] at h; cases h
      rw [Bool.and_eq_true] at hc
      have h1 : off < m := by simpa using hc.1
      exact write_rel hW hb ho (as := [a]) (by simp; omega) (fun u hu => by simp at hu; subst hu; exact hc.2) (.cons hl .nil)
  · cases h

theorem storeV_sound (hW : WRel B w0 V H w) {t : TypeId} {i b base S off : Nat} {a : AVal} {v : Value} {H' : Hp} (hb : V.blk i = some (b, base, S)) (h : storeV P t H i off a = some H') (hv : VRel V a v) :
    ∃ w', (storeVar t ⟨b, base + off, none⟩ v).run P w = .ok () w' ∧ WRel B w0 V H' w' ∧ Ext V V H H' := by
  unfold storeV at h
  have hsz := hv.cells_size
  split at h
  · rename_i hs
    split at h
    · rename_i x hx
      have hcl := hv.cells
      rw [hx] at hcl hsz
      cases hu : v.cells.toList with
      | nil => rw [hu] at hcl; cases hcl
      | cons y ys =>
        rw [hu] at hcl
        cases hcl with
        | cons hy hys =>
          cases hys
          obtain ⟨w', h1, h2⟩ := write1_sound (P := P) hW hb h hy
          refine ⟨w', ?_, h2⟩
          simp only [storeVar, Sem.run_bind, run_size hs, Result.andThen_ok]
          rw [if_neg (by simp [hsz])]
          rw [hu]
          exact h1
    · cases h
  · rename_i n _ hs
    cases hn : Nat.beq a.cells.length n with
    | false => rw [hn] at h; cases h
    | true =>
      rw [hn] at h
      have hn := Nat.eq_of_beq_eq_true hn
      obtain ⟨w', h1, h2⟩ := write_sound (P := P) hW hb h hv.cells
      refine ⟨w', ?_, h2⟩
      simp only [storeVar, Sem.run_bind, run_size hs, Result.andThen_ok]
      rw [if_neg (by simp [hsz, hn])]
      exact h1
  · cases h

theorem doStore_sound (hW : WRel B w0 V H w) {t : TypeId} {x y : OV} {u z : Value} (hx : ∀ v, x = some v → VRel V v u) (hy : ∀ v, y = some v → VRel V v z) {r : ANext} (h : doStore P t x y H = some r) :
    ∃ H' w', r = .val unit H' ∧ (Instr.storeAt t u z).run P w = .ok () w' ∧ WRel B w0 V H' w' ∧ Ext V V H H' := by
  unfold doStore at h
  split at h
  · rename_i i off v
    obtain ⟨b, base, S, hb, rfl⟩ := (hx _ rfl).inv_ptr
    split at h
    · rename_i H' hs
      cases h
      obtain ⟨w', h1, h2⟩ := storeV_sound (P := P) hW hb hs (hy _ rfl)
      exact ⟨H', w', rfl, by simpa [Instr.storeAt, Instr.sureAddr] using h1, h2⟩
    · cases h
  · cases h

/-! ### maps -/
theorem keyBeq_eq {a b : AVal} (h : keyBeq a b = true) : a = b ∧ (∀ u v, VRel V a u → VRel V b v → u = v ∧ Instr.sameBits 10000 v u = true) := by
  have flat : ∀ x y, flatBeq x y = true → x = y ∧ ∀ u v, VRel V x u → VRel V y v → u = v ∧ ∀ n, Instr.sameBits n v u = true := by
    intro x y hxy
    unfold flatBeq at hxy
    split at hxy
    · have := eq_of_beq hxy
      subst this
      exact ⟨rfl, fun u v hu hv => by cases hu; cases hv; exact ⟨rfl, fun n => by cases n <;> simp [Instr.sameBits]⟩⟩
    · rw [Bool.and_eq_true] at hxy
      have h1 := (kbeq_iff _ _).1 hxy.1
      have h2 := (ibeq_iff _ _).1 hxy.2
      subst h1 h2
      exact ⟨rfl, fun u v hu hv => by cases hu; cases hv; exact ⟨rfl, fun n => by cases n <;> simp [Instr.sameBits]⟩⟩
    · cases hxy
  unfold keyBeq at h
  split at h
  · rw [Bool.and_eq_true] at h
    have h1 := (kbeq_iff _ _).1 h.1
    have h2 := (ibeq_iff _ _).1 h.2
    subst h1 h2
    exact ⟨rfl, fun u v hu hv => by cases hu; cases hv; exact ⟨rfl, by simp [Instr.sameBits]⟩⟩
  · have := eq_of_beq h
    subst this
    exact ⟨rfl, fun u v hu hv => by cases hu; cases hv; exact ⟨rfl, by simp [Instr.sameBits]⟩⟩
  · rw [Bool.and_eq_true] at h
    have h1 := (natsBeq_iff _ _).1 h.1
    subst h1
    refine ⟨rfl, fun u v hu hv => ?_⟩
    obtain ⟨s, rfl, hs⟩ := hu.inv_str
    obtain ⟨q, rfl, hq⟩ := hv.inv_str
    have : s = q := by
      cases s with
      | mk sd => cases q with
        | mk qd =>
          congr 1
          exact Array.toList_inj.1 (hs.trans hq.symm)
    subst this
    refine ⟨rfl, ?_⟩
    show (s == s) = true
    rw [beq_toListBytes]
    simp
  · rename_i a b
    have key : ∀ (a b : List AVal), flatsBeq a b = true → a = b ∧ ∀ xs ys, LRel V a xs → LRel V b ys → xs = ys ∧ ∀ n, ((ys.zip xs).all fun (x, y) => Instr.sameBits n x y) = true := by
      intro a
      induction a with
      | nil => intro b h; cases b with
        | nil => exact ⟨rfl, fun xs ys h1 h2 => by cases h1; cases h2; exact ⟨rfl, fun n => rfl⟩⟩
        | cons => cases h
      | cons x a ih => intro b h; cases b with
        | nil => cases h
        | cons y b =>
          simp only [flatsBeq, Bool.and_eq_true] at h
          obtain ⟨rfl, f1⟩ := flat x y h.1
          obtain ⟨rfl, f2⟩ := ih b h.2
          refine ⟨rfl, fun xs ys h1 h2 => ?_⟩
          cases h1 with
          | cons p1 q1 => cases h2 with
            | cons p2 q2 =>
              obtain ⟨rfl, g1⟩ := f1 _ _ p1 p2
              obtain ⟨rfl, g2⟩ := f2 _ _ q1 q2
              exact ⟨rfl, fun n => by simp only [List.zip_cons_cons, List.all_cons, g1 n, Bool.true_and]; exact g2 n⟩
    obtain ⟨rfl, hk⟩ := key a b h
    refine ⟨rfl, fun u v hu hv => ?_⟩
    obtain ⟨xs, rfl, hl, _⟩ := hu.inv_agg
    obtain ⟨ys, rfl, hl', _⟩ := hv.inv_agg
    obtain ⟨e1, e2⟩ := hk _ _ hl hl'
    have : xs = ys := Array.toList_inj.1 e1
    subst this
    refine ⟨rfl, ?_⟩
    have e2 := e2 9999
    show (xs.size == xs.size && (xs.toList.zip xs.toList).all fun (x, y) => Instr.sameBits 9999 x y) = true
    simpa using e2
  · cases h

theorem setObj_world {b : Nat} {o o' : Obj} (h : w.heap[b]? = some o) (hn : ∀ a t f, o ≠ .cells a t f) : (setObj b o').run P w = .ok () { w with heap := w.heap.setIfInBounds b o' } := by
  cases o with
  | cells a t f => exact absurd rfl (hn a t f)
  | _ => simp [setObj, Sem.run, h]

theorem WRel.putObj (hW : WRel B w0 V H w) {id b base S : Nat} {o o' : AObj} {x' : Obj} (hb : V.blk id = some (b, base, S)) (ho : H.t.get id = some o) (hB : B ≤ b) (hr : ORel V B o' b base S x') :
    WRel B w0 V (H.put id o') { w with heap := w.heap.setIfInBounds b x' } ∧ Ext V V H (H.put id o') := by
  have hlt := hW.lt id b base S hb
  refine hW.putE hb ho ⟨rfl, rfl, rfl, by simp, fun k hk => ?_⟩ (by simp) (fun k hk => ?_) (by simp [hlt]) hr
  · simp [Array.getElem?_setIfInBounds_ne (show b ≠ k by omega)]
  · simp [Array.getElem?_setIfInBounds_ne (Ne.symm hk)]

theorem doUpdate_sound (hF : FOk F V.ρ) (hW : WRel B w0 V H w) {t : TypeId} {m k x : OV} {mu ku xu : Value} (hm : ∀ v, m = some v → VRel V v mu) (hk : ∀ v, k = some v → VRel V v ku) (hx : ∀ v, x = some v → VRel V v xu)
    {r : ANext} (h : doUpdate P F t m k x H = some r) : ∃ H' w', r = .val unit H' ∧ (Instr.mapUpdate t mu ku xu).run P w = .ok () w' ∧ WRel B w0 V H' w' ∧ Ext V V H H' := by
  unfold doUpdate at h
  split at h
  · rename_i m k v
    replace hm := hm _ rfl
    replace hk := hk _ rfl
    replace hx := hx _ rfl
    split at h
    · rename_i H' hu'
      cases h
      unfold updateA at hu'
      split at hu'
      · rename_i kt et hu
        cases hf : keyFits P kt k with
        | false => rw [hf] at hu'; cases hu'
        | true =>
          rw [hf] at hu'
          simp only [cond_true] at hu'
          split at hu'
          · rename_i i
            obtain ⟨b, base, S, hb, rfl⟩ := hm.inv_map
            split at hu'
            · rename_i es clock hma
              obtain ⟨ho, ms, hms, hmr, hB⟩ := mapAt_rel hW hb hma
              have hno : ∀ (es : Array MapEntry) c a t f, Obj.map es c ≠ .cells a t f := fun _ _ _ _ _ => nofun
              split at hu'
              · rename_i j e hfe
                obtain ⟨q, h1, h2⟩ := findKey_sound hF hW hk hf hmr hfe
                rcases h2 with ⟨h2, _⟩ | ⟨j', e', m', h2, rfl, h3, h4⟩
                · cases h2
                cases h2
                cases hkb : keyBeq k e.key with
                | false => rw [hkb] at hu'; cases hu'
                | true =>
                  rw [hkb] at hu'; cases hu'
                  have hE := hmr.2 j e m' h3 h4
                  obtain ⟨_, hsame⟩ := keyBeq_eq (V := V) hkb
                  obtain ⟨he, hsb⟩ := hsame ku m'.key hk hE.key
                  have h4' : ms[j]? = some m' := by simpa using h4
                  have hstay : (Instr.keyThatStays (((ms[j]?).map (·.key)).getD ku) ku).run P w = .ok ku w := by
                    rw [h4']
                    simp only [Option.map_some, Option.getD_some, Instr.keyThatStays, hsb, if_true, Sem.run_pure]
                  refine ⟨_, _, rfl, ?_, hW.putObj hb ho hB (x' := .map (ms.modify j fun e => { e with key := ku, val := xu }) clock) ?_⟩
                  · simp only [Instr.mapUpdate, Sem.run_bind, run_undl hu, Result.andThen_ok, run_getMap hms, run_checkKey' hf hk, h1, hstay]
                    exact setObj_world hms (hno _ _)
                  · refine .map _ _ _ _ _ _ hB (by simp; simpa using hmr.1) fun n e1 m1 he1 hm1 => ?_
                    rw [Array.getElem?_modify] at hm1
                    by_cases hn : n = j
                    · subst hn
                      have hlt : n < es.length := (List.getElem?_eq_some_iff.1 h3).1
                      simp [hlt] at he1
                      rw [if_pos rfl, h4'] at hm1
                      simp at hm1
                      subst he1 hm1
                      exact ⟨hk, hx, hE.born⟩
                    · rw [List.getElem?_set_ne (Ne.symm hn)] at he1
                      rw [if_neg (Ne.symm hn)] at hm1
                      exact hmr.2 n e1 m1 he1 (by simpa using hm1)
              · rename_i hfe
                cases hu'
                obtain ⟨q, h1, h2⟩ := findKey_sound hF hW hk hf hmr hfe
                rcases h2 with ⟨_, rfl⟩ | ⟨j', e', m', h2, _⟩
                · refine ⟨_, _, rfl, ?_, hW.putObj hb ho hB (x' := .map (ms.push { key := ku, val := xu, born := clock }) (clock + 1)) ?_⟩
                  · simp only [Instr.mapUpdate, Sem.run_bind, run_undl hu, Result.andThen_ok, run_getMap hms, run_checkKey' hf hk, h1]
                    exact setObj_world hms (hno _ _)
                  · have hlen : es.length = ms.size := by simpa using hmr.1
                    refine .map _ _ _ _ _ _ hB (by simp [hlen]) fun n e1 m1 he1 hm1 => ?_
                    rw [Array.getElem?_push] at hm1
                    by_cases hn : n = ms.size
                    · subst hn
                      rw [if_pos rfl] at hm1
                      rw [← hlen] at he1
                      simp at he1 hm1
                      subst he1 hm1
                      exact ⟨hk, hx, rfl⟩
                    · rw [if_neg hn] at hm1
                      have hlt : n < ms.size := (Array.getElem?_eq_some_iff.1 hm1).1
                      rw [List.getElem?_append_left (by omega)] at he1
                      exact hmr.2 n e1 m1 he1 (by simpa using hm1)
                · cases h2
              · cases hu'
            · cases hu'
          · cases hu'
      · cases hu'
    · cases h
  · cases h

theorem deleteA_sound (hF : FOk F V.ρ) (hW : WRel B w0 V H w) {t ty : TypeId} {ts : Array TypeId} {us : Array Value} {m k : AVal} {mu ku : Value} (ht : ts[0]? = some t) (hu0 : us[0]? = some mu) (hu1 : us[1]? = some ku)
    (hm : VRel V m mu) (hk : VRel V k ku) {H' : Hp} (h : deleteA P F t H m k = some H') : ∃ w', (Builtin.delete_ ts ty us).run P w = .ok (.tuple #[]) w' ∧ WRel B w0 V H' w' ∧ Ext V V H H' := by
  unfold deleteA at h
  split at h
  · rename_i kt et hu
    cases hf : keyFits P kt k with
    | false => rw [hf] at h; cases h
    | true =>
      rw [hf] at h
      simp only [cond_true] at h
      split at h
      · rename_i i
        obtain ⟨b, base, S, hb, rfl⟩ := hm.inv_map
        split at h
        · rename_i es clock hma
          obtain ⟨ho, ms, hms, hmr, hB⟩ := mapAt_rel hW hb hma
          have hno : ∀ (es : Array MapEntry) c a t f, Obj.map es c ≠ .cells a t f := fun _ _ _ _ _ => nofun
          have hlen : es.length = ms.size := by simpa using hmr.1
          split at h
          · rename_i j e hfe
            cases h
            obtain ⟨q, h1, h2⟩ := findKey_sound hF hW hk hf hmr hfe
            rcases h2 with ⟨h2, _⟩ | ⟨j', e', m', h2, rfl, h3, h4⟩
            · cases h2
            cases h2
            have hjl : j < ms.size := by have := (List.getElem?_eq_some_iff.1 h3).1; omega
            refine ⟨_, ?_, hW.putObj hb ho hB (x' := .map (ms.eraseIdxIfInBounds j) clock) ?_⟩
            · simp only [Builtin.delete_, ht, hu0, hu1, Sem.run_bind, run_undl hu, Result.andThen_ok, run_getMap hms, run_checkKey' hf hk, h1, setObj_world hms (hno _ _), Sem.run_pure]
            · refine .map _ _ _ _ _ _ hB ?_ fun n e1 m1 he1 hm1 => ?_
              · rw [List.length_eraseIdx, Array.eraseIdxIfInBounds_eq]
                simp [hjl, hlen]
              · rw [Array.eraseIdxIfInBounds_eq] at hm1
                simp only [hjl, dif_pos] at hm1
                have hm2 : ((ms.toList.eraseIdx j))[n]? = some m1 := by
                  have e3 : (ms.eraseIdx j hjl).toList = ms.toList.eraseIdx j := Array.toList_eraseIdx
                  rw [← e3, Array.getElem?_toList]; exact hm1
                rw [List.getElem?_eraseIdx] at he1 hm2
                split at he1
                · rename_i hlt; rw [if_pos hlt] at hm2; exact hmr.2 n e1 m1 he1 hm2
                · rename_i hlt; rw [if_neg hlt] at hm2; exact hmr.2 (n + 1) e1 m1 he1 hm2
          · rename_i hfe
            cases h
            obtain ⟨q, h1, h2⟩ := findKey_sound hF hW hk hf hmr hfe
            rcases h2 with ⟨_, rfl⟩ | ⟨j', e', m', h2, _⟩
            · refine ⟨_, ?_, hW.putObj hb ho hB (x' := .map ms clock) ?_⟩
              · simp only [Builtin.delete_, ht, hu0, hu1, Sem.run_bind, run_undl hu, Result.andThen_ok, run_getMap hms, run_checkKey' hf hk, h1, setObj_world hms (hno _ _), Sem.run_pure]
              · exact .map _ _ _ _ _ _ hB hlen fun n e1 m1 he1 hm1 => hmr.2 n e1 m1 he1 (by simpa using hm1)
            · cases h2
          · cases h
        · cases h
      · cases hm; cases h
        exact ⟨w, by simp [Builtin.delete_, ht, hu0, hu1, run_undl hu, run_checkKey' hf hk], hW, .refl V H⟩
      · cases h
  · cases h
end Go.Px
