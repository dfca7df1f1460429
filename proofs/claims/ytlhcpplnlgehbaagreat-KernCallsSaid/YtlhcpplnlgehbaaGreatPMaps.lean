/- Maps: keys are found as the model finds them. -/
import Derived.Test.YtlhcpplnlgehbaaGreatPQuiet5
namespace Go.Px
open Go Go.RowKit

variable {P : Program} {F : Facts} {V : Val} {B : Nat} {w0 w : World} {H : Hp}

theorem run_checkKey {kt : TypeId} {k : AVal} {u : Value} (h : keyFits P kt k = true) (hk : VRel V k u) (b : Bool) (n : Nat) (w : World) : (Instr.checkKey b (n + 2) kt u).run P w = .ok () w := by
  unfold keyFits at h
  split at h
  · obtain rfl := hk.inv_int
    split at h
    · rename_i e; simp [Instr.checkKey, run_undl e]
    · cases h
  · obtain rfl := hk.inv_bool
    split at h
    · rename_i e; simp [Instr.checkKey, run_undl e]
    · cases h
  · obtain ⟨s, rfl, _⟩ := hk.inv_str
    split at h
    · rename_i e; simp [Instr.checkKey, run_undl e]
    · cases h
  · rename_i cs
    obtain ⟨x, rfl, hl, hc⟩ := hk.inv_agg
    split at h
    · rename_i fs e
      rw [Instr.checkKey]
      simp only [Sem.run_bind, run_undl e, Result.andThen_ok]
      rw [← Array.forIn_toList]
      have key : ∀ (l : List Field), (l.all fun f => match partV P f.type cs f.offset with
          | some (.int _ _) => match undl P f.type with
            | some (.int _) => true
            | _ => false
          | some (.bool _) => match undl P f.type with
            | some .bool => true
            | _ => false
          | _ => false) = true → (forIn l PUnit.unit (fun f _ => do
            if f.name ≠ "_" then
              let x ← part f.type x f.offset
              Instr.checkKey b (n + 1) f.type x
              pure (.yield PUnit.unit)
            else pure (.yield PUnit.unit) : Field → PUnit → Sem (ForInStep PUnit))).run P w = .ok PUnit.unit w := by
        intro l
        induction l with
        | nil => intro _; simp
        | cons f l ih =>
          intro hh
          rw [List.all_cons, Bool.and_eq_true] at hh
          rw [List.forIn_cons]
          simp only [Sem.run_bind, Sem.run_ite]
          split
          · have h1 := hh.1
            split at h1
            · rename_i k' s hp
              obtain ⟨v', r, e'⟩ := part_sound hp hl hc w
              obtain rfl := r.inv_int
              split at h1
              · rename_i e2
                simp only [Sem.run_bind, e', Result.andThen_ok, Instr.checkKey, run_undl e2, Sem.run_pure]
                exact ih hh.2
              · cases h1
            · rename_i b' hp
              obtain ⟨v', r, e'⟩ := part_sound hp hl hc w
              obtain rfl := r.inv_bool
              split at h1
              · rename_i e2
                simp only [Sem.run_bind, e', Result.andThen_ok, Instr.checkKey, run_undl e2, Sem.run_pure]
                exact ih hh.2
              · cases h1
            · cases h1
          · simp only [Sem.run_pure, Result.andThen_ok]
            exact ih hh.2
      refine (congrArg (fun r => Result.andThen r _) (key fs.toList h)).trans ?_
      rfl
    · cases h
  · cases h

/-- A map's entries. -/
def MRel (V : Val) (es : List Entry) (ms : List MapEntry) : Prop := es.length = ms.length ∧ ∀ (i : Nat) e m, es[i]? = some e → ms[i]? = some m → ERel V e m

theorem MRel.tail {e : Entry} {es : List Entry} {m : MapEntry} {ms : List MapEntry} (h : MRel V (e :: es) (m :: ms)) : ERel V e m ∧ MRel V es ms :=
  ⟨h.2 0 e m (by simp) (by simp), by simpa using h.1, fun i a b ha hb => h.2 (i + 1) a b (by simpa using ha) (by simpa using hb)⟩

theorem run_checkKey' {kt : TypeId} {k : AVal} {u : Value} (h : keyFits P kt k = true) (hk : VRel V k u) (b : Bool) (w : World) : (Instr.checkKey b 10000 kt u).run P w = .ok () w :=
  run_checkKey h hk b 9998 w

/-- Where the model looks at once it sees what the comparison says. -/
theorem sameNow_eq {d : TypeDesc} {kt : TypeId} {u v : Value} {b c : Bool} (hd : P.underlying kt = some d) (hs : Instr.sameNow d u v = some b) (hr : (Op.equalIn 10000 kt u v).run P w = .ok c w) : b = c := by
  unfold Instr.sameNow at hs
  split at hs
  · rename_i k0 k a k' b'
    split at hs
    · rename_i e
      subst e
      cases hs
      have : (Op.equalIn (9999 + 1) kt (.int k a) (.int k b')).run P w = _ := run_equalIn_int w 9999 kt k k0 a b' hd
      have := this.symm.trans hr
      cases this
      rfl
    · cases hs
  · rename_i a b'
    cases hs
    have : (Op.equalIn (9999 + 1) kt (.string a) (.string b')).run P w = _ := run_equalIn_string w 9999 kt a b' hd
    have := this.symm.trans hr
    cases this
    exact beq_toListBytes a b'
  · rename_i a b'
    cases hs
    have : (Op.equalIn (9999 + 1) kt (.bool a) (.bool b')).run P w = _ := run_equalIn_bool' w 9999 kt a b' hd
    have := this.symm.trans hr
    cases this
    rfl
  · cases hs

theorem find_sound (hF : FOk F V.ρ) (hW : WRel B w0 V H w) {kt : TypeId} {d : TypeDesc} (hd : P.underlying kt = some d) {k : AVal} {u : Value} (hk : VRel V k u) :
    ∀ (es : List Entry) (ms : List MapEntry) (i : Nat) (r : Option (Nat × Entry)), MRel V es ms → findE (aeq P F H 3 kt) k es i = some r →
      ∃ q, (Instr.findAsking kt u ms i).run P w = .ok q w ∧ (∀ q', Instr.findNow d u ms i = some q' → q' = q) ∧
        ((r = none ∧ q = none) ∨ ∃ j e m, r = some (j, e) ∧ q = some (j, m.val) ∧ i ≤ j ∧ es[j - i]? = some e ∧ ms[j - i]? = some m) := by
  intro es
  induction es with
  | nil =>
    intro ms i r hm h
    cases h
    have : ms = [] := by have := hm.1; cases ms <;> simp_all
    subst this
    exact ⟨none, by simp [Instr.findAsking], fun q' h => by simp [Instr.findNow] at h; exact h.symm, .inl ⟨rfl, rfl⟩⟩
  | cons e es ih =>
    intro ms i r hm h
    cases ms with
    | nil => have := hm.1; simp at this
    | cons m ms =>
      obtain ⟨he, ht⟩ := hm.tail
      simp only [findE] at h
      cases hc : aeq P F H 3 kt k e.key with
      | none => rw [hc] at h; cases h
      | some c =>
        rw [hc] at h
        have hr := aeq_sound (P := P) (B := B) (w0 := w0) (H := H) hF 3 kt k e.key c hc u m.key w hW hk he.key 10000 (by decide)
        have hr' : (Op.equal kt u m.key).run P w = .ok c w := hr
        cases c with
        | true =>
          cases h
          refine ⟨some (i, m.val), by simp [Instr.findAsking, hr'], fun q' hq => ?_, .inr ⟨i, e, m, rfl, rfl, Nat.le_refl _, by simp, by simp⟩⟩
          simp only [Instr.findNow] at hq
          split at hq
          · cases hq; rfl
          · rename_i e1
            have := sameNow_eq hd e1 hr
            cases this
          · cases hq
        | false =>
          obtain ⟨q, h1, h2, h3⟩ := ih ms (i + 1) r ht h
          refine ⟨q, by simp [Instr.findAsking, hr', h1], fun q' hq => ?_, ?_⟩
          · simp only [Instr.findNow] at hq
            split at hq
            · rename_i e1
              have := sameNow_eq hd e1 hr
              cases this
            · exact h2 q' hq
            · cases hq
          · rcases h3 with h3 | ⟨j, e', m', a1, a2, a3, a4, a5⟩
            · exact .inl h3
            · refine .inr ⟨j, e', m', a1, a2, by omega, ?_, ?_⟩
              · rw [show j - i = (j - (i + 1)) + 1 by omega]; simpa using a4
              · rw [show j - i = (j - (i + 1)) + 1 by omega]; simpa using a5

theorem findKey_sound (hF : FOk F V.ρ) (hW : WRel B w0 V H w) {kt : TypeId} {k : AVal} {u : Value} (hk : VRel V k u) (hfit : keyFits P kt k = true) {es : List Entry} {ms : List MapEntry} {r : Option (Nat × Entry)}
    (hm : MRel V es ms) (h : findE (aeq P F H 3 kt) k es 0 = some r) :
    ∃ q, (Instr.findKey kt u ms).run P w = .ok q w ∧ ((r = none ∧ q = none) ∨ ∃ j e m, r = some (j, e) ∧ q = some (j, m.val) ∧ es[j]? = some e ∧ ms[j]? = some m) := by
  have hd : ∃ d, P.underlying kt = some d := by
    unfold keyFits undl at hfit
    cases hu : P.underlying kt with
    | none => rw [hu] at hfit; split at hfit <;> cases hfit
    | some d => exact ⟨d, rfl⟩
  obtain ⟨d, hd⟩ := hd
  obtain ⟨q, h1, h2, h3⟩ := find_sound hF hW hd hk es ms 0 r hm h
  refine ⟨q, ?_, ?_⟩
  · simp only [Instr.findKey, Sem.run_bind, run_underlying hd, Result.andThen_ok]
    cases hn : Instr.findNow d u ms 0 with
    | none => exact h1
    | some q' => rw [h2 q' hn]; rfl
  · rcases h3 with h3 | ⟨j, e, m, a1, a2, _, a4, a5⟩
    · exact .inl h3
    · exact .inr ⟨j, e, m, a1, a2, by simpa using a4, by simpa using a5⟩

theorem mapAt_rel (hW : WRel B w0 V H w) {i b base S clock : Nat} {es : List Entry} (hb : V.blk i = some (b, base, S)) (h : H.mapAt i = some (es, clock)) :
    H.t.get i = some (.map es clock) ∧ ∃ ms, w.heap[b]? = some (.map ms clock) ∧ MRel V es ms.toList ∧ B ≤ b := by
  unfold Hp.mapAt at h
  split at h
  · rename_i es' k ho
    cases h
    obtain ⟨x, hx, hr⟩ := hW.obj i _ b base S ho hb
    cases hr with
    | map _ _ _ _ _ ms hB hl he => exact ⟨ho, ms, hx, ⟨by simpa using hl, fun i e m h1 h2 => he i e m h1 (by simpa using h2)⟩, hB⟩
  · cases h

theorem VRel.inv_map {i : Nat} {v : Value} (h : VRel V (.map (some i)) v) : ∃ b base S, V.blk i = some (b, base, S) ∧ v = .map (some b) := by
  cases h with
  | map _ b base S h => exact ⟨b, base, S, h, rfl⟩

theorem run_getMap {b : Nat} {ms : Array MapEntry} {clock : Nat} (h : w.heap[b]? = some (.map ms clock)) : (getObj b).run P w = .ok (.map ms clock) w := by
  simp [getObj, Sem.run, h]

theorem run_lookup {t kt et : TypeId} (hu : undl P t = some (.map kt et)) {u z zv : Value} {ms : Array MapEntry} (hsrc : (u = .map none ∧ ms = #[]) ∨ ∃ b clock, u = .map (some b) ∧ w.heap[b]? = some (.map ms clock))
    (hc : ∀ b, (Instr.checkKey b 10000 kt z).run P w = .ok () w) {q : Option (Nat × Value)} (hq : (Instr.findKey kt z ms.toList).run P w = .ok q w) (hz : (zeroValue et).run P w = .ok zv w) (ok : Bool) :
    (Instr.lookup t u z ok).run P w = .ok (match q with
      | some (_, v) => if ok then .tuple #[v, .bool true] else v
      | none => if ok then .tuple #[zv, .bool false] else zv) w := by
  rcases hsrc with ⟨rfl, rfl⟩ | ⟨b, clock, rfl, hb⟩
  · cases q with
    | none => simp [Instr.lookup, run_undl hu, hc, hq, hz]
    | some p => simp [Instr.lookup, run_undl hu, hc, hq]
  · cases q with
    | none => simp [Instr.lookup, run_undl hu, hc, hq, hz, run_getMap hb]
    | some p => simp [Instr.lookup, run_undl hu, hc, hq, run_getMap hb]

theorem doLookup_sound (hF : FOk F V.ρ) (hW : WRel B w0 V H w) {t : TypeId} {x k : OV} {ok : Bool} {r : ANext} {u z : Value} (hx : ∀ v, x = some v → VRel V v u) (hk : ∀ v, k = some v → VRel V v z)
    (h : doLookup P F t x k ok H = some r) : ∃ v v', r = .val v H ∧ VRel V v v' ∧ (Instr.lookup t u z ok).run P w = .ok v' w := by
  unfold doLookup at h
  split at h
  · rename_i x k
    replace hx := hx _ rfl
    replace hk := hk _ rfl
    obtain ⟨v, hv, rfl⟩ := ofVal_some h
    clear h
    unfold lookupA at hv
    split at hv
    · rename_i kt et hu
      cases hf : keyFits P kt k with
      | false => rw [hf] at hv; cases hv
      | true =>
        rw [hf] at hv
        simp only [cond_true] at hv
        split at hv
        · cases hv
        · rename_i zv hz
          obtain ⟨zv', rz, hzr⟩ := run_zero (P := P) hz
          split at hv
          · cases hv
          · rename_i es he
            have fin : ∀ (ms : Array MapEntry), MRel V es ms.toList → ((u = .map none ∧ ms = #[]) ∨ ∃ b clock, u = .map (some b) ∧ w.heap[b]? = some (.map ms clock)) → ∃ v', VRel V v v' ∧ (Instr.lookup t u z ok).run P w = .ok v' w := by
              intro ms hm hsrc
              cases hfe : findE (aeq P F H 3 kt) k es 0 with
              | none => rw [hfe] at hv; cases hv
              | some q =>
                obtain ⟨q', h1, h2⟩ := findKey_sound hF hW hk hf hm hfe
                rw [hfe] at hv
                have run := run_lookup hu hsrc (fun b => run_checkKey' hf hk b w) h1 (rz w) ok
                refine ⟨_, ?_, run⟩
                rcases h2 with ⟨rfl, rfl⟩ | ⟨j, e, m, rfl, rfl, h3, h4⟩
                · cases ok
                  · cases hv; exact hzr V
                  · cases hv
                    exact VRel.tupleA (.cons (hzr V) (.cons (.bool false) .nil))
                · have hE := hm.2 j e m h3 h4
                  cases ok
                  · cases hv; exact hE.val
                  · cases hv
                    exact VRel.tupleA (.cons hE.val (.cons (.bool true) .nil))
            have res : ∃ v', VRel V v v' ∧ (Instr.lookup t u z ok).run P w = .ok v' w := by
              split at he
              · cases he
                cases hx
                exact fin #[] ⟨rfl, fun i e m h => by simp at h⟩ (.inl ⟨rfl, rfl⟩)
              · rename_i r
                split at he
                · rename_i es' clock hma
                  cases he
                  obtain ⟨b, base, S, hb, rfl⟩ := hx.inv_map
                  obtain ⟨_, ms, hms, hmr, _⟩ := mapAt_rel hW hb hma
                  exact fin ms hmr (.inr ⟨b, clock, rfl, hms⟩)
                · cases he
              · cases he
            obtain ⟨v', h1, h2⟩ := res
            exact ⟨v, v', rfl, h1, h2⟩
    · cases hv
  · cases h
end Go.Px
