/- Operations that turn nothing: all of them. -/
import Derived.Test.YtlhcpplnlgehbaaGreatPQuiet6
import Derived.Laws.Build
namespace Go.Px
open Go Go.RowKit

variable {P : Program} {F : Facts} {V : Val} {B : Nat} {w0 w : World} {H : Hp}

theorem places_sound : ∀ (l : List Field) (pl : List (Nat × Nat)), placesOf P l = some pl → ∀ w, (l.mapM fun f => (do pure (f.offset, ← sizeOf f.type) : Sem (Nat × Nat))).run P w = .ok pl w := by
  intro l
  induction l with
  | nil => intro pl h w; cases h; simp
  | cons f l ih =>
    intro pl h w
    simp only [placesOf] at h
    split at h
    · cases h
    · rename_i n hn
      split at h
      · cases h
      · rename_i pl' hp
        cases h
        rw [List.mapM_cons]
        simp only [Sem.run_bind, run_size hn, Result.andThen_ok, Sem.run_pure, ih pl' hp w]

theorem doBuild_sound {t : TypeId} {l : Option (List (Nat × AVal))} {m : Array (Nat × Value)} {r : ANext} (hl : ∀ x, l = some x → PartsRel V x m.toList ∧ ∀ p, p ∈ x → ∀ u, u ∈ p.2.cells → u.isCell = true)
    (h : doBuild P t (zeroOf P t) l H = some r) (w : World) : ∃ v v', r = .val v H ∧ VRel V v v' ∧ (Instr.build t m).run P w = .ok v' w := by
  unfold doBuild at h
  split at h
  · rename_i z l hz
    obtain ⟨zv, rz, hzr⟩ := run_zero (P := P) hz
    obtain ⟨hp, hpc⟩ := hl l rfl
    have hzc := (hzr V).cells
    split at h
    · rename_i fs hu
      cases ht : z.isTuple with
      | true => simp only [ht, cond_true] at h; cases h
      | false =>
      simp only [ht, cond_false] at h
      split at h
      · rename_i pl hpl
        split at h
        · rename_i cs hf
          cases h
          have harr : (fun (i : Nat) => pl[i]?) = (fun (i : Nat) => pl.toArray[i]?) := by funext i; simp
          rw [harr] at hf
          obtain ⟨y, h1, h2, h3, _⟩ := fill_sound l m.toList z.cells zv.cells cs hp hzc (cells_are (hzr V) ht) hpc hf
          refine ⟨.agg cs, .agg y, rfl, VRel.aggA h2 h3, ?_⟩
          simp only [Instr.build, Sem.run_bind, rz, Result.andThen_ok, run_undl hu]
          rw [Array.mapM_eq_mapM_toList]
          simp only [Sem.run_map, places_sound fs.toList pl hpl w, Result.andThen_ok, h1, Sem.run_pure]
        · cases h
      · cases h
    · rename_i n e hu
      cases ht : z.isTuple with
      | true => simp only [ht, cond_true] at h; cases h
      | false =>
      simp only [ht, cond_false] at h
      split at h
      · rename_i size hs
        split at h
        · rename_i cs hf
          cases h
          obtain ⟨y, h1, h2, h3, _⟩ := fill_sound l m.toList z.cells zv.cells cs hp hzc (cells_are (hzr V) ht) hpc hf
          refine ⟨.agg cs, .agg y, rfl, VRel.aggA h2 h3, ?_⟩
          simp only [Instr.build, Sem.run_bind, rz, Result.andThen_ok, run_undl hu, run_size hs, h1, Sem.run_pure]
        · cases h
      · cases h
    · cases h
  · cases h

theorem doIface_sound {t : TypeId} {x : OV} {r : ANext} {u : Value} (hx : ∀ v, x = some v → VRel V v u) (h : doIface P t x H = some r) (w : World) :
    ∃ v v', r = .val v H ∧ VRel V v v' ∧ (Instr.makeInterface t u).run P w = .ok v' w := by
  unfold doIface at h
  split at h
  · cases h
  · rename_i v d hne hu
    cases h
    refine ⟨_, _, rfl, .iface t v u (hx v rfl), ?_⟩
    simp only [Instr.makeInterface, Sem.run_bind, run_undl hu, Result.andThen_ok, Sem.run_pure]
  · cases h

theorem doExtract_sound {x : OV} {n : Nat} {r : ANext} {u : Value} (hx : ∀ v, x = some v → VRel V v u) (h : doExtract x n H = some r) (w : World) :
    ∃ v v', r = .val v H ∧ VRel V v v' ∧ (Instr.extract u n).run P w = .ok v' w := by
  unfold doExtract at h
  split at h
  · rename_i vs
    obtain ⟨y, rfl, hl⟩ := (hx _ rfl).inv_tuple
    obtain ⟨v, hv, rfl⟩ := ofVal_some h
    obtain ⟨v', h1, h2⟩ := hl.at n v hv
    have h1' : y[n]? = some v' := by simpa using h1
    exact ⟨v, v', rfl, h2, by simp [Instr.extract, h1']⟩
  · cases h

theorem doAssert_sound {x : OV} {xt t : TypeId} {ok : Bool} {r : ANext} {u : Value} (hx : ∀ v, x = some v → VRel V v u) (h : doAssert P x t ok H = some r) (w : World) :
    ∃ v v', r = .val v H ∧ VRel V v v' ∧ (Instr.typeAssert u xt t ok).run P w = .ok v' w := by
  unfold doAssert at h
  split at h
  · cases h
  · rename_i d hne hu
    cases hx _ rfl
    cases ok with
    | false => cases h
    | true =>
      simp only [cond_true] at h
      split at h
      · rename_i z hz
        cases h
        obtain ⟨zv, rz, hzr⟩ := run_zero (P := P) hz
        refine ⟨_, .tuple #[zv, .bool false], rfl, VRel.tupleA (.cons (hzr V) (.cons (.bool false) .nil)), ?_⟩
        cases d <;> first
          | exact absurd rfl (hne _)
          | simp [Instr.typeAssert, run_undl hu, rz]
      · cases h
  · rename_i t' v d hne hu
    have hv := hx _ rfl
    cases hv with
    | iface _ _ u' hv =>
    cases he : Nat.beq t' t with
    | false => rw [he] at h; cases h
    | true =>
      rw [he] at h
      have he := Nat.eq_of_beq_eq_true he
      subst he
      cases h
      cases ok with
      | true =>
        refine ⟨_, .tuple #[u', .bool true], rfl, VRel.tupleA (.cons hv (.cons (.bool true) .nil)), ?_⟩
        cases d <;> first
          | exact absurd rfl (hne _)
          | simp [Instr.typeAssert, run_undl hu]
      | false =>
        refine ⟨_, u', rfl, hv, ?_⟩
        cases d <;> first
          | exact absurd rfl (hne _)
          | simp [Instr.typeAssert, run_undl hu]
  · cases h

theorem aint_rel (V : Val) (n : Nat) : VRel V (aint n) (goInt n) := .int .i64 (.lit (.ofNat n))

theorem lenB_sound (hW : WRel B w0 V H w) {t ty : TypeId} {ts : Array TypeId} {x : AVal} {u : Value} {us : Array Value} (hts : ts[0]? = some t) (hus : us[0]? = some u) (hx : VRel V x u) {v : AVal} (h : lenB P H t x = some v) :
    ∃ v', VRel V v v' ∧ (Builtin.len_ ts ty us).run P w = .ok v' w := by
  unfold lenB at h
  split at h
  · rename_i s hu
    obtain ⟨q, rfl, hq⟩ := hx.inv_str
    cases hb : allBytes s with
    | false => rw [hb] at h; cases h
    | true =>
      rw [hb] at h; cases h
      exact ⟨_, aint_rel V _, by simp [Builtin.len_, hts, hus, run_undl hu, str_size hb hq]⟩
  · rename_i n e hu
    cases h
    exact ⟨_, aint_rel V _, by simp [Builtin.len_, hts, hus, run_undl hu]⟩
  · rename_i e a n c es hu
    cases h
    cases hx with
    | sliceN es => exact ⟨_, aint_rel V _, by simp [Builtin.len_, hts, hus, run_undl hu]⟩
    | slice => exact ⟨_, aint_rel V _, by simp [Builtin.len_, hts, hus, run_undl hu]⟩
  · rename_i k e hu
    cases h
    cases hx
    exact ⟨_, aint_rel V _, by simp [Builtin.len_, hts, hus, run_undl hu]⟩
  · rename_i k e i hu
    split at h
    · rename_i es clock hm
      cases h
      obtain ⟨b, base, S, hb, rfl⟩ := hx.inv_map
      obtain ⟨_, ms, hms, hmr, _⟩ := mapAt_rel hW hb hm
      have : es.length = ms.size := by simpa using hmr.1
      exact ⟨_, aint_rel V _, by simp [Builtin.len_, hts, hus, run_undl hu, run_getMap hms, this]⟩
    · cases h
  · rename_i d e i hu
    split at h
    · rename_i cap buf s r ho
      cases h
      cases hx with
      | chan _ b base S hb =>
        obtain ⟨x, hxx, hr⟩ := hW.obj i _ b base S ho hb
        cases hr with
        | chan _ _ _ _ _ _ _ x hB hl =>
          have : buf.length = x.size := by simpa using hl.length
          refine ⟨_, aint_rel V _, ?_⟩
          have hg : (getObj b).run P w = .ok (.chan cap x false s r false) w := by simp [getObj, Sem.run, hxx]
          simp [Builtin.len_, hts, hus, run_undl hu, hg, this]
    · cases h
  · cases h

theorem VRel.inv_func {f : FuncId} {x y : List AVal} {v : Value} (h : VRel V (.func f x y) v) : ∃ p q, v = .func (.func f) p q := by
  cases h with
  | func _ _ _ p q => exact ⟨p, q, rfl⟩

theorem fold_sound {f : AVal → AVal → Option AVal} {g : Value → Value → Sem Value} (hfg : ∀ a b c u v, f a b = some c → VRel V a u → VRel V b v → ∃ c', VRel V c c' ∧ (g u v).run P w = .ok c' w) :
    ∀ (xs : List AVal) (us : List Value) (x c : AVal) (u : Value), LRel V xs us → VRel V x u → foldA f x xs = some c → ∃ c', VRel V c c' ∧ (us.foldlM g u).run P w = .ok c' w := by
  intro xs
  induction xs with
  | nil => intro us x c u hl hx h; cases hl; cases h; exact ⟨u, hx, by simp⟩
  | cons y xs ih =>
    intro us x c u hl hx h
    cases hl with
    | cons hy hl =>
      simp only [foldA] at h
      split at h
      · rename_i z hz
        obtain ⟨z', h1, h2⟩ := hfg _ _ _ _ _ hz hx hy
        obtain ⟨c', h3, h4⟩ := ih _ _ _ _ hl h1 h
        exact ⟨c', h3, by simp [List.foldlM_cons, h2, h4]⟩
      · cases h

theorem min2_sound (hF : FOk F V.ρ) (a b c : AVal) (u v : Value) (h : minA F a b = some c) (ha : VRel V a u) (hb : VRel V b v) : ∃ c', VRel V c c' ∧ (Builtin.min2 u v).run P w = .ok c' w := by
  unfold minA at h
  split at h
  · rename_i k s j q
    obtain rfl := ha.inv_int
    obtain rfl := hb.inv_int
    split at h
    · rename_i e
      cases h
      have := SInt.lt_ev hF e
      refine ⟨_, .int k q, ?_⟩
      have : q.ev V.ρ < s.ev V.ρ := of_decide_eq_true this.symm
      simp [Builtin.min2, this]
    · rename_i e
      cases h
      have := SInt.lt_ev hF e
      refine ⟨_, .int k s, ?_⟩
      have : ¬ q.ev V.ρ < s.ev V.ρ := of_decide_eq_false this.symm
      simp [Builtin.min2, this]
    · cases h
  · cases h
theorem max2_sound (hF : FOk F V.ρ) (a b c : AVal) (u v : Value) (h : maxA F a b = some c) (ha : VRel V a u) (hb : VRel V b v) : ∃ c', VRel V c c' ∧ (Builtin.max2 u v).run P w = .ok c' w := by
  unfold maxA at h
  split at h
  · rename_i k s j q
    obtain rfl := ha.inv_int
    obtain rfl := hb.inv_int
    split at h
    · rename_i e
      cases h
      have := SInt.lt_ev hF e
      refine ⟨_, .int k q, ?_⟩
      have : q.ev V.ρ > s.ev V.ρ := of_decide_eq_true this.symm
      simp [Builtin.max2, this]
    · rename_i e
      cases h
      have := SInt.lt_ev hF e
      refine ⟨_, .int k s, ?_⟩
      have : ¬ q.ev V.ρ > s.ev V.ρ := of_decide_eq_false this.symm
      simp [Builtin.max2, this]
    · cases h
  · cases h

/-- Builtins that turn nothing. -/
def quietB : Builtin → Bool
  | .len => true
  | .cap => true
  | .min => true
  | .max => true
  | _ => false

theorem builtin_quiet (hF : FOk F V.ρ) (hW : WRel B w0 V H w) {b : Builtin} (hb : quietB b = true) {ts : Array TypeId} {ty : TypeId} {cs : Array Bool} {args : List AVal} {us : Array Value} (hl : LRel V args us.toList) {r : ANext}
    (h : builtinA P F b ts.toList H args = some r) : ∃ v v', r = .val v H ∧ VRel V v v' ∧ (builtin b ts ty cs us).run P w = .ok (.value v') w := by
  cases b <;> simp only [quietB] at hb <;> try (cases hb; done)
  · -- cap
    simp only [builtinA] at h
    split at h
    · rename_i t ts' a n c es as ht
      obtain ⟨q, e1, e2⟩ := hl.at 0 _ rfl
      have ht' : ts[0]? = some t := by have : ts.toList[0]? = some t := by rw [ht]; rfl
                                       simpa using this
      have hu' : us[0]? = some q := by simpa using e1
      split at h
      · rename_i e hu
        cases h
        cases e2 with
        | sliceN es => exact ⟨_, goInt 0, rfl, aint_rel V 0, by simp [builtin, Builtin.cap_, ht', hu', run_undl hu]⟩
        | slice i off len _ _ b base S c' hb' hl' hc' hS =>
          have := hc' c rfl
          subst this
          exact ⟨_, goInt c', rfl, aint_rel V c', by simp [builtin, Builtin.cap_, ht', hu', run_undl hu]⟩
      · cases h
    · cases h
  · -- len
    simp only [builtinA] at h
    split at h
    · rename_i t ts' x as ht
      obtain ⟨v, hv, rfl⟩ := ofVal_some h
      obtain ⟨q, e1, e2⟩ := hl.at 0 _ rfl
      have ht' : ts[0]? = some t := by have : ts.toList[0]? = some t := by rw [ht]; rfl
                                       simpa using this
      have hu' : us[0]? = some q := by simpa using e1
      obtain ⟨v', h1, h2⟩ := lenB_sound hW (ty := ty) ht' hu' e2 hv
      exact ⟨v, v', rfl, h1, by simp [builtin, h2]⟩
    · cases h
  · -- max
    simp only [builtinA] at h
    split at h
    · rename_i x xs
      obtain ⟨v, hv, rfl⟩ := ofVal_some h
      cases hu : us.toList with
      | nil => rw [hu] at hl; cases hl
      | cons u us' =>
        rw [hu] at hl
        cases hl with
        | cons hx hl =>
          obtain ⟨v', h1, h2⟩ := fold_sound (P := P) (w := w) (max2_sound hF) xs us' x v u hl hx hv
          exact ⟨v, v', rfl, h1, by simp [builtin, Builtin.max_, hu, h2]⟩
    · cases h
  · -- min
    simp only [builtinA] at h
    split at h
    · rename_i x xs
      obtain ⟨v, hv, rfl⟩ := ofVal_some h
      cases hu : us.toList with
      | nil => rw [hu] at hl; cases hl
      | cons u us' =>
        rw [hu] at hl
        cases hl with
        | cons hx hl =>
          obtain ⟨v', h1, h2⟩ := fold_sound (P := P) (w := w) (min2_sound hF) xs us' x v u hl hx hv
          exact ⟨v, v', rfl, h1, by simp [builtin, Builtin.min_, hu, h2]⟩
    · cases h

/-- Operations that turn nothing. -/
def quietOp : Op → Bool
  | .move _ | .assign _ | .pick .. | .build .. | .load .. | .nilCheck _ | .binOp .. | .unOp .. | .convert .. | .makeInterface .. | .makeFunc .. | .slice .. | .fieldAddr .. | .field .. | .indexAddr ..
  | .index .. | .lookup .. | .extract .. | .typeAssert .. => true
  | .call c => match c.callee with
    | .builtin b => quietB b
    | _ => false
  | _ => false

theorem optRel_of {T : Tm} {a : Act} {x : Option Operand} (hT : ∀ y, x = some y → ∀ v, opnd T y = some v → VRel V v (a.eval y)) (hn : x.map (opnd T) ≠ some none) : OptRel V ((x.map (opnd T)).getD none) (x.map a.eval) := by
  cases x with
  | none => exact .none
  | some x =>
    simp only [Option.map_some] at hn ⊢
    cases hx : opnd T x with
    | none => rw [hx] at hn; exact absurd rfl hn
    | some v => exact .some (hT x rfl v hx)

theorem quiet_sound (hF : FOk F V.ρ) (hW : WRel B w0 V H w) {T : Tm} {a : Act} {o : Oper} (hT : Looks V T a o.op.operands) (hq : quietOp o.op = true) {r : ANext} (h : aop P F T H o = some r) :
    ∃ v v', r = .val v H ∧ VRel V v v' ∧ (execOp a.eval o).run P w = .ok (.value v') w := by
  obtain ⟨dst, op, ty, pos, after, guard⟩ := o
  have ev : ∀ {x : Operand}, x ∈ op.operands → ∀ v, opnd T x = some v → VRel V v (a.eval x) := fun hx v h => hT _ hx v h
  clear hT
  have lift : ∀ {s : Sem Value} {r : ANext}, (∃ v v', r = .val v H ∧ VRel V v v' ∧ s.run P w = .ok v' w) → (execOp a.eval ⟨dst, op, ty, pos, after, guard⟩) = (do pure (.value (← s))) →
      ∃ v v', r = .val v H ∧ VRel V v v' ∧ (execOp a.eval ⟨dst, op, ty, pos, after, guard⟩).run P w = .ok (.value v') w := by
    intro s r ⟨v, v', h1, h2, h3⟩ e
    exact ⟨v, v', h1, h2, by rw [e]; simp [h3]⟩
  cases op <;> simp only [quietOp] at hq <;> try (cases hq; done)
  case move x =>
    obtain ⟨v, hv, rfl⟩ := ofVal_some h
    exact ⟨v, _, rfl, ev (by simp [Op.operands]) _ hv, rfl⟩
  case assign x =>
    obtain ⟨v, hv, rfl⟩ := ofVal_some h
    exact ⟨v, _, rfl, ev (by simp [Op.operands]) _ hv, rfl⟩
  case pick c x y =>
    simp only [aop, doPick] at h
    split at h
    · rename_i b hc
      obtain ⟨v, hv, rfl⟩ := ofVal_some h
      have hc' := (ev (x := c) (by simp [Op.operands]) _ hc).inv_bool
      cases b with
      | true => exact ⟨v, _, rfl, ev (by simp [Op.operands]) _ hv, by simp [execOp, hc', asBool]⟩
      | false => exact ⟨v, _, rfl, ev (by simp [Op.operands]) _ hv, by simp [execOp, hc', asBool]⟩
    · cases h
  case build t parts =>
    refine lift (doBuild_sound (m := parts.map fun (i, x) => (i, a.eval x)) (fun x hx => ?_) h w) rfl
    have := partsOf_rel (a := a) (V := V) (fun y hy => ev (by simpa [Op.operands] using hy)) hx
    simpa using this
  case load t x => exact lift (doLoad_sound hW (ev (by simp [Op.operands])) h) rfl
  case nilCheck x =>
    simp only [aop, doNilCheck] at h
    split at h
    · rename_i p hx
      cases h
      obtain ⟨i, off⟩ := p
      have hv := ev (by simp [Op.operands]) _ hx
      obtain ⟨b, base, S, hb, he⟩ := hv.inv_ptr
      exact ⟨_, _, rfl, hv, by simp [execOp, he]⟩
    · rename_i f x' y' hx
      cases h
      have hv := ev (by simp [Op.operands]) _ hx
      obtain ⟨p, q, he⟩ := hv.inv_func
      exact ⟨_, _, rfl, hv, by simp [execOp, he]⟩
    · cases h
  case binOp op t x y yt =>
    obtain ⟨z, z', h1, h2, h3, h4⟩ := doBin_sound (x := x) (y := y) hF hW (ev (by simp [Op.operands])) (ev (by simp [Op.operands])) h
    exact ⟨z, z', h1, h2, by simp [execOp, h3, h4]⟩
  case unOp op t x => exact lift (doUn_sound hF (ev (by simp [Op.operands])) h w) rfl
  case convert s d x => exact lift (doConv_sound hF (ev (by simp [Op.operands])) h w) rfl
  case makeInterface t x => exact lift (doIface_sound (ev (by simp [Op.operands])) h w) rfl
  case makeFunc f xs ys =>
    simp only [aop, doFunc] at h
    split at h
    · rename_i f u v hu hv
      cases h
      have h1 := opnds_rel (a := a) (V := V) (fun y hy => ev (by simp [Op.operands]; left; simpa using hy)) hu
      have h2 := opnds_rel (a := a) (V := V) (fun y hy => ev (by simp [Op.operands]; right; simpa using hy)) hv
      refine ⟨_, _, rfl, ?_, rfl⟩
      exact .func f u v _ _ (by simpa using h1.length) (by simpa using h2.length) (fun i p q hp hq => h1.pt i p q hp (by simpa using hq)) (fun i p q hp hq => h2.pt i p q hp (by simpa using hq))
    · cases h
  case slice t x lo hi mx =>
    simp only [aop, doSlice] at h
    split at h
    · cases h
    · cases h
    · cases h
    · rename_i l1 l2 l3 v hx h1 h2 h3
      obtain ⟨z, hz, rfl⟩ := ofVal_some h
      obtain ⟨z', h4, h5⟩ := sliceA_sound hW (ev (by simp [Op.operands]) _ hx) (optRel_of (fun y hy => ev (by simp [Op.operands, hy])) h1) (optRel_of (fun y hy => ev (by simp [Op.operands, hy])) h2) (optRel_of (fun y hy => ev (by simp [Op.operands, hy])) h3) hz
      exact ⟨z, z', rfl, h4, by simp [execOp, h5]⟩
    · cases h
  case fieldAddr t x n => exact lift (doFieldAddr_sound (ev (by simp [Op.operands])) h w) rfl
  case field t x n => exact lift (doField_sound (ev (by simp [Op.operands])) h w) rfl
  case indexAddr t x y => exact lift (doIndexAddr_sound (ev (by simp [Op.operands])) (ev (by simp [Op.operands])) h w) rfl
  case index t x y => exact lift (doIndex_sound (ev (by simp [Op.operands])) (ev (by simp [Op.operands])) h w) rfl
  case lookup t x k ok => exact lift (doLookup_sound hF hW (ev (by simp [Op.operands])) (ev (by simp [Op.operands])) h) rfl
  case extract x n => exact lift (doExtract_sound (ev (by simp [Op.operands])) h w) rfl
  case typeAssert x xt t ok => exact lift (doAssert_sound (ev (by simp [Op.operands])) h w) rfl
  case call c =>
    obtain ⟨callee, args, ats⟩ := c
    cases callee <;> simp only at hq <;> try (cases hq; done)
    case builtin b =>
      simp only [aop, doBuiltin] at h
      split at h
      · rename_i as has
        have hl := opnds_rel (a := a) (V := V) (fun y hy => ev (by simp [Op.operands, Call.operands]; simpa using hy)) has
        have := builtin_quiet (ty := ty) (cs := args.map fun | .const _ => true | _ => false) (us := args.map a.eval) hF hW hq (by simpa using hl) h
        obtain ⟨v, v', h1, h2, h3⟩ := this
        refine ⟨v, v', h1, h2, ?_⟩
        simp only [execOp, resolve, Sem.run_bind, Sem.run_pure, Result.andThen_ok, invoke]
        exact h3
      · cases h
end Go.Px
