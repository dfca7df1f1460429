/- Operations that turn nothing: equality, shifts, strings, conversions. -/
import Derived.Test.YtlhcpplnlgehbaaGreatPQuiet2
import Derived.Laws.StructEq
namespace Go.Px
open Go Go.RowKit

variable {P : Program} {F : Facts} {V : Val} {B : Nat} {w0 w : World} {H : Hp}

theorem natsBeq_iff (a b : List Nat) : natsBeq a b = true ↔ a = b := by
  induction a generalizing b with
  | nil => cases b <;> simp [natsBeq]
  | cons x l ih => cases b with
    | nil => simp [natsBeq]
    | cons y m => simp [natsBeq, ih]

theorem bytes_inj {a b : List Nat} (ha : allBytes a = true) (hb : allBytes b = true) (h : a.map UInt8.ofNat = b.map UInt8.ofNat) : a = b := by
  induction a generalizing b with
  | nil => cases b with
    | nil => rfl
    | cons y m => simp at h
  | cons x l ih => cases b with
    | nil => simp at h
    | cons y m =>
      simp only [List.map_cons, List.cons.injEq] at h
      have hx := (allBytes_iff _).1 ha
      have hy := (allBytes_iff _).1 hb
      have e : x = y := by
        have := congrArg UInt8.toNat h.1
        rw [UInt8.toNat_ofNat_of_lt' (hx x (by simp)), UInt8.toNat_ofNat_of_lt' (hy y (by simp))] at this
        exact this
      rw [e, ih ((allBytes_iff _).2 fun n hn => hx n (by simp [hn])) ((allBytes_iff _).2 fun n hn => hy n (by simp [hn])) h.2]

/-- Two strings held against each other. -/
theorem str_eq {a b : List Nat} {s t : ByteArray} (hs : s.data.toList = strEv V.ρ a) (ht : t.data.toList = strEv V.ρ b) {c : Bool}
    (h : (bif natsBeq a b then some true else bif allBytes a && allBytes b then some false else none) = some c) : (s.toList == t.toList) = c := by
  rw [ByteArray.toList_eq, ByteArray.toList_eq, hs, ht]
  cases e : natsBeq a b with
  | true => rw [e] at h; cases h; rw [(natsBeq_iff a b).1 e]; simp
  | false =>
    rw [e] at h
    cases e2 : allBytes a && allBytes b with
    | false => rw [e2] at h; cases h
    | true =>
      rw [e2] at h; cases h
      rw [Bool.and_eq_true] at e2
      rw [strEv_lit _ _ ((allBytes_iff a).1 e2.1), strEv_lit _ _ ((allBytes_iff b).1 e2.2)]
      apply beq_eq_false_iff_ne.2
      intro hh
      rw [(natsBeq_iff a b).2 (bytes_inj e2.1 e2.2 hh)] at e
      cases e

/-- Equality as it is reckoned is the model's. -/
def EqOk (P : Program) (V : Val) (B : Nat) (w0 : World) (H : Hp) (d : Nat) (eq : TypeId → AVal → AVal → Option Bool) : Prop :=
  ∀ t x y c, eq t x y = some c → ∀ u v w, WRel B w0 V H w → VRel V x u → VRel V y v → ∀ d', d ≤ d' → (Op.equalIn d' t u v).run P w = .ok c w

theorem elems_sound {d d' : Nat} {eq : TypeId → AVal → AVal → Option Bool} (hd : d ≤ d') (ih : EqOk P V B w0 H d eq) {e : TypeId} {n : Nat} {as bs : List AVal} {xs ys : Array Value}
    (hx : LRel V as xs.toList) (hy : LRel V bs ys.toList) (hcx : ∀ u, u ∈ as → u.isCell = true) (hcy : ∀ u, u ∈ bs → u.isCell = true) (hW : WRel B w0 V H w) :
    ∀ (m i : Nat) (c : Bool), elemsEq (eq e) P e n as bs m i = some c →
    (forIn (List.range' i m) ((none, ()) : Option Bool × Unit) (fun i __s => do
        if (!(← Op.equalIn d' e (← part e xs (i * n)) (← part e ys (i * n)))) = true then pure (.done (some false, ())) else pure (.yield (none, ()))) : Sem (Option Bool × Unit)).run P w =
      .ok (if c then (none, ()) else (some false, ())) w := by
  intro m
  induction m with
  | zero => intro i c h; cases h; simp
  | succ m ihm =>
    intro i c h
    simp only [elemsEq] at h
    split at h
    · rename_i a b ha hb
      obtain ⟨a', ra, ha'⟩ := part_sound ha hx hcx w
      obtain ⟨b', rb, hb'⟩ := part_sound hb hy hcy w
      rw [List.range'_succ, List.forIn_cons]
      cases he : eq e a b with
      | none => rw [he] at h; cases h
      | some r =>
        rw [he] at h
        have hr := ih e a b r he a' b' w hW ra rb d' hd
        simp only [Sem.run_bind, ha', hb', hr, Result.andThen_ok]
        cases r with
        | true => simpa using ihm (i + 1) c h
        | false => cases h; simp
    · cases h

theorem fields_sound {d d' : Nat} {eq : TypeId → AVal → AVal → Option Bool} (hd : d ≤ d') (ih : EqOk P V B w0 H d eq) {as bs : List AVal} {xs ys : Array Value}
    (hx : LRel V as xs.toList) (hy : LRel V bs ys.toList) (hcx : ∀ u, u ∈ as → u.isCell = true) (hcy : ∀ u, u ∈ bs → u.isCell = true) (hW : WRel B w0 V H w) :
    ∀ (fs : List Field) (c : Bool), fieldsEq eq P as bs fs = some c → (Op.eqFields d' xs ys fs).run P w = .ok c w := by
  intro fs
  induction fs with
  | nil => intro c h; cases h; simp [Op.eqFields]
  | cons f fs ihf =>
    intro c h
    simp only [fieldsEq] at h
    cases hn : f.name == "_" with
    | true => rw [hn] at h; cases h
    | false =>
      rw [hn] at h
      simp only [cond_false] at h
      have hn' : f.name ≠ "_" := by simpa using hn
      split at h
      · rename_i a b ha hb
        obtain ⟨a', ra, ha'⟩ := part_sound ha hx hcx w
        obtain ⟨b', rb, hb'⟩ := part_sound hb hy hcy w
        cases he : eq f.type a b with
        | none => rw [he] at h; cases h
        | some r =>
          rw [he] at h
          have hr := ih f.type a b r he a' b' w hW ra rb d' hd
          simp only [Op.eqFields, if_pos hn', Sem.run_bind, ha', hb', hr, Result.andThen_ok]
          cases r with
          | true => simpa using ihf c h
          | false => cases h; simp
      · cases h

theorem row_block (hW : WRel B w0 V H w) {i n b base S : Nat} (hi : H.row i = some n) (hb : V.blk i = some (b, base, S)) :
    ∃ o arr el fz, H.t.get i = some o ∧ w.heap[b]? = some (.cells arr el fz) := by
  unfold Hp.row at hi
  split at hi
  · rename_i rw c m ho
    obtain ⟨x, hx, hr⟩ := hW.obj i _ b base S ho hb
    cases hr with
    | cells _ _ _ _ _ _ arr el fz => exact ⟨_, arr, el, fz, ho, hx⟩
  · cases hi

theorem row_rw (hW : WRel B w0 V H w) {i n b base S : Nat} (hi : H.rowW i = some n) (hb : V.blk i = some (b, base, S)) :
    ∃ o arr el, H.t.get i = some o ∧ w.heap[b]? = some (.cells arr el (0, 0)) := by
  unfold Hp.rowW at hi
  split at hi
  · rename_i c m ho
    obtain ⟨x, hx, hr⟩ := hW.obj i _ b base S ho hb
    cases hr with
    | cells _ _ _ _ _ _ arr el fz hrw => obtain ⟨rfl, _⟩ := hrw rfl; exact ⟨_, arr, el, ho, hx⟩
  · cases hi

theorem frozen_none {w : World} {b : Nat} {x : Array Value} {el : TypeId} (h : w.heap[b]? = some (.cells x el (0, 0))) (o : Nat) (s : Option Nat) : w.frozen? ⟨b, o, s⟩ = false := by
  simp [World.frozen?, h]

theorem run_sameAddr {a b : Addr} {x y : Array Value} {el el' : TypeId} (ha : w.heap[a.block]? = some (.cells x el (0, 0))) (hb : w.heap[b.block]? = some (.cells y el' (0, 0))) (hne : a.block ≠ b.block) :
    (sameAddr a b).run P w = .ok false w := by
  obtain ⟨ab, ao, as⟩ := a
  obtain ⟨bb, bo, bs⟩ := b
  have f1 := frozen_none ha
  have f2 := frozen_none hb
  have s1 : w.shape? ab = some (el, x.size) := by simp [World.shape?, ha]
  have s2 : w.shape? bb = some (el', y.size) := by simp [World.shape?, hb]
  have hne' : (ab == bb) = false := by simpa using hne
  simp only [sameAddr, hne', Bool.false_eq_true, if_false]
  simp [frozen, shape, Sem.run, Bind.bind, Sem.bind, Pure.pure, noView, viewAt, mayBeOne, stringish, f1, f2, s1, s2]

theorem run_sameAddr_block {b o p : Nat} (w : World) : (sameAddr ⟨b, o, none⟩ ⟨b, p, none⟩).run P w = .ok (o == p) w := by
  have e : ((⟨b, o, none⟩ : Addr) == ⟨b, p, none⟩) = (o == p) := by
    rw [Bool.eq_iff_iff, beq_iff_eq, beq_iff_eq]
    exact ⟨fun h => by cases h; rfl, fun h => by rw [h]⟩
  simp [sameAddr, e]

theorem aeq_sound (hF : FOk F V.ρ) : ∀ n, EqOk P V B w0 H n (aeq P F H n) := by
  intro n
  induction n with
  | zero => intro t x y c h; cases h
  | succ n ih =>
    intro t x y c h u v w hW hx hy d hd
    obtain ⟨d, rfl⟩ : ∃ e, d = e + 1 := ⟨d - 1, by omega⟩
    have hd : n ≤ d := by omega
    unfold aeq at h
    split at h
    · split at h
      · rename_i e
        cases hx; cases hy; cases h
        exact run_equalIn_bool' w d t _ _ e
      · cases h
    · split at h
      · rename_i k a j b _ k' e
        cases hk : kbeq k j with
        | false => rw [hk] at h; cases h
        | true =>
          rw [hk] at h
          have := (kbeq_iff k j).1 hk
          subst this
          cases hx; cases hy
          rw [run_equalIn_int w d t k k' _ _ e, SInt.eq_ev hF h]
          rfl
      · cases h
    · split at h
      · rename_i e
        obtain ⟨s, rfl, hs⟩ := hx.inv_str
        obtain ⟨q, rfl, hq⟩ := hy.inv_str
        rw [run_equalIn_string w d t _ _ e, str_eq hs hq h]
      · cases h
    · split at h
      · rename_i el e
        split at h
        · cases hx; cases hy; cases h
          simp [Op.equalIn, run_undl e]
        · cases hx; cases hy; cases h
          simp [Op.equalIn, run_undl e]
        · cases hx; cases hy; cases h
          simp [Op.equalIn, run_undl e]
        · rename_i i o j p
          obtain ⟨b1, a1, S1, h1, rfl⟩ := hx.inv_ptr
          obtain ⟨b2, a2, S2, h2, rfl⟩ := hy.inv_ptr
          split at h
          · cases h
          · rename_i m hm0 hm
            have hm1 : m ≠ 0 := fun e => hm0 e
            have step : (Op.equalIn (d + 1) t (.pointer (some ⟨b1, a1 + o, none⟩)) (.pointer (some ⟨b2, a2 + p, none⟩))).run P w = (sameAddr ⟨b1, a1 + o, none⟩ ⟨b2, a2 + p, none⟩).run P w := by
              simp [Op.equalIn, run_undl e, run_size hm, hm1]
            rw [step]
            cases hij : Nat.beq i j with
            | true =>
              have := Nat.eq_of_beq_eq_true hij
              subst this
              rw [h1] at h2
              cases h2
              rw [hij] at h
              cases h
              rw [run_sameAddr_block]
              congr 1
              rw [Bool.eq_iff_iff, beq_iff_eq, Nat.beq_eq]
              omega
            | false =>
              rw [hij] at h
              simp only [cond_false] at h
              split at h
              · rename_i r1 r2 hr1 hr2
                cases h
                obtain ⟨o1, x1, e1, ho1, hb1⟩ := row_rw hW hr1 h1
                obtain ⟨o2, x2, e2, ho2, hb2⟩ := row_rw hW hr2 h2
                have hne : i ≠ j := fun e => by rw [e, Nat.beq_refl] at hij; cases hij
                exact run_sameAddr hb1 hb2 (hW.inj i j o1 o2 b1 b2 a1 a2 S1 S2 ho1 ho2 h1 h2 hne)
              · cases h
          · cases h
      · cases h
    · split at h
      · rename_i e
        cases hx; cases hy; cases h
        simp [Op.equalIn, run_undl e]
      · cases h
    · split at h
      · rename_i e
        cases hx; cases hy; cases h
        simp [Op.equalIn, run_undl e]
      · cases h
    · split at h
      · rename_i e
        cases hx; cases hy; cases h
        simp [Op.equalIn, run_undl e]
      · cases h
    · split at h
      · rename_i e
        cases hx; cases h
        cases hy <;> simp [Op.equalIn, run_undl e]
      · cases h
    · split at h
      · rename_i e
        cases hx; cases hy; cases h
        simp [Op.equalIn, run_undl e]
      · cases h
    · split at h
      · rename_i e
        cases hx; cases h
        cases hy <;> simp [Op.equalIn, run_undl e]
      · cases h
    · split at h
      · rename_i e
        cases hx; cases hy; cases h
        simp [Op.equalIn, run_undl e]
      · cases h
    · split at h
      · rename_i e
        cases hx; cases hy; cases h
        simp [Op.equalIn, run_undl e]
      · cases h
    · split at h
      · rename_i e
        cases hx; cases hy; cases h
        simp [Op.equalIn, run_undl e]
      · cases h
    · split at h
      · rename_i e
        cases hx; cases hy; cases h
        simp [Op.equalIn, run_undl e]
      · cases h
    · rename_i xs ys
      obtain ⟨xa, rfl, hlx, hcx⟩ := hx.inv_agg
      obtain ⟨ya, rfl, hly, hcy⟩ := hy.inv_agg
      split at h
      · rename_i fs e
        cases hst : P.stoodInHeld t with
        | true => rw [hst] at h; cases h
        | false =>
          rw [hst] at h
          have e' : P.underlying t = some (.struct (P.fieldsOf t)) := by
            unfold Program.fieldsOf
            have : P.underlying t = some (.struct fs) := e
            rw [this]
          have hfs : P.fieldsOf t = fs := by
            have : P.underlying t = some (.struct fs) := e
            unfold Program.fieldsOf
            rw [this]
          rw [run_equalIn_struct w d t xa ya e' hst, hfs]
          exact fields_sound hd ih hlx hly hcx hcy hW fs.toList c h
      · rename_i len el e
        split at h
        · rename_i m hm
          have := elems_sound hd ih (e := el) (n := m) hlx hly hcx hcy hW len 0 c h
          simp only [Op.equalIn, Sem.run_bind, run_undl e, Result.andThen_ok, run_size hm]
          rw [Std.Legacy.Range.forIn_eq_forIn_range']
          have hsz : (Std.Legacy.Range.mk 0 len 1 (by decide)).size = len := by simp [Std.Legacy.Range.size]
          rw [hsz]
          refine (congrArg (fun r => Result.andThen r _) this).trans ?_
          cases c <;> simp
        · cases h
      · cases h
    · cases h

/-! ### binary, unary, conversions -/
theorem shift_sound (hF : FOk F V.ρ) {op : BinOp} {k yk : IntKind} {x y : SInt} {v : AVal} (ho : op = .shl ∨ op = .shr) (h : shiftOp F op k x y = some v) (t : TypeId) (w : World) :
    ∃ v', VRel V v v' ∧ (binOp op t (.int k (x.ev V.ρ)) (.int yk (y.ev V.ρ))).run P w = .ok v' w := by
  unfold shiftOp at h
  split at h
  · rename_i a b
    split at h
    · cases hb : Nat.ble b 64 with
      | false => rw [hb] at h; cases h
      | true =>
        rw [hb] at h
        simp only [cond_true] at h
        split at h
        · rename_i r hr
          cases h
          have e := SInt.wrap_ev hF hr
          refine ⟨.int k (r.ev V.ρ), .int k r, ?_⟩
          rw [e]
          have hnn : ¬ ((Int.ofNat b) < 0) := by have := Int.natCast_nonneg b; show ¬ ((b : Int) < 0); omega
          show (Op.shift .shl k (Int.ofNat a) yk (Int.ofNat b)).run P w = _
          unfold Op.shift
          rw [if_neg hnn]
          simp only [Sem.run_pure]
          congr 3
        · cases h
    · cases hb : Nat.ble b 64 with
      | false => rw [hb] at h; cases h
      | true =>
        rw [hb] at h
        cases h
        refine ⟨_, .int k (.lit _), ?_⟩
        have hnn : ¬ ((Int.ofNat b) < 0) := by have := Int.natCast_nonneg b; show ¬ ((b : Int) < 0); omega
        show (Op.shift .shr k (Int.ofNat a) yk (Int.ofNat b)).run P w = _
        unfold Op.shift
        rw [if_neg hnn]
        simp only [Sem.run_pure]
        congr 2
        show Int.fdiv (a : Int) (2 ^ (min (Int.ofNat b).toNat k.bits)) = ((a / 2 ^ (Nat.min b k.bits) : Nat) : Int)
        rw [Int.fdiv_eq_ediv_of_nonneg _ (by exact Int.le_of_lt (Int.pow_pos (by decide)))]
        rw [Int.natCast_ediv, Int.natCast_pow]
        rfl
    · cases h
  · cases h

theorem str_size {l : List Nat} {s : ByteArray} (hl : allBytes l = true) (h : s.data.toList = strEv V.ρ l) : s.size = l.length := by
  rw [strEv_lit _ _ ((allBytes_iff l).1 hl)] at h
  have h2 : s.size = s.data.toList.length := by cases s; rfl
  rw [h2, h]; simp

theorem strEv_append (ρ : Nat → Int) (a b : List Nat) : strEv ρ (a ++ b) = strEv ρ a ++ strEv ρ b := by
  induction a with
  | nil => rfl
  | cons x l ih => simp [strEv, ih]

theorem eqGuard_ok {op : BinOp} {t : TypeId} {x y : Operand} {a b : AVal} {u v : Value} (h : eqOk P t (isC x || isC y) a b = true) (ha : VRel V a u) (hb : VRel V b v) (w : World) :
    (eqGuard op t x y u v).run P w = .ok () w := by
  cases op <;> try (exact rfl)
  all_goals
    cases ha <;> cases hb <;> try (exact rfl)
    · simp only [eqOk] at h
      cases x <;> cases y <;> first | (cases h; done) | exact rfl
    · simp only [eqOk, Bool.not_eq_true'] at h
      exact run_eqGuard_agg w _ t x y _ _ h

theorem binA_eql {op : BinOp} (ho : op = .eql ∨ op = .neq) {a b : AVal} {u v : Value} {t : TypeId} {c : Bool} (ha : VRel V a u) (hb : VRel V b v) (hni : ∀ k s j r, ¬ (a = .int k s ∧ b = .int j r)) (hns : ∀ s r, ¬ (a = .str s ∧ b = .str r))
    (h : (Op.equalIn 10000 t u v).run P w = .ok c w) : (binOp op t u v).run P w = .ok (.bool (if op = .eql then c else !c)) w := by
  have h' : (Op.equal t u v).run P w = .ok c w := h
  rcases ho with rfl | rfl
  all_goals
    cases ha <;> cases hb <;> first
      | exact absurd ⟨rfl, rfl⟩ (hni _ _ _ _)
      | exact absurd ⟨rfl, rfl⟩ (hns _ _)
      | (simp only [binOp, Sem.run_bind, h', Result.andThen_ok, Sem.run_pure]; rfl)

theorem doBin_sound (hF : FOk F V.ρ) (hW : WRel B w0 V H w) {op : BinOp} {t : TypeId} {x y : Operand} {a b : OV} {r : ANext} {u v : Value} (ha : ∀ z, a = some z → VRel V z u) (hb : ∀ z, b = some z → VRel V z v)
    (h : doBin P F op t (isC x || isC y) a b H = some r) : ∃ z z', r = .val z H ∧ VRel V z z' ∧ (eqGuard op t x y u v).run P w = .ok () w ∧ (binOp op t u v).run P w = .ok z' w := by
  unfold doBin at h
  split at h
  · rename_i a b
    replace ha := ha _ rfl
    replace hb := hb _ rfl
    obtain ⟨z, hz, rfl⟩ := ofVal_some h
    clear h
    unfold binA at hz
    split at hz
    · rename_i k s j q
      obtain rfl := ha.inv_int
      obtain rfl := hb.inv_int
      have hg : (eqGuard op t x y (.int k (s.ev V.ρ)) (.int j (q.ev V.ρ))).run P w = .ok () w := by cases op <;> rfl
      split at hz
      · obtain ⟨z', h1, h2⟩ := shift_sound (P := P) hF (.inl rfl) hz t w; exact ⟨z, z', rfl, h1, hg, h2⟩
      · obtain ⟨z', h1, h2⟩ := shift_sound (P := P) hF (.inr rfl) hz t w; exact ⟨z, z', rfl, h1, hg, h2⟩
      · cases hk : kbeq k j with
        | false => rw [hk] at hz; cases hz
        | true =>
          rw [hk] at hz
          have := (kbeq_iff k j).1 hk
          subst this
          obtain ⟨z', h1, h2⟩ := intOp_sound (P := P) hF hz t w; exact ⟨z, z', rfl, h1, hg, h2⟩
    · rename_i s q
      obtain ⟨s', rfl, hs⟩ := ha.inv_str
      obtain ⟨q', rfl, hq⟩ := hb.inv_str
      have hg : (eqGuard op t x y (.string s') (.string q')).run P w = .ok () w := by cases op <;> rfl
      split at hz
      · cases hc : allBytes s && allBytes q && Nat.ble (s.length + q.length) mostLen with
        | false => rw [hc] at hz; cases hz
        | true =>
          rw [hc] at hz
          cases hz
          simp only [Bool.and_eq_true] at hc
          have hle := Nat.le_of_ble_eq_true hc.2
          have h1 := str_size hc.1.1 hs
          have h2 := str_size hc.1.2 hq
          refine ⟨_, .string (s' ++ q'), rfl, .str _ _ ?_, hg, ?_⟩
          · rw [strEv_append, ← hs, ← hq]
            simp
          · have : ¬ (((s'.size + q'.size : Nat) : Int) > IntKind.i64.max) := by
              rw [h1, h2]
              have hm : (IntKind.i64.max : Int) = 9223372036854775807 := by decide
              rw [hm]
              unfold mostLen at hle
              omega
            simp only [binOp, Op.stringOp, if_neg this, Sem.run_pure]
      · refine ⟨z, ?_⟩
        cases e : (bif natsBeq s q then some true else bif allBytes s && allBytes q then some false else none : Option Bool) with
        | none =>
          exfalso
          cases e1 : natsBeq s q with
          | true => rw [e1] at e; cases e
          | false => rw [e1] at e hz; cases e2 : allBytes s && allBytes q with
            | true => rw [e2] at e; cases e
            | false => rw [e2] at hz; cases hz
        | some c =>
          have hz' : z = .bool c := by
            cases e1 : natsBeq s q with
            | true => rw [e1] at e hz; cases e; cases hz; rfl
            | false => rw [e1] at e hz; cases e2 : allBytes s && allBytes q with
              | true => rw [e2] at e hz; cases e; cases hz; rfl
              | false => rw [e2] at hz; cases hz
          subst hz'
          exact ⟨.bool c, rfl, .bool c, hg, by simp only [binOp, Op.stringOp, Sem.run_pure, str_eq hs hq e]⟩
      · refine ⟨z, ?_⟩
        cases e : (bif natsBeq s q then some true else bif allBytes s && allBytes q then some false else none : Option Bool) with
        | none =>
          exfalso
          cases e1 : natsBeq s q with
          | true => rw [e1] at e; cases e
          | false => rw [e1] at e hz; cases e2 : allBytes s && allBytes q with
            | true => rw [e2] at e; cases e
            | false => rw [e2] at hz; cases hz
        | some c =>
          have hz' : z = .bool (!c) := by
            cases e1 : natsBeq s q with
            | true => rw [e1] at e hz; cases e; cases hz; rfl
            | false => rw [e1] at e hz; cases e2 : allBytes s && allBytes q with
              | true => rw [e2] at e hz; cases e; cases hz; rfl
              | false => rw [e2] at hz; cases hz
          subst hz'
          exact ⟨.bool (!c), rfl, .bool (!c), hg, by simp only [binOp, Op.stringOp, Sem.run_pure, str_eq hs hq e]⟩
      · cases hz
    · rename_i hni hns
      have hni' : ∀ k s j r, ¬ (a = .int k s ∧ b = .int j r) := fun k s j r e => hni k s j r e.1 e.2
      have hns' : ∀ s r, ¬ (a = .str s ∧ b = .str r) := fun s r e => hns s r e.1 e.2
      split at hz
      · cases hc : eqOk P t (isC x || isC y) a b with
        | false => rw [hc] at hz; cases hz
        | true =>
          rw [hc] at hz
          simp only [cond_true] at hz
          split at hz
          · rename_i c he
            cases hz
            have := aeq_sound (P := P) (B := B) (w0 := w0) (H := H) hF 60 t a b c he u v w hW ha hb 10000 (by decide)
            exact ⟨_, .bool c, rfl, .bool c, eqGuard_ok hc ha hb w, by simpa using binA_eql (op := .eql) (.inl rfl) ha hb hni' hns' this⟩
          · cases hz
      · cases hc : eqOk P t (isC x || isC y) a b with
        | false => rw [hc] at hz; cases hz
        | true =>
          rw [hc] at hz
          simp only [cond_true] at hz
          split at hz
          · rename_i c he
            cases hz
            have := aeq_sound (P := P) (B := B) (w0 := w0) (H := H) hF 60 t a b c he u v w hW ha hb 10000 (by decide)
            exact ⟨_, .bool (!c), rfl, .bool (!c), eqGuard_ok hc ha hb w, by simpa using binA_eql (op := .neq) (.inr rfl) ha hb hni' hns' this⟩
          · cases hz
      · cases hz
  · cases h

theorem doUn_sound (hF : FOk F V.ρ) {op : UnOp} {a : OV} {r : ANext} {u : Value} (ha : ∀ z, a = some z → VRel V z u) (h : doUn F op a H = some r) (w : World) :
    ∃ z z', r = .val z H ∧ VRel V z z' ∧ (Op.unary op u).run P w = .ok z' w := by
  unfold doUn at h
  split at h
  · rename_i a
    replace ha := ha _ rfl
    obtain ⟨z, hz, rfl⟩ := ofVal_some h
    unfold unA at hz
    split at hz
    · cases ha; cases hz; exact ⟨_, _, rfl, .bool _, by simp [Op.unary]⟩
    · rename_i k s
      obtain rfl := ha.inv_int
      split at hz
      · rename_i q hq
        split at hz
        · rename_i q' hq'
          cases hz
          refine ⟨_, .int k (q'.ev V.ρ), rfl, .int k q', ?_⟩
          rw [SInt.wrap_ev hF hq', SInt.sub_ev hq]
          simp [Op.unary, Op.intArith, SInt.ev]
        · cases hz
      · cases hz
    · rename_i k z'
      obtain rfl := ha.inv_int
      cases hk : kin k z' with
      | false => rw [hk] at hz; cases hz
      | true =>
        rw [hk] at hz
        simp only [cond_true] at hz
        have hkk := (kin_iff k z').1 hk
        have key : ∀ (n : Nat) (m : Nat), m < 2 ^ n → ((BitVec.ofInt n (2 ^ n - 1)) ^^^ (BitVec.ofInt n (m : Int))).toNat = 2 ^ n - 1 - m := by
          intro n m hm
          have e1 : BitVec.ofInt n ((2 : Int) ^ n - 1) = BitVec.allOnes n := by
            apply BitVec.eq_of_toNat_eq
            rw [BitVec.toNat_allOnes, BitVec.toNat_ofInt]
            have hp : 1 ≤ 2 ^ n := Nat.one_le_two_pow
            have : ((2 : Int) ^ n - 1) = ((2 ^ n - 1 : Nat) : Int) := by rw [Int.ofNat_sub hp, Int.natCast_pow]; rfl
            rw [this]
            have : (((2 ^ n - 1 : Nat) : Int) % ((2 ^ n : Nat) : Int)) = ((2 ^ n - 1 : Nat) : Int) := by
              rw [← Int.natCast_emod, Nat.mod_eq_of_lt (by omega)]
            rw [this]; rfl
          rw [e1, BitVec.allOnes_xor, BitVec.toNat_not, BitVec.ofInt_natCast, BitVec.toNat_ofNat, Nat.mod_eq_of_lt hm]
        split at hz <;> first
          | (cases hz; done)
          | skip
        all_goals
          cases hz
          simp only [kmin, kmax] at hkk
          obtain ⟨m, rfl⟩ := Int.eq_ofNat_of_zero_le hkk.1
          refine ⟨_, _, rfl, .int _ (.lit _), ?_⟩
          simp only [Op.unary, Op.intBits, SInt.ev, IntKind.signed, Bool.false_eq_true, if_false, Sem.run_pure]
        · have hm : IntKind.max .u8 = (2 : Int) ^ 8 - 1 := by decide
          have e : (BitVec.ofInt (IntKind.bits .u8) (IntKind.max .u8) ^^^ BitVec.ofInt (IntKind.bits .u8) (m : Int)).toNat = 2 ^ 8 - 1 - m := by
            rw [hm]; exact key 8 m (by omega)
          rw [e, wrap_id ((kin_iff _ _).2 ⟨by simp only [kmin]; omega, by simp only [kmax, Nat.reducePow]; omega⟩)]
          congr 2
          simp only [kmax, Nat.reducePow]
          omega
        · have hm : IntKind.max .u16 = (2 : Int) ^ 16 - 1 := by decide
          have e : (BitVec.ofInt (IntKind.bits .u16) (IntKind.max .u16) ^^^ BitVec.ofInt (IntKind.bits .u16) (m : Int)).toNat = 2 ^ 16 - 1 - m := by
            rw [hm]; exact key 16 m (by omega)
          rw [e, wrap_id ((kin_iff _ _).2 ⟨by simp only [kmin]; omega, by simp only [kmax, Nat.reducePow]; omega⟩)]
          congr 2
          simp only [kmax, Nat.reducePow]
          omega
        · have hm : IntKind.max .u32 = (2 : Int) ^ 32 - 1 := by decide
          have e : (BitVec.ofInt (IntKind.bits .u32) (IntKind.max .u32) ^^^ BitVec.ofInt (IntKind.bits .u32) (m : Int)).toNat = 2 ^ 32 - 1 - m := by
            rw [hm]; exact key 32 m (by omega)
          rw [e, wrap_id ((kin_iff _ _).2 ⟨by simp only [kmin]; omega, by simp only [kmax, Nat.reducePow]; omega⟩)]
          congr 2
          simp only [kmax, Nat.reducePow]
          omega
        · have hm : IntKind.max .u64 = (2 : Int) ^ 64 - 1 := by decide
          have e : (BitVec.ofInt (IntKind.bits .u64) (IntKind.max .u64) ^^^ BitVec.ofInt (IntKind.bits .u64) (m : Int)).toNat = 2 ^ 64 - 1 - m := by
            rw [hm]; exact key 64 m (by omega)
          rw [e, wrap_id ((kin_iff _ _).2 ⟨by simp only [kmin]; omega, by simp only [kmax, Nat.reducePow]; omega⟩)]
          congr 2
          simp only [kmax, Nat.reducePow]
          omega
    · cases hz
  · cases h

theorem doConv_sound (hF : FOk F V.ρ) {s d : TypeId} {a : OV} {r : ANext} {u : Value} (ha : ∀ z, a = some z → VRel V z u) (h : doConv P F s d a H = some r) (w : World) :
    ∃ z z', r = .val z H ∧ VRel V z z' ∧ (convert s d u).run P w = .ok z' w := by
  unfold doConv at h
  split at h
  · rename_i a
    replace ha := ha _ rfl
    obtain ⟨z, hz, rfl⟩ := ofVal_some h
    unfold convA at hz
    split at hz
    · rename_i k q
      obtain rfl := ha.inv_int
      split at hz
      · rename_i k1 k2 h1 h2
        split at hz
        · rename_i q' hq
          cases hz
          refine ⟨_, .int k2 (q'.ev V.ρ), rfl, .int k2 q', ?_⟩
          rw [SInt.wrap_ev hF hq]
          simp [convert, run_undl h1, run_undl h2, Conv.intToInt]
        · cases hz
      · cases hz
    · rename_i q
      obtain ⟨b, rfl, hb⟩ := ha.inv_str
      split at hz
      · rename_i h1 h2
        cases hz
        exact ⟨_, .string b, rfl, .str q b hb, by simp [convert, run_undl h1, run_undl h2]⟩
      · cases hz
    · cases hz
  · cases h
end Go.Px
