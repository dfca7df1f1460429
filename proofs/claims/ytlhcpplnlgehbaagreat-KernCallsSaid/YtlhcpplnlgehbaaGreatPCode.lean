/- Control, calls: what the abstract run tells is so. -/
import Derived.Test.YtlhcpplnlgehbaaGreatPDraw3
namespace Go.Px
open Go Go.RowKit

variable {P : Program} {F : Facts} {G : (Nat → Int) → Prop} {V : Val} {B : Nat} {w0 w : World} {H : Hp} {ops : Array Oper}

/-- Every operation writes where there is a temporary. -/
def opsOk (n : Nat) (l : List Oper) : Bool := l.all fun o => match o.dst with
  | some d => Nat.blt d n
  | none => true
def codeOk (n : Nat) : Code → Bool
  | .region _ ops _ => opsOk n ops.toList
  | .seq a b => codeOk n a && codeOk n b
  | .cond _ a b => codeOk n a && codeOk n b
  | .block _ b => codeOk n b
  | .loop b => codeOk n b
  | _ => true
def funcOk (fn : Func) : Bool := (match fn.body with
  | some b => codeOk fn.ntmps b && !(fn.name == "runtime.NumGoroutine")
  | none => true)
/-- What is asked of the program. -/
structure POk (P : Program) : Prop where
  fns : ∀ (f : FuncId) fn, P.funcs[f]? = some fn → funcOk fn = true
  mixed : P.follows .mixedOrders = true

theorem opsOk_spec {n : Nat} {l : List Oper} (h : opsOk n l = true) : ∀ o, o ∈ l → ∀ d, o.dst = some d → d < n := by
  intro o ho d hd
  simp only [opsOk, List.all_eq_true] at h
  have := h o ho
  rw [hd] at this
  simpa using this

theorem WRel.drew' (hW : WRel B w0 V H w) : WRel B w0 V H { w with drawn := w.drawn + 1 } := hW.drew

theorem draw_sound (hP : POk P) {rec : Rec} (hC : CallOk P F G B w0 rec.call) {id : Nat} {T Tf : Tm} {Hf : Hp} {a : Act} {Q : Exit → Act → World → Prop} (hF : FG F G V.ρ) (hW : WRel B w0 V H w) (hT : TRel V T a.tmps)
    (hd : ∀ o, o ∈ ops.toList → ∀ d, o.dst = some d → d < a.tmps.size) (h : runDraw P F rec ops T H = some (Tf, Hf))
    (hQ : ∀ V' a' w', Ext V V' H Hf → WRel B w0 V' Hf w' → TRel V' Tf a'.tmps → a'.tmps.size = a.tmps.size → a'.defers = a.defers → Q .normal a' w') : (Code.region id ops true).wp P Q a w := by
  refine wp_region_any hP.mixed ?_
  unfold runDraw at h
  split at h
  case h_2 => cases h
  rename_i ss hpl
  unfold planOf at hpl
  split at hpl
  case h_2 => cases hpl
  rename_i its hits
  cases hap : apartAll ops its with
  | false => rw [hap] at hpl; cases hpl
  | true =>
  rw [hap] at hpl
  simp only [cond_true] at hpl
  obtain ⟨hI, hlen⟩ := items_spec hits
  have hA := apartAll_spec hap
  have hin : ∀ x, x ∈ its → its[x.i]? = some x := by
    intro x hx
    obtain ⟨k, hk⟩ := List.mem_iff_getElem?.1 hx
    rw [(hI.at_ k x hk).1]; exact hk
  have hmem : ∀ x, x ∈ its → x.o ∈ ops.toList := by
    intro x hx
    have := (hI.at_ x.i x (hin x hx)).2
    exact List.mem_of_getElem? (by rw [Array.getElem?_toList]; exact this)
  have hM : Mid P F ops its B w0 (fun _ => 0) H.next False [] its T H V a { w with drawn := w.drawn + 1 } :=
    ⟨hW.drew', fun x hx => hin x (hx.resolve_left (by simp)), fun p _ hp => by simp at hp, fun p _ hp => by simp at hp, fun p hp => by simp at hp, fun p _ hp => by simp at hp, fun p hp => by simp at hp, fun t x hx => .inr (hT t x hx)⟩
  have hnd : its.Pairwise (fun x y => x.i ≠ y.i) := by
    rw [List.pairwise_iff_getElem]
    intro i j hi hj hij e
    have h1 := (hI.at_ i its[i] (List.getElem?_eq_getElem hi)).1
    have h2 := (hI.at_ j its[j] (List.getElem?_eq_getElem hj)).1
    omega
  obtain ⟨gh1, pend1, rest1, T1, H1, hM1, hE1, hc1, hmem1, hlen1⟩ := enter hI hA hpl h hM hnd (fun p hp => by simp at hp) (Nat.le_refl _)
  refine draw_main hI hA hlen hC hF (fun x hx d hxd => hd x.o (hmem x hx) d hxd) hQ ops.size gh1 pend1 rest1 T1 H1 V a _ _ hM1 hc1 ⟨by simp [hlen], fun x hx => ?_, fun k x hx hl => ?_⟩ (by simp at hlen1; omega) hE1 rfl rfl
  · have hlt := (List.getElem?_eq_some_iff.1 hx).1
    rw [hmem1 x]
    simp [show x.i < ops.size by omega, List.mem_of_getElem? hx]
  · have hlt := (List.getElem?_eq_some_iff.1 hx).1
    simp [show k < ops.size by omega] at hl

/-! ### control -/
def XRel : AExit → Exit → Prop
  | .normal, .normal => True
  | .exit i, .exit j => i = j
  | .ret, .ret => True
  | _, _ => False

def Post (B : Nat) (w0 : World) (V : Val) (H : Hp) (e : AExit) (T' : Tm) (H' : Hp) (sz : Nat) : Exit → Act → World → Prop := fun x a' w' =>
  XRel e x ∧ ∃ V', Ext V V' H H' ∧ WRel B w0 V' H' w' ∧ TRel V' T' a'.tmps ∧ a'.defers = [] ∧ a'.tmps.size = sz

/-- A loop from its body on. -/
def LoopWp (P : Program) (b : Code) (Q : Exit → Act → World → Prop) (a : Act) (w : World) : Prop :=
  ∀ (f : Frame) (k : List Item) (cs : List Frame), ∃ e a' w', Q e a' w' ∧ Arrives P (lone (f.at a (.code b :: .inLoop b :: k)) cs w) f k cs e a' w'

theorem LoopWp.wp {b : Code} {Q : Exit → Act → World → Prop} {a : Act} (h : LoopWp P b Q a w) : (Code.loop b).wp P Q a w :=
  fun f k cs => let ⟨e, a', w', q, r⟩ := h f k cs; ⟨e, a', w', q, .of_steps (.one step_loop) r⟩

theorem LoopWp.round {b : Code} {Q : Exit → Act → World → Prop} {a : Act} (h : b.wp P (Exit.then (LoopWp P b Q) Q) a w) : LoopWp P b Q a w := by
  intro f k cs
  obtain ⟨e, a1, w1, hq, harr⟩ := h f (.inLoop b :: k) cs
  have out : ∀ e, e ≠ .normal → Q e a1 w1 → Arrives P (lone (f.at a (.code b :: .inLoop b :: k)) cs w) f (.inLoop b :: k) cs e a1 w1 → ∃ e a' w', Q e a' w' ∧ Arrives P (lone (f.at a (.code b :: .inLoop b :: k)) cs w) f k cs e a' w' :=
    fun e hne hq harr => ⟨e, a1, w1, hq, .pass (x := .inLoop b) rfl (fun _ _ => .inl hne) harr⟩
  cases e with
  | normal =>
    obtain ⟨e2, a2, w2, hq2, harr2⟩ := hq f k cs
    exact ⟨e2, a2, w2, hq2, .of_steps (Steps.trans harr (.one step_inLoop)) harr2⟩
  | exit id => exact out _ (by simp) hq harr
  | goto l => exact out _ (by simp) hq harr
  | ret => exact out _ (by simp) hq harr
  | panic ch => exact out _ (by simp) hq harr
  | outgrown => exact out _ (by simp) hq harr

structure RecOk (P : Program) (F : Facts) (G : (Nat → Int) → Prop) (B : Nat) (w0 : World) (rec : Rec) : Prop where
  code : ∀ c T H e T' H', rec.code c T H = some (e, T', H') → ∀ n V w (a : Act), codeOk n c = true → n ≤ a.tmps.size → a.defers = [] → FG F G V.ρ → WRel B w0 V H w → TRel V T a.tmps →
    c.wp P (Post B w0 V H e T' H' a.tmps.size) a w ∧ ∀ b, c = .loop b → LoopWp P b (Post B w0 V H e T' H' a.tmps.size) a w
  call : CallOk P F G B w0 rec.call

theorem Post.after {V1 : Val} {H1 H2 : Hp} {e : AExit} {T2 : Tm} {sz sz1 : Nat} (hE : Ext V V1 H H1) (hs : sz1 = sz) {x : Exit} {a' : Act} {w' : World} (h : Post B w0 V1 H1 e T2 H2 sz1 x a' w') : Post B w0 V H e T2 H2 sz x a' w' := by
  obtain ⟨h1, V', h2, h3, h4, h5, h6⟩ := h
  exact ⟨h1, V', hE.trans h2, h3, h4, h5, by omega⟩

theorem codeA_sound (hP : POk P) {rec : Rec} (hR : RecOk P F G B w0 rec) {c : Code} {T : Tm} {e : AExit} {T' : Tm} {H' : Hp} (h : codeA P F rec c T H = some (e, T', H')) {n : Nat} {a : Act} (hok : codeOk n c = true) (hn : n ≤ a.tmps.size) (hdf : a.defers = [])
    (hF : FG F G V.ρ) (hW : WRel B w0 V H w) (hT : TRel V T a.tmps) :
    c.wp P (Post B w0 V H e T' H' a.tmps.size) a w ∧ ∀ b, c = .loop b → LoopWp P b (Post B w0 V H e T' H' a.tmps.size) a w := by
  have now : ∀ x, XRel e x → T' = T → H' = H → Post B w0 V H e T' H' a.tmps.size x a w := fun x hx h1 h2 => by
    subst h1 h2; exact ⟨hx, V, .refl V _, hW, hT, hdf, rfl⟩
  cases c with
  | skip => cases h; exact ⟨wp_skip (now _ trivial rfl rfl), fun b hb => by cases hb⟩
  | label l => cases h; exact ⟨wp_label (now _ trivial rfl rfl), fun b hb => by cases hb⟩
  | exit id => cases h; exact ⟨wp_exit (now _ rfl rfl rfl), fun b hb => by cases hb⟩
  | ret => cases h; exact ⟨wp_ret (now _ trivial rfl rfl), fun b hb => by cases hb⟩
  | region id ops draw =>
    refine ⟨?_, fun b hb => by cases hb⟩
    simp only [codeA] at h
    have hd : ∀ o, o ∈ ops.toList → ∀ d, o.dst = some d → d < a.tmps.size := fun o ho d hd => Nat.lt_of_lt_of_le (opsOk_spec (n := n) hok o ho d hd) hn
    split at h
    case h_2 => cases h
    rename_i T1 H1 hr
    cases h
    cases draw with
    | true => exact draw_sound hP hR.call hF hW hT hd hr fun V' a' w' h1 h2 h3 h4 h5 => ⟨trivial, V', h1, h2, h3, by rw [h5, hdf], h4⟩
    | false =>
      refine wp_region ?_
      have := runOps_wp (ops := ops) (Q := Post B w0 V H .normal T' H' a.tmps.size) hR.call ops.toList 0 T H V a w (fun k => by simp) hd hF hW hT hr fun V' a' w' h1 h2 h3 h4 h5 => ⟨trivial, V', h1, h2, h3, by rw [h5, hdf], h4⟩
      rw [List.range_eq_range']
      simpa using this
  | seq x y =>
    refine ⟨?_, fun b hb => by cases hb⟩
    simp only [codeOk, Bool.and_eq_true] at hok
    simp only [codeA] at h
    split at h
    · rename_i T1 H1 h1
      refine wp_seq (wp_mono (hR.code _ _ _ _ _ _ h1 n V w a hok.1 hn hdf hF hW hT).1 fun e1 a1 w1 hp => ?_)
      obtain ⟨he, V1, p1, p2, p3, p4, p5⟩ := hp
      cases e1 <;> try (exact he.elim)
      exact wp_mono (hR.code _ _ _ _ _ _ h n V1 w1 a1 hok.2 (by omega) p4 (by rw [p1.le.ρ]; exact hF) p2 p3).1 fun _ _ _ hq => hq.after p1 p5
    · rename_i hne
      refine wp_seq (wp_mono (hR.code _ _ _ _ _ _ h n V w a hok.1 hn hdf hF hW hT).1 fun e1 a1 w1 hp => ?_)
      cases e1 with
      | normal =>
        obtain ⟨he, _⟩ := hp
        cases e <;> try (exact he.elim)
        exact absurd h (hne _ _)
      | exit id => exact hp
      | goto l => exact hp
      | ret => exact hp
      | panic ch => exact hp
      | outgrown => exact hp
  | cond x y z =>
    refine ⟨?_, fun b hb => by cases hb⟩
    simp only [codeOk, Bool.and_eq_true] at hok
    simp only [codeA] at h
    split at h
    case h_2 => cases h
    rename_i t hx
    have hv := (opnd_rel hT hx).inv_bool
    refine wp_cond hv ?_
    cases t with
    | true => exact (hR.code _ _ _ _ _ _ h n V w a hok.1 hn hdf hF hW hT).1
    | false => exact (hR.code _ _ _ _ _ _ h n V w a hok.2 hn hdf hF hW hT).1
  | block id y =>
    refine ⟨?_, fun b hb => by cases hb⟩
    simp only [codeA] at h
    split at h
    · rename_i i T1 H1 h1
      refine wp_block (wp_mono (hR.code _ _ _ _ _ _ h1 n V w a hok hn hdf hF hW hT).1 fun e1 a1 w1 hp => ?_)
      obtain ⟨he, hrest⟩ := hp
      cases e1 <;> try (exact he.elim)
      rename_i j
      have he : i = j := he
      subst he
      simp only [Exit.inBlock]
      cases hb : Nat.beq i id with
      | true =>
        rw [hb] at h; cases h
        rw [if_pos (Nat.eq_of_beq_eq_true hb)]
        exact ⟨trivial, hrest⟩
      | false =>
        rw [hb] at h; cases h
        rw [if_neg (fun e => by rw [e] at hb; simp at hb)]
        exact ⟨rfl, hrest⟩
    · rename_i hne
      refine wp_block (wp_mono (hR.code _ _ _ _ _ _ h n V w a hok hn hdf hF hW hT).1 fun e1 a1 w1 hp => ?_)
      cases e1 with
      | exit j =>
        obtain ⟨he, _⟩ := hp
        cases e <;> try (exact he.elim)
        exact absurd h (hne _ _ _)
      | normal => exact hp
      | goto l => exact hp
      | ret => exact hp
      | panic ch => exact hp
      | outgrown => exact hp
  | loop y =>
    have key : LoopWp P y (Post B w0 V H e T' H' a.tmps.size) a w := by
      simp only [codeA] at h
      split at h
      · rename_i T1 H1 h1
        refine .round (wp_mono (hR.code _ _ _ _ _ _ h1 n V w a hok hn hdf hF hW hT).1 fun e1 a1 w1 hp => ?_)
        obtain ⟨he, V1, p1, p2, p3, p4, p5⟩ := hp
        cases e1 <;> try (exact he.elim)
        have := (hR.code _ _ _ _ _ _ h n V1 w1 a1 hok (by omega) p4 (by rw [p1.le.ρ]; exact hF) p2 p3).2 y rfl
        intro f k cs
        obtain ⟨e2, a2, w2, hq, harr⟩ := this f k cs
        exact ⟨e2, a2, w2, hq.after p1 p5, harr⟩
      · rename_i hne
        refine .round (wp_mono (hR.code _ _ _ _ _ _ h n V w a hok hn hdf hF hW hT).1 fun e1 a1 w1 hp => ?_)
        cases e1 with
        | normal =>
          obtain ⟨he, _⟩ := hp
          cases e <;> try (exact he.elim)
          exact absurd h (hne _ _)
        | exit id => exact hp
        | goto l => exact hp
        | ret => exact hp
        | panic ch => exact hp
        | outgrown => exact hp
    exact ⟨key.wp, fun b hb => by cases hb; exact key⟩
  | _ => cases h
end Go.Px
