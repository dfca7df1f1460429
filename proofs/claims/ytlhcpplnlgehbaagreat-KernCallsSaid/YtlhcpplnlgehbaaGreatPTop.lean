/- Calls; the whole run; what a true answer tells. -/
import Derived.Test.YtlhcpplnlgehbaaGreatPCode
import Derived.RowKit3
namespace Go.Px
open Go Go.RowKit

variable {P : Program} {F : Facts} {G : (Nat → Int) → Prop} {V : Val} {B : Nat} {w0 w : World} {H : Hp} {ops : Array Oper}

def resRun (tmps : Array Value) : ResultVar → Sem Value
  | .tmp t => pure (tmps.getD t undef)
  | .cell a t => do loadVar t (← asAddr (tmps.getD a undef))

theorem resultA_sound (hW : WRel B w0 V H w) {T : Tm} {tmps : Array Value} (hT : TRel V T tmps) {r : ResultVar} {v : AVal} (h : resultA P T H r = some v) :
    ∃ v', VRel V v v' ∧ (resRun tmps r).run P w = .ok v' w := by
  cases r with
  | tmp t =>
    obtain ⟨u, h1, h2⟩ := hT t v h
    exact ⟨u, h2, by simp [resRun, Array.getD_eq_getD_getElem?, h1]⟩
  | cell a t =>
    simp only [resultA] at h
    split at h
    case h_2 => cases h
    rename_i i off ha
    obtain ⟨u, h1, h2⟩ := hT a _ ha
    obtain ⟨b, base, S, hb, rfl⟩ := h2.inv_ptr
    obtain ⟨v', h3, h4⟩ := loadV_sound (P := P) hW hb h
    exact ⟨v', h3, by simp [resRun, Array.getD_eq_getD_getElem?, h1, asAddr, h4]⟩

theorem resultsA_sound (hW : WRel B w0 V H w) {T : Tm} {tmps : Array Value} (hT : TRel V T tmps) : ∀ {rs : List ResultVar} {vs : List AVal}, resultsA P T H rs = some vs →
    ∃ us, LRel V vs us ∧ (rs.mapM (resRun tmps)).run P w = .ok us w := by
  intro rs
  induction rs with
  | nil => intro vs h; cases h; exact ⟨[], .nil, by simp⟩
  | cons r rs ih =>
    intro vs h
    simp only [resultsA] at h
    split at h
    case h_2 => cases h
    rename_i v vs' h1 h2
    cases h
    obtain ⟨u, h3, h4⟩ := resultA_sound hW hT h1
    obtain ⟨us, h5, h6⟩ := ih h2
    refine ⟨u :: us, .cons h3 h5, ?_⟩
    rw [List.mapM_cons]
    simp only [Sem.run_bind, h4, Result.andThen_ok, h6, Sem.run_pure]

theorem argsT_rel : ∀ {vs : List AVal} {i : Nat} {T : Tm} {x : Array Value} , (∀ (j : Nat) v, vs[j]? = some v → ∃ u, x[i + j]? = some u ∧ VRel V v u) → TRel V T x → TRel V (argsT vs i T) x := by
  intro vs
  induction vs with
  | nil => intro i T x _ hT; exact hT
  | cons v vs ih =>
    intro i T x h hT
    refine ih (fun j u hj => ?_) (fun t a ha => ?_)
    · have := h (j + 1) u (by simpa using hj)
      rwa [show i + 1 + j = i + (j + 1) by omega]
    · rcases Tm.get_put i t v T a ha with ⟨rfl, rfl⟩ | ⟨_, h2⟩
      · have := h 0 a rfl
        simpa using this
      · exact hT t a h2

theorem callA_sound (hP : POk P) {rec : Rec} (hR : RecOk P F G B w0 rec) : CallOk P F G B w0 (callA P rec) := by
  intro f args H v H' h
  unfold callA at h
  split at h
  case h_1 => cases h
  rename_i fn hf
  split at h
  case h_1 => cases h
  rename_i b hb
  have hok := hP.fns f fn hf
  simp only [funcOk, hb, Bool.and_eq_true, Bool.not_eq_true'] at hok
  refine ⟨⟨fn, hf, hok.2, by rw [hb]; rfl⟩, fun V w args' hF hW hl => ?_⟩
  have hlen := hl.length
  have hT : TRel V (argsT args 0 (Tm.mk (fn.ntmps / 16 + 1))) (args' ++ Array.replicate (fn.ntmps - args'.size) undef) := by
    refine argsT_rel (fun j u hj => ?_) (fun t a ha => by rw [Tm.get_mk] at ha; cases ha)
    obtain ⟨u', h1, h2⟩ := hl.at j u hj
    rw [Array.getElem?_toList] at h1
    have hlt : j < args'.size := (Array.getElem?_eq_some_iff.1 h1).1
    exact ⟨u', by rw [Nat.zero_add, Array.getElem?_append_left hlt]; exact h1, h2⟩
  have hsz : fn.ntmps ≤ (args' ++ Array.replicate (fn.ntmps - args'.size) undef).size := by simp; omega
  -- the end
  have fin : ∀ e T1 H1, rec.code b (argsT args 0 (Tm.mk (fn.ntmps / 16 + 1))) H = some (e, T1, H1) → (e = .normal ∨ e = .ret) → (match resultsA P T1 H1 fn.results.toList with
      | some [v] => some (v, H1)
      | some vs => some (.tuple vs, H1)
      | none => none) = some (v, H') → Calls P f args' w fun e w' => ∃ V' v', e = .returned v' ∧ Ext V V' H H' ∧ WRel B w0 V' H' w' ∧ VRel V' v v' := by
    intro e T1 H1 h1 he hres
    refine calls_of_wp hf hb (wp_mono (hR.code _ _ _ _ _ _ h1 fn.ntmps V w ⟨_, []⟩ hok.1 hsz rfl hF hW hT).1 fun x a' w' hp => ?_)
    obtain ⟨hx, V', p1, p2, p3, p4, p5⟩ := hp
    have hend : a'.defers = [] ∧ ∃ v', (results fn a'.tmps).run P w' = .ok v' w' ∧ ∃ V' v'', Ending.returned v' = .returned v'' ∧ Ext V V' H H' ∧ WRel B w0 V' H' w' ∧ VRel V' v v'' := by
      refine ⟨p4, ?_⟩
      cases hrs : resultsA P T1 H1 fn.results.toList with
      | none => rw [hrs] at hres; cases hres
      | some vs =>
        rw [hrs] at hres
        obtain ⟨us, q1, q2⟩ := resultsA_sound p2 p3 hrs
        have hrun : ∀ u, (if h : us.toArray.size = 1 then us.toArray[0] else .tuple us.toArray) = u → (results fn a'.tmps).run P w' = .ok u w' := by
          intro u hu
          have e : results fn a'.tmps = (do
              let vs ← fn.results.mapM (resRun a'.tmps)
              pure (if h : vs.size = 1 then vs[0] else .tuple vs)) := by
            unfold results
            congr 1
          rw [e, Array.mapM_eq_mapM_toList]
          simp only [map_eq_pure_bind, Sem.run_bind, bind_assoc, pure_bind]
          rw [q2]
          simp only [Result.andThen_ok, Sem.run_pure, hu]
        cases vs with
        | nil =>
          cases q1
          cases hres
          exact ⟨_, hrun _ rfl, V', _, rfl, p1, p2, VRel.tupleL .nil⟩
        | cons x vs =>
          cases q1 with
          | cons hx hvs =>
          cases vs with
          | nil =>
            cases hvs
            cases hres
            exact ⟨_, hrun _ rfl, V', _, rfl, p1, p2, by simpa using hx⟩
          | cons y vs =>
            cases hvs with
            | cons hy hvs =>
            cases hres
            exact ⟨_, hrun _ rfl, V', _, rfl, p1, p2, by simpa using VRel.tupleL (.cons hx (.cons hy hvs))⟩
    cases x with
    | normal => exact hend
    | ret => exact hend
    | exit i => rcases he with rfl | rfl <;> exact hx.elim
    | goto i => rcases he with rfl | rfl <;> exact hx.elim
    | panic c => rcases he with rfl | rfl <;> exact hx.elim
    | outgrown => rcases he with rfl | rfl <;> exact hx.elim
  split at h
  · cases h
  · rename_i e T1 H1 hne h1
    refine fin e T1 H1 h1 ?_ h
    cases e with
    | normal => exact .inl rfl
    | ret => exact .inr rfl
    | exit i => exact (hne i rfl).elim
  · cases h

/-- Hooks that tell the truth. -/
def HookOk (P : Program) (F : Facts) (G : (Nat → Int) → Prop) (B : Nat) (w0 : World) (hook : Hooks) : Prop := ∀ f g, hook f = some g → CallOk P F G B w0 fun f' args H => if f' = f then g args H else none

theorem exec_sound (hP : POk P) {hook : Hooks} (hH : HookOk P F G B w0 hook) : ∀ n, RecOk P F G B w0 (exec P F hook n) := by
  intro n
  induction n with
  | zero => exact ⟨fun _ _ _ _ _ _ h => (by cases h), fun _ _ _ _ _ h => (by cases h)⟩
  | succ n ih =>
    refine ⟨fun c T H e T' H' h n V w a hok hn hdf hF hW hT => codeA_sound hP ih h hok hn hdf hF hW hT, ?_⟩
    intro f args H v H' h
    have h' : (match hook f with
      | some g => g args H
      | none => callA P (exec P F hook n) f args H) = some (v, H') := h
    cases hk : hook f with
    | none => rw [hk] at h'; exact callA_sound hP ih f args H v H' h'
    | some g => rw [hk] at h'; exact hH f g hk f args H v H' (by simpa using h')

theorem noHooks_ok : HookOk P F G B w0 (fun _ => none) := fun _ _ h => by cases h

/-- A call that the abstract run answers with true. -/
theorem calls_true (hP : POk P) {hook : Hooks} {ρ : Nat → Int} (hF : FG F G ρ) (hH : ∀ B w0, HookOk P F G B w0 hook) {n : Nat} {f : FuncId} {args : List AVal} {H' : Hp} {x : Array Value}
    (h : (exec P F hook n).call f args ⟨.nil, 0⟩ = some (.bool true, H')) (hx : LRel ⟨ρ, fun _ => none⟩ args x.toList) (w : World) :
    Calls P f x w fun e w' => e = .returned (.bool true) ∧ Below w.heap.size w w' ∧ ∀ b arr el z, w.heap.size ≤ b → w'.heap[b]? = some (.cells arr el z) → z = (0, 0) := by
  have hR := exec_sound (B := w.heap.size) (w0 := w) hP (hH _ _) n
  have hW : WRel w.heap.size w ⟨ρ, fun _ => none⟩ ⟨.nil, 0⟩ w := by
    refine ⟨.refl _ _, Nat.le_refl _, fun id _ => ⟨rfl, by rw [Tr.get_nil]⟩, fun id b base S h => (by cases h), fun id o b base S _ h => (by cases h), fun id id' o o' b b' ba ba' S S' _ _ h => (by cases h), fun b arr el z hb h => ?_⟩
    have := (Array.getElem?_eq_some_iff.1 h).1
    omega
  refine ((hR.call f args _ _ _ h).2 _ w x hF hW hx).mono fun e w' he => ?_
  obtain ⟨V', v', rfl, h1, h2, h3⟩ := he
  cases h3
  exact ⟨rfl, h2.below, h2.fz⟩
theorem grown_of {W w' : World} (h : Below W.heap.size W w') (hz : ∀ (b : Nat) arr el z, W.heap.size ≤ b → w'.heap[b]? = some (.cells arr el z) → z = (0, 0)) : Grown W w' := by
  refine ⟨h.frame _, fun a => ?_, h.size⟩
  by_cases hb : a.block < W.heap.size
  · simp only [World.frozen?, h.block a.block hb]
  · have e1 : W.frozen? a = false := by
      have : W.heap[a.block]? = none := Array.getElem?_eq_none (by omega)
      simp only [World.frozen?, this]
    rw [e1]
    unfold World.frozen?
    split
    · rename_i arr el lo hi he
      have := hz a.block arr el (lo, hi) (by omega) he
      cases this
      simp
    · rfl
end Go.Px
