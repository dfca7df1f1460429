/- One operation among those of a region. -/
import Derived.Test.YtlhcpplnlgehbaaGreatPPlan
namespace Go.Px
open Go Go.RowKit

variable {P : Program} {F : Facts} {G : (Nat → Int) → Prop} {V : Val} {B : Nat} {w0 w : World} {H : Hp} {ops : Array Oper}

/-- The ranges of the tokens, and what more is known of them. -/
def FG (F : Facts) (G : (Nat → Int) → Prop) (ρ : Nat → Int) : Prop := FOk F ρ ∧ G ρ

/-- What a run of a call tells. -/
def CallOk (P : Program) (F : Facts) (G : (Nat → Int) → Prop) (B : Nat) (w0 : World) (call : FuncId → List AVal → Hp → Option (AVal × Hp)) : Prop :=
  ∀ f args H v H', call f args H = some (v, H') → Callable P f ∧ ∀ V w (args' : Array Value), FG F G V.ρ → WRel B w0 V H w → LRel V args args'.toList →
    Calls P f args' w fun e w' => ∃ V' v', e = .returned v' ∧ Ext V V' H H' ∧ WRel B w0 V' H' w' ∧ VRel V' v v'

theorem opnd_rel' {T : Tm} {a : Act} {x : Operand} {v : AVal} (hT : ∀ t, x = .tmp t → ∀ v, Tm.get t T = some v → ∃ u, a.tmps[t]? = some u ∧ VRel V v u) (h : opnd T x = some v) : VRel V v (a.eval x) := by
  cases x with
  | tmp t =>
    obtain ⟨u, h1, h2⟩ := hT t rfl v h
    simp only [Act.eval, Array.getD_eq_getD_getElem?, h1]
    exact h2
  | const c => exact absConst_rel V 4 c v h
  | global g => cases h
  | func f => cases h; exact .func f [] [] #[] #[] rfl rfl (fun i u v h => by simp at h) (fun i u v h => by simp at h)

theorem wanted_of {T : Tm} {a : Act} {o : Oper} {b : Bool} (h : wantedA ops T o = some b)
    (hg : ∀ g want q d, o.guard = some (g, want) → ops[g]? = some q → q.dst = some d → ∀ u, Tm.get d T = some u → ∃ v, a.tmps[d]? = some v ∧ VRel V u v) : Region.wanted o (yielded ops a.tmps) = b := by
  unfold wantedA at h
  unfold Region.wanted
  split at h
  · rename_i hn; rw [hn]; cases h; rfl
  · rename_i g want hgd
    rw [hgd]
    simp only
    split at h
    case h_2 => cases h
    rename_i q hq
    split at h
    case h_2 => cases h
    rename_i d hd
    unfold yielded
    simp only [hq, Option.bind_some, hd]
    split at h
    case h_3 => cases h
    · rename_i b' hb
      obtain ⟨v, h1, h2⟩ := hg g want q d hgd hq hd _ hb
      have := h2.inv_bool
      subst this
      cases h
      rw [h1]
      cases b' <;> cases want <;> rfl
    · rename_i l hb
      obtain ⟨v, h1, h2⟩ := hg g want q d hgd hq hd _ hb
      cases h2
      cases h
      rw [h1]
      rfl

theorem Act.size_put (a : Act) (d : Option Tmp) (v : Value) : (a.put d v).tmps.size = a.tmps.size := by cases d <;> simp [Act.put]
theorem Act.defers_put (a : Act) (d : Option Tmp) (v : Value) : (a.put d v).defers = a.defers := by cases d <;> rfl

theorem stepOp_wp {rec : Rec} (hC : CallOk P F G B w0 rec.call) (hF : FG F G V.ρ) (hW : WRel B w0 V H w) {T : Tm} {a : Act} {o : Oper} {i : Nat} (ho : ops[i]? = some o) (hT : Looks V T a o.op.operands)
    (hg : ∀ g want q d, o.guard = some (g, want) → ops[g]? = some q → q.dst = some d → ∀ u, Tm.get d T = some u → ∃ v, a.tmps[d]? = some v ∧ VRel V u v)
    {T1 : Tm} {H1 : Hp} (h : stepOp P F rec ops T H o = some (T1, H1)) {Q : Exit → Act → World → Prop} {K : Act → World → Prop}
    (hK : ∀ v V' w' v', T1 = putD T o.dst v → Ext V V' H H1 → WRel B w0 V' H1 w' → VRel V' v v' → K (a.put o.dst v') w') : wpOp P ops Q i K a w := by
  unfold stepOp at h
  rw [aopF_eq] at h
  unfold wpOp
  simp only [ho]
  split at h
  case h_3 => cases h
  · rename_i hw
    rw [if_pos (wanted_of hw hg)]
    refine .inl ?_
    unfold Oper.wp
    split at h
    case h_3 => cases h
    · rename_i v H' hop
      cases h
      rcases op_sound hF.1 hW hT hop with ⟨v1, H2, V', w', v', h1, hd⟩ | ⟨f, args, args', h1, _⟩
      · cases h1
        have := hK v V' w' v' rfl hd.ext hd.rel hd.val
        rcases hd.run with hr | ⟨hr, rfl⟩
        · rw [hr]; exact this
        · rw [hr]; exact this
      · cases h1
    · rename_i f args hop
      split at h
      case h_2 => cases h
      rename_i v H' hcall
      cases h
      rcases op_sound hF.1 hW hT hop with ⟨v1, H2, V', w', v', h1, hd⟩ | ⟨f', args1, args', h1, h2, h3⟩
      · cases h1
      · cases h1
        obtain ⟨hc, hcs⟩ := hC _ _ _ _ _ hcall
        rw [h3 hc]
        show Calls P f args' w _
        refine (hcs V w args' hF hW h2).mono fun e w' he => ?_
        obtain ⟨V', v', rfl, h4, h5, h6⟩ := he
        exact hK v V' w' v' rfl h4 h5 h6
  · rename_i hw
    cases h
    rw [if_neg (by rw [wanted_of hw hg]; simp)]
    exact hK unit V w undef rfl (.refl V H) hW (undef_rel V)

theorem PTput {T : Tm} {V' : Val} {a : Act} {d : Option Tmp} {v : AVal} {v' : Value} (hT : TRel V T a.tmps) (hV : V.le V') (hv : VRel V' v v') (hd : ∀ t, d = some t → t < a.tmps.size) : TRel V' (putD T d v) (a.put d v').tmps := by
  cases d with
  | none => exact hT.mono hV
  | some t => exact (hT.mono hV).put hv (hd t rfl)

/-- The operations of a region in their order. -/
theorem runOps_wp {rec : Rec} (hC : CallOk P F G B w0 rec.call) {Q : Exit → Act → World → Prop} {Tf : Tm} {Hf : Hp} : ∀ (l : List Oper) (n : Nat) (T : Tm) (H : Hp) (V : Val) (a : Act) (w : World), (∀ k, (ops.toList)[n + k]? = l[k]?) →
    (∀ o, o ∈ l → ∀ d, o.dst = some d → d < a.tmps.size) → FG F G V.ρ → WRel B w0 V H w → TRel V T a.tmps → runOps P F rec ops l T H = some (Tf, Hf) →
    (∀ V' a' w', Ext V V' H Hf → WRel B w0 V' Hf w' → TRel V' Tf a'.tmps → a'.tmps.size = a.tmps.size → a'.defers = a.defers → Q .normal a' w') →
    wpOps P ops Q (List.range' n l.length) a w := by
  intro l
  induction l with
  | nil =>
    intro n T H V a w _ _ hF hW hT h hQ
    cases h
    exact hQ V a w (.refl V _) hW hT rfl rfl
  | cons o os ih =>
    intro n T H V a w hl hs hF hW hT h hQ
    simp only [runOps] at h
    split at h
    case h_2 => cases h
    rename_i T1 H1 hst
    have ho : ops[n]? = some o := by have := hl 0; simpa using this
    have hso := hs o (by simp)
    rw [List.length_cons, List.range'_succ, wpOps_cons]
    refine stepOp_wp hC hF hW ho (hT.looks _) (fun g want q d _ _ _ u hu => hT d u hu) hst fun v V' w' v' h1 h2 h3 h4 => ?_
    subst h1
    refine ih (n + 1) _ H1 V' _ w' (fun k => ?_) (fun o' ho' => ?_) (by rw [h2.le.ρ]; exact hF) h3 (PTput hT h2.le h4 hso) h fun V'' a'' w'' e1 e2 e3 e4 e5 => ?_
    · have := hl (k + 1)
      rw [show n + 1 + k = n + (k + 1) by omega, this]; simp
    · rw [Act.size_put]; exact hs o' (by simp [ho'])
    · exact hQ V'' a'' w'' (h2.trans e1) e2 e3 (by rw [e4, Act.size_put]) (by rw [e5, Act.defers_put])
end Go.Px
