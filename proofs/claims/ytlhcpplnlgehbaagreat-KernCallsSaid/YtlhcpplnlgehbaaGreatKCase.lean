/- Laws of some numbers and truths: the hooks of 'Within' and 'wakes', and what a true run tells. -/
import Derived.Test.YtlhcpplnlgehbaaGreatPHook
import Derived.Test.YtlhcpplnlgehbaaGreatPJit4
import Derived.Test.YtlhcpplnlgehbaaGreatKOne
namespace Go.Proofs.YtlhcpplnlgehbaaGreat
open Go.RowKit Go.Px

noncomputable section
/-- Of a number: its bound, and its value (if it is given). -/
abbrev Par := Int × Option Int
def parA (i : Nat) (p : Par) : AVal := match p.2 with
  | some c => lit c
  | none => tok (2 * i + 1)
def tokOf (v : AVal) : Option Nat := match v with
  | .int .i64 (.lin a i c) => bif ieqR a 1 && ieqR c 0 then some i else none
  | _ => none
def hookIn (L : List Par) (args : List AVal) (H : Hp) : Option (AVal × Hp) := match args with
  | [a, b] => match tokOf a with
    | some i => match L[Nat.div i 2]? with
      | some p => bif Nat.beq (Nat.mod i 2) 0 && eqF b (lit p.1) then some (parA (Nat.div i 2) p, H) else none
      | none => none
    | none => none
  | _ => none
def hookP (L : List Par) : Hooks := fun f => bif Nat.beq f 15 then some (hookIn L) else bif Nat.beq f 22 then some hookTrue else none
def factsP : List Par → Facts
  | [] => []
  | p :: L => (-9223372036854775808, 9223372036854775807) :: (0, p.1 - 1) :: factsP L
/-- What the tokens are. -/
def rhoP (L : List Par) (xs : List Int) : Nat → Int := match L, xs with
  | p :: L, x :: xs => fun i => match i with
    | 0 => x
    | 1 => x % p.1
    | i + 2 => rhoP L xs i
  | _, _ => fun _ => 0
def parOk (p : Par) (x : Int) : Prop := 1 ≤ p.1 ∧ p.1 ≤ 1000000 ∧ -9223372036854775808 ≤ x ∧ x ≤ 9223372036854775807 ∧ ∀ c, p.2 = some c → x % p.1 = c
def parsOk : List Par → List Int → Prop
  | [], [] => True
  | p :: L, x :: xs => parOk p x ∧ parsOk L xs
  | _, _ => False
def GP (L : List Par) (ρ : Nat → Int) : Prop := ∀ i p, L[i]? = some p → 1 ≤ p.1 ∧ p.1 ≤ 1000000 ∧ ρ (2 * i + 1) = ρ (2 * i) % p.1 ∧ ∀ c, p.2 = some c → ρ (2 * i) % p.1 = c
end

theorem factsP_ok : ∀ (L : List Par) (xs : List Int), parsOk L xs → FOk (factsP L) (rhoP L xs) := by
  intro L
  induction L with
  | nil => intro xs _ i lo hi h; simp [factsP] at h
  | cons p L ih =>
    intro xs h
    cases xs with
    | nil => exact h.elim
    | cons x xs =>
      obtain ⟨⟨h1, h2, h3, h4, h5⟩, h6⟩ := h
      intro i lo hi hi'
      match i, hi' with
      | 0, hi' => simp [factsP] at hi'; obtain ⟨rfl, rfl⟩ := hi'; exact ⟨h3, h4⟩
      | 1, hi' =>
        simp [factsP] at hi'
        obtain ⟨rfl, rfl⟩ := hi'
        have e0 := Int.emod_nonneg x (show p.1 ≠ 0 by omega)
        have e1 := Int.emod_lt_of_pos x (show 0 < p.1 by omega)
        exact ⟨e0, by show x % p.1 ≤ _; omega⟩
      | i + 2, hi' => exact ih xs h6 i lo hi (by simpa [factsP] using hi')

theorem GP_ok : ∀ (L : List Par) (xs : List Int), parsOk L xs → GP L (rhoP L xs) := by
  intro L
  induction L with
  | nil => intro xs _ i p h; simp at h
  | cons q L ih =>
    intro xs h
    cases xs with
    | nil => exact h.elim
    | cons x xs =>
      obtain ⟨⟨h1, h2, h3, h4, h5⟩, h6⟩ := h
      intro i p hi
      cases i with
      | zero => simp at hi; subst hi; exact ⟨h1, h2, rfl, h5⟩
      | succ i => exact ih xs h6 i p (by simpa using hi)

theorem tokOf_eq {v : AVal} {i : Nat} (h : tokOf v = some i) : v = tok i := by
  unfold tokOf at h
  split at h
  case h_2 => cases h
  rename_i a j c
  cases hc : ieqR a 1 && ieqR c 0 with
  | false => rw [hc] at h; cases h
  | true =>
    rw [hc] at h
    cases h
    rw [Bool.and_eq_true, ieqR_eq, ieqR_eq] at hc
    rw [(ibeq_iff _ _).1 hc.1, (ibeq_iff _ _).1 hc.2]
    rfl
theorem hookIn_ok {ρ : Nat → Int} {L : List Par} (hG : GP L ρ) {V : Val} (hV : V.ρ = ρ) {a b : AVal} {H H' : Hp} {v : AVal} (h : hookIn L [a, b] H = some (v, H')) :
    H' = H ∧ ∃ (x n : Int), VRel V a (.int .i64 x) ∧ b = lit n ∧ 1 ≤ n ∧ n ≤ 1000000 ∧ VRel V v (.int .i64 (x % n)) := by
  unfold hookIn at h
  simp only at h
  split at h
  case h_2 => cases h
  rename_i k hk
  split at h
  case h_2 => cases h
  rename_i p hp
  cases hc : Nat.beq (Nat.mod k 2) 0 && eqF b (lit p.1) with
  | false => rw [hc] at h; cases h
  | true =>
    rw [hc] at h
    rw [Bool.and_eq_true, eqF_eq] at hc
    obtain rfl := tokOf_eq hk
    obtain rfl := avEq_eq hc.2
    have hmod : k % 2 = 0 := Nat.eq_of_beq_eq_true hc.1
    obtain ⟨i, rfl⟩ : ∃ i, k = 2 * i := ⟨k / 2, by omega⟩
    have hdiv : Nat.div (2 * i) 2 = i := by show 2 * i / 2 = i; omega
    rw [hdiv] at hp h
    obtain ⟨g1, g2, g3, g4⟩ := hG i p hp
    have hx := VRel.int (V := V) .i64 (.lin 1 (2 * i) 0)
    simp only [SInt.ev, hV] at hx
    simp only [cond_true] at h
    obtain ⟨n, o⟩ := p
    cases h
    refine ⟨rfl, ρ (2 * i), n, by simpa [tok] using hx, rfl, g1, g2, ?_⟩
    cases o with
    | some c =>
      have := g4 c rfl
      show VRel V (lit c) (.int .i64 (ρ (2 * i) % n))
      rw [this]
      exact VRel.int (V := V) .i64 (.lit c)
    | none =>
      show VRel V (tok (2 * i + 1)) (.int .i64 (ρ (2 * i) % n))
      have h1 := VRel.int (V := V) .i64 (.lin 1 (2 * i + 1) 0)
      simp only [SInt.ev, hV, g3] at h1
      simpa [tok] using h1

theorem wakesRun : trueF ((execJ Tryz.prog [] (fun _ => none) 100000).call 22 [] ⟨.nil, 0⟩) = true := by kernel_rfl
theorem callable22 : Callable Tryz.prog 22 := ⟨Tryz.f22, Tryz.func22, by kernel_rfl, by kernel_rfl⟩
theorem wakes_calls (w : World) : Calls Tryz.prog 22 #[] w fun e w' => e = .returned (.bool true) ∧ Below w.heap.size w w' ∧ ∀ b arr el z, w.heap.size ≤ b → w'.heap[b]? = some (.cells arr el z) → z = (0, 0) :=
  calls_trueJ (G := fun _ => True) (ρ := fun _ => 0) pok ⟨fun i lo hi h => by simp at h, trivial⟩ (fun B w0 => noHooks_ok) wakesRun .nil w

theorem hookP_ok {F : Facts} (L : List Par) (B : Nat) (w0 : World) : HookOk Tryz.prog F (GP L) B w0 (hookP L) := by
  intro f g hg
  unfold hookP at hg
  cases hf : Nat.beq f 15 with
  | false =>
    rw [hf] at hg
    simp only [cond_false] at hg
    cases hf2 : Nat.beq f 22 with
    | false => rw [hf2] at hg; cases hg
    | true =>
      rw [hf2] at hg
      cases hg
      have := Nat.eq_of_beq_eq_true hf2
      subst this
      exact hookTrue_ok callable22 wakes_calls
  | true =>
    rw [hf] at hg
    cases hg
    have := Nat.eq_of_beq_eq_true hf
    subst this
    intro f' args H v H' h
    simp only at h
    split at h
    case isFalse => cases h
    rename_i hf'
    subst hf'
    refine ⟨callable15, fun V w args' hF hW hl => ?_⟩
    obtain ⟨a, b, rfl⟩ : ∃ a b, args = [a, b] := by
      unfold hookIn at h
      split at h
      case h_2 => cases h
      exact ⟨_, _, rfl⟩
    obtain ⟨rfl, x, n, hx, rfl, hn1, hn2, hv⟩ := hookIn_ok hF.2 rfl h
    cases hargs : args'.toList with
    | nil => rw [hargs] at hl; cases hl
    | cons u l =>
      rw [hargs] at hl
      cases hl with
      | cons hu hl =>
      cases hl with
      | cons hy hl =>
      cases hl
      have e2 := hy.inv_int
      have e1 : u = .int .i64 x := by
        cases hx with
        | int k s => rw [hu.inv_int]
      have e : args' = #[.int .i64 x, .int .i64 n] := by
        apply Array.toList_inj.1
        rw [hargs, e1, e2]
        simp [SInt.ev]
      rw [e]
      refine (within_spec x n hn1 hn2 w).mono fun e w' he => ?_
      obtain ⟨rfl, rfl⟩ := he
      exact ⟨V, _, rfl, .refl V _, hW, hv⟩

/-- A law of some numbers and truths, run by the abstract run. -/
theorem law_many {K : FuncId} (L : List Par) (xs : List Int) (hp : parsOk L xs) {vs : List AVal} {args : Array Value} (ha : LRel ⟨rhoP L xs, fun _ => none⟩ vs args.toList) {k : Nat}
    (h : trueF ((execJ Tryz.prog (factsP L) (hookP L) k).call K vs ⟨.nil, 0⟩) = true) (w : World) :
    Calls Tryz.prog K args w fun e w' => e = .returned (.bool true) ∧ Grown w w' := by
  refine (calls_trueJ pok ⟨factsP_ok L xs hp, GP_ok L xs hp⟩ (fun B w0 => hookP_ok L B w0) h ha w).mono fun e w' he => ?_
  obtain ⟨h1, h2, h3⟩ := he
  exact ⟨h1, grown_of h2 h3⟩

theorem tok_rel (ρ : Nat → Int) (i : Nat) (x : Int) (h : ρ i = x) : VRel ⟨ρ, fun _ => none⟩ (tok i) (.int .i64 x) := by
  have hx := VRel.int (V := ⟨ρ, fun _ => none⟩) .i64 (.lin 1 i 0)
  simp only [SInt.ev, h] at hx
  simpa [tok] using hx
theorem wf_i64 {a : Int} (h : (Lit.int .i64 a).wf = true) : -9223372036854775808 ≤ a ∧ a ≤ 9223372036854775807 := by
  simp only [Lit.wf, IntKind.min, IntKind.max, IntKind.signed, IntKind.bits, Bool.and_eq_true, decide_eq_true_eq, if_true] at h
  omega

/-- The cases of one number: of each value one token. -/
def casesL (n : Nat) : Nat → List Par
  | 0 => []
  | k + 1 => ((n : Int), some ((n - (k + 1) : Nat) : Int)) :: casesL n k
def casesX (n : Nat) (a : Int) : Nat → List Int
  | 0 => []
  | k + 1 => (if a % (n : Int) = ((n - (k + 1) : Nat) : Int) then a else ((n - (k + 1) : Nat) : Int)) :: casesX n a k
theorem cases_ok {n : Nat} {a : Int} (hn : 1 ≤ n) (hn2 : n ≤ 1000000) (ha : -9223372036854775808 ≤ a ∧ a ≤ 9223372036854775807) {L : List Par} {xs : List Int} (h : parsOk L xs) : ∀ k, k ≤ n → parsOk (casesL n k ++ L) (casesX n a k ++ xs) := by
  intro k
  induction k with
  | zero => intro _; exact h
  | succ k ih =>
    intro hk
    refine ⟨⟨by show (1 : Int) ≤ (n : Int); omega, by show (n : Int) ≤ 1000000; omega, ?_, ?_, fun c hc => ?_⟩, ih (by omega)⟩
    · split <;> omega
    · split <;> omega
    · cases hc
      split
      · assumption
      · show ((n - (k + 1) : Nat) : Int) % (n : Int) = ((n - (k + 1) : Nat) : Int)
        exact Int.emod_eq_of_lt (by omega) (by omega)
theorem rhoP_append : ∀ (L : List Par) (xs : List Int) (L' : List Par) (xs' : List Int), L.length = xs.length → ∀ i, rhoP (L ++ L') (xs ++ xs') (2 * L.length + i) = rhoP L' xs' i := by
  intro L
  induction L with
  | nil => intro xs L' xs' h i; cases xs with
    | nil => simp
    | cons x xs => simp at h
  | cons p L ih =>
    intro xs L' xs' h i
    cases xs with
    | nil => simp at h
    | cons x xs =>
      have := ih xs L' xs' (by simpa using h) i
      rw [← this]
      have e : 2 * (p :: L).length + i = (2 * L.length + i) + 2 := by simp; omega
      rw [e]; rfl
theorem casesX_len (n : Nat) (a : Int) : ∀ k, (casesL n k).length = (casesX n a k).length := by
  intro k
  induction k with
  | zero => rfl
  | succ k ih => simp [casesL, casesX, ih]
theorem casesL_len (n : Nat) : ∀ k, (casesL n k).length = k := by
  intro k
  induction k with
  | zero => rfl
  | succ k ih => simp [casesL, ih]
/-- The token of the case that holds. -/
theorem cases_rho {n : Nat} {a : Int} (L : List Par) (xs : List Int) : ∀ k c, k ≤ n → n - k ≤ c → c < n → a % (n : Int) = (c : Int) → rhoP (casesL n k ++ L) (casesX n a k ++ xs) (2 * (c - (n - k))) = a := by
  intro k
  induction k with
  | zero => intro c h1 h2 h3 _; omega
  | succ k ih =>
    intro c h1 h2 h3 hc
    by_cases e : c = n - (k + 1)
    · subst e
      have e2 : 2 * ((n - (k + 1)) - (n - (k + 1))) = 0 := by omega
      rw [e2]
      show (if a % (n : Int) = ((n - (k + 1) : Nat) : Int) then a else ((n - (k + 1) : Nat) : Int)) = a
      rw [if_pos hc]
    · have := ih c (by omega) (by omega) h3 hc
      have e2 : 2 * (c - (n - (k + 1))) = 2 * (c - (n - k)) + 2 := by omega
      rw [e2]
      exact this
/-- Is something so of each number below? -/
noncomputable def allN (f : Nat → Bool) (n : Nat) : Bool := Nat.rec (motive := fun _ => Bool) true (fun n ih => Bool.rec (motive := fun _ => Bool) false ih (f n)) n
theorem allN_at {f : Nat → Bool} : ∀ {n : Nat}, allN f n = true → ∀ c, c < n → f c = true := by
  intro n
  induction n with
  | zero => intro _ c h; omega
  | succ n ih =>
    intro h c hc
    have h' : (Bool.rec (motive := fun _ => Bool) false (allN f n) (f n) : Bool) = true := h
    cases hf : f n with
    | false => rw [hf] at h'; cases h'
    | true =>
      rw [hf] at h'
      by_cases e : c = n
      · rw [e]; exact hf
      · exact ih h' c (by omega)
end Go.Proofs.YtlhcpplnlgehbaaGreat
