/- A region whose order is drawn: the stages of a plan, and every order. -/
import Derived.Test.YtlhcpplnlgehbaaGreatPDraw
namespace Go.Px
open Go Go.RowKit

variable {P : Program} {F : Facts} {V : Val} {B : Nat} {w0 w : World} {H : Hp} {ops : Array Oper} {its : List It}

theorem two_len (f g : It → Bool) : ∀ l : List It, (∀ x, x ∈ l → f x = true → g x = false) → (l.filter f).length + (l.filter g).length ≤ l.length := by
  intro l
  induction l with
  | nil => intro _; simp
  | cons x l ih =>
    intro h
    have := ih fun y hy => h y (by simp [hy])
    have hx := h x (by simp)
    simp only [List.filter_cons]
    cases hf : f x with
    | true => simp only [hx hf, if_true, List.length_cons, Bool.false_eq_true, if_false]; omega
    | false => cases hg : g x <;> simp only [if_true, List.length_cons, Bool.false_eq_true, if_false] <;> omega

theorem three_len (f g : It → Bool) (c : It) : ∀ l : List It, c ∈ l → f c = false → g c = false → (∀ x, x ∈ l → f x = true → g x = false) → (l.filter f).length + (l.filter g).length + 1 ≤ l.length := by
  intro l
  induction l with
  | nil => intro h; simp at h
  | cons x l ih =>
    intro hc hfc hgc h
    rcases List.mem_cons.1 hc with rfl | hc
    · have := two_len f g l fun y hy => h y (by simp [hy])
      simp only [List.filter_cons, hfc, hgc, Bool.false_eq_true, if_false, List.length_cons]; omega
    · have := ih hc hfc hgc fun y hy => h y (by simp [hy])
      have hx := h x (by simp)
      simp only [List.filter_cons]
      cases hf : f x with
      | true => simp only [hx hf, if_true, List.length_cons, Bool.false_eq_true, if_false]; omega
      | false => cases hg : g x <;> simp only [if_true, List.length_cons, Bool.false_eq_true, if_false] <;> omega

/-- What is left of the plan. -/
inductive Cont (P : Program) (F : Facts) (rec : Rec) (ops : Array Oper) (pend rest : List It) (T : Tm) (H : Hp) (Tf : Tm) (Hf : Hp) : Prop
  | last (hr : rest = []) (hT : T = Tf) (hH : H = Hf)
  | next (c : It) (R : List It) (n : Nat) (prev : List It) (ss : List Stage) (T1 : Tm) (H1 : Hp) (hr : rest = c :: R) (hc : stepOp P F rec ops T H c.o = some (T1, H1)) (hs : stagesOf n prev R = some ss)
      (hru : runStages P F rec ops ss T1 H1 = some (Tf, Hf)) (hdep : ∀ x, x ∈ R → x.m.testBit c.i = true ∧ c.m.testBit x.i = false ∧ x.i ≠ c.i) (hprev : ∀ p, p ∈ pend → readOp p.o.op = true → c.m.testBit p.i = false → p ∈ prev)
      (hnd : R.Pairwise (fun x y => x.i ≠ y.i))

theorem enter (hI : Items ops its) (hA : Apart ops its) {rec : Rec} {N : Nat} {a : Act} {Tf : Tm} {Hf : Hp} {n : Nat} {prev rest pend : List It} {ss : List Stage} {gh : Nat → Nat} {T : Tm}
    (hs : stagesOf n prev rest = some ss) (hru : runStages P F rec ops ss T H = some (Tf, Hf)) (hM : Mid P F ops its B w0 gh N False pend rest T H V a w) (hnd : rest.Pairwise (fun x y => x.i ≠ y.i))
    (hprev : ∀ p, p ∈ pend → readOp p.o.op = true → p ∈ prev) (hN : N ≤ H.next) :
    ∃ gh1 pend1 rest1 T1 H1, Mid P F ops its B w0 gh1 N True pend1 rest1 T1 H1 V a w ∧ Ext V V H H1 ∧ Cont P F rec ops pend1 rest1 T1 H1 Tf Hf ∧ (∀ x, (x ∈ pend1 ∨ x ∈ rest1) ↔ (x ∈ pend ∨ x ∈ rest)) ∧ pend1.length + rest1.length ≤ pend.length + rest.length := by
  cases n with
  | zero => cases hs
  | succ n =>
  simp only [stagesOf] at hs
  have hin : ∀ x, x ∈ rest → its[x.i]? = some x := fun x hx => hM.inits x (.inr hx)
  have same : ∀ x y, x ∈ rest → y ∈ rest → x.i = y.i → x = y := fun x y hx hy e => by
    have h1 := hin x hx
    have h2 := hin y hy
    rw [e, h2] at h1; cases h1; rfl
  split at hs
  · rename_i hfc
    cases hsep : sepM 0 rest with
    | none => rw [hsep] at hs; cases hs
    | some M0 =>
    rw [hsep] at hs; cases hs
    simp only [runStages] at hru
    split at hru
    · cases hru
    rename_i T1 H1 hwk
    cases hag : (prev ++ rest.filter fun x => readOp x.o.op).all fun x => againOk P F ops T1 H1 x.o with
    | false => rw [hag] at hru; cases hru
    | true =>
    rw [hag] at hru; cases hru
    obtain ⟨gh1, hM1, hE⟩ := work_mid hI hA rest pend [] gh T H (by simpa using hM) (sepM_spec hsep).2.2.1 (firstChain_none hfc) (by simpa using hnd) (fun p x _ hx => by simp at hx) hN hwk
    rw [List.all_eq_true] at hag
    refine ⟨gh1, pend ++ rest, [], _, _, again_str hM1 (fun p hp hr => hag p ?_), hE, .last rfl rfl rfl, fun x => by simp, by simp⟩
    rcases List.mem_append.1 hp with hp | hp
    · exact List.mem_append_left _ (hprev p hp hr)
    · exact List.mem_append_right _ (List.mem_filter.2 ⟨hp, hr⟩)
  · rename_i c hfc
    obtain ⟨hcm, hcc⟩ := firstChain_some hfc
    generalize hW : rest.filter (fun x => !chainOp x.o.op && !(Nat.testBit x.m c.i)) = W at hs
    generalize hR : rest.filter (fun x => !(Nat.beq x.i c.i) && (chainOp x.o.op || Nat.testBit x.m c.i)) = R at hs
    cases hchk : (((sepM (maskL (c :: R)) W).isSome && Nat.beq (Nat.land c.m (maskL R)) 0) && R.all (fun x => Nat.testBit x.m c.i)) with
    | false => rw [hchk] at hs; cases hs
    | true =>
    rw [hchk] at hs
    simp only [cond_true] at hs
    split at hs
    case h_2 => cases hs
    rename_i ss' hss
    cases hs
    simp only [Bool.and_eq_true, List.all_eq_true] at hchk
    obtain ⟨⟨hsepW, hcR⟩, hRc⟩ := hchk
    obtain ⟨M0, hM0⟩ := Option.isSome_iff_exists.1 hsepW
    obtain ⟨_, _, hsepP, hsepC⟩ := sepM_spec hM0
    have memW : ∀ x, x ∈ W ↔ x ∈ rest ∧ chainOp x.o.op = false ∧ x.m.testBit c.i = false := by
      intro x; rw [← hW, List.mem_filter]; simp
    have memR : ∀ x, x ∈ R ↔ x ∈ rest ∧ x.i ≠ c.i ∧ (chainOp x.o.op = true ∨ x.m.testBit c.i = true) := by
      intro x; rw [← hR, List.mem_filter]
      simp only [Bool.and_eq_true, Bool.not_eq_true', Bool.or_eq_true]
      refine ⟨fun ⟨h1, h2, h3⟩ => ⟨h1, fun e => ?_, h3⟩, fun ⟨h1, h2, h3⟩ => ⟨h1, ?_, h3⟩⟩
      · rw [e] at h2; simp at h2
      · cases hb : Nat.beq x.i c.i with
        | false => rfl
        | true => exact absurd (Nat.eq_of_beq_eq_true hb) h2
    have parts : ∀ x, x ∈ rest → x ∈ W ∨ x = c ∨ x ∈ R := by
      intro x hx
      by_cases hi : x.i = c.i
      · exact .inr (.inl (same x c hx hcm hi))
      · cases hcx : chainOp x.o.op with
        | true => exact .inr (.inr ((memR x).2 ⟨hx, hi, .inl hcx⟩))
        | false =>
          cases hb : x.m.testBit c.i with
          | true => exact .inr (.inr ((memR x).2 ⟨hx, hi, .inr hb⟩))
          | false => exact .inl ((memW x).2 ⟨hx, hcx, hb⟩)
    have back : ∀ x, x ∈ W ++ (c :: R) → x ∈ rest := by
      intro x hx
      rcases List.mem_append.1 hx with hx | hx
      · exact ((memW x).1 hx).1
      · rcases List.mem_cons.1 hx with rfl | hx
        · exact hcm
        · exact ((memR x).1 hx).1
    have cross : ∀ p x, p ∈ W → x ∈ c :: R → p.i ≠ x.i := by
      intro p x hp hx e
      have hpx := same p x ((memW p).1 hp).1 (back x (List.mem_append_right _ hx)) e
      obtain ⟨_, h1, h2⟩ := (memW p).1 hp
      rcases List.mem_cons.1 hx with hx | hx
      · rw [hpx, hx, hcc] at h1; cases h1
      · obtain ⟨_, _, h3⟩ := (memR x).1 hx
        rw [← hpx, h1, h2] at h3
        simp at h3
    have hndW : W.Pairwise (fun x y => x.i ≠ y.i) := hW ▸ hnd.filter _
    have hndR : R.Pairwise (fun x y => x.i ≠ y.i) := hR ▸ hnd.filter _
    have hndC : (c :: R).Pairwise (fun x y => x.i ≠ y.i) := List.pairwise_cons.2 ⟨fun x hx => ((memR x).1 hx).2.1.symm, hndR⟩
    have hM' : Mid P F ops its B w0 gh N False pend (W ++ (c :: R)) T H V a w :=
      ⟨hM.wrel, fun x hx => hM.inits x (hx.imp id (back x)), fun p x hp hx => hM.apart p x hp (back x hx), fun p x hp hx => hM.sep p x hp (back x hx), hM.pnd, hM.gd, hM.gl, hM.pt⟩
    simp only [runStages] at hru
    split at hru
    · cases hru
    rename_i T1 H1 hwk
    cases hag : (prev ++ W.filter fun x => readOp x.o.op).all fun x => againOk P F ops T1 H1 x.o with
    | false => rw [hag] at hru; cases hru
    | true =>
    rw [hag] at hru
    simp only [cond_true] at hru
    split at hru
    case h_2 => cases hru
    rename_i T2 H2 hst
    obtain ⟨gh1, hM1, hE⟩ := work_mid hI hA W pend (c :: R) gh T H hM' hsepP (fun x hx => ((memW x).1 hx).2.1)
      (List.pairwise_append.2 ⟨hndW, hndC, fun p hp x hx => cross p x hp hx⟩) (fun p x hp hx => hsepC p hp _ (maskL_mem hx)) hN hwk
    rw [List.all_eq_true] at hag
    have inA : ∀ p, p ∈ pend ++ W → readOp p.o.op = true → p ∈ prev ++ W.filter fun x => readOp x.o.op := by
      intro p hp hr
      rcases List.mem_append.1 hp with hp | hp
      · exact List.mem_append_left _ (hprev p hp hr)
      · exact List.mem_append_right _ (List.mem_filter.2 ⟨hp, hr⟩)
    refine ⟨gh1, pend ++ W, c :: R, T1, H1, again_str hM1 (fun p hp hr => hag p (inA p hp hr)), hE,
      .next c R n _ ss' T2 H2 rfl hst hss hru (fun x hx => ?_) (fun p hp hr hb => List.mem_filter.2 ⟨inA p hp hr, by simp [hb]⟩) hndR, fun x => ?_, ?_⟩
    · have := hRc x hx
      exact ⟨this, land_zero hcR (maskL_mem hx), ((memR x).1 hx).2.1⟩
    · constructor
      · rintro (hx | hx)
        · rcases List.mem_append.1 hx with hx | hx
          · exact .inl hx
          · exact .inr ((memW x).1 hx).1
        · exact .inr (back x (List.mem_append_right _ hx))
      · rintro (hx | hx)
        · exact .inl (List.mem_append_left _ hx)
        · rcases parts x hx with h | rfl | h
          · exact .inl (List.mem_append_right _ h)
          · exact .inr (by simp)
          · exact .inr (by simp [h])
    · have h3 := three_len (fun x => !chainOp x.o.op && !(Nat.testBit x.m c.i)) (fun x => !(Nat.beq x.i c.i) && (chainOp x.o.op || Nat.testBit x.m c.i)) c rest hcm (by simp [hcc]) (by simp) (fun x _ hx => by
        simp only [Bool.and_eq_true, Bool.not_eq_true'] at hx
        simp [hx.1, hx.2])
      rw [hW, hR] at h3
      simp only [List.length_append, List.length_cons]
      omega

/-- What is listed beside the plan. -/
structure Lst (its : List It) (pend rest : List It) (listed : Array Bool) : Prop where
  size : listed.size = its.length
  iff_ : ∀ x, its[x.i]? = some x → (listed.getD x.i false = true ↔ ¬ (x ∈ pend ∨ x ∈ rest))
  closed : ∀ (k : Nat) x, its[k]? = some x → listed.getD k false = true → ∀ e, e ∈ x.o.after.toList → bindsAny e = true → listed.getD e.on false = true

theorem Lst.add {pend rest pend2 rest2 : List It} {listed : Array Bool} (h : Lst its pend rest listed) {x : It} (hx : its[x.i]? = some x) (hr : ∀ e, e ∈ x.o.after.toList → bindsAny e = true → listed.getD e.on false = true)
    (hm : ∀ y, its[y.i]? = some y → ((y ∈ pend2 ∨ y ∈ rest2) ↔ ((y ∈ pend ∨ y ∈ rest) ∧ y.i ≠ x.i))) : Lst its pend2 rest2 (listed.setIfInBounds x.i true) := by
  have hlt : x.i < listed.size := by rw [h.size]; exact (List.getElem?_eq_some_iff.1 hx).1
  have hself : (listed.setIfInBounds x.i true).getD x.i false = true := by simp [hlt]
  refine ⟨by simpa using h.size, fun y hy => ?_, fun k y hy hl e he hb => ?_⟩
  · by_cases hyx : y.i = x.i
    · rw [hyx, hself, hm y hy]
      simp [hyx]
    · rw [getD_set_ne false (fun e => hyx e.symm), h.iff_ y hy, hm y hy]
      simp [hyx]
  · by_cases hyx : k = x.i
    · subst hyx
      rw [hx] at hy; cases hy
      exact getD_set_true (hr e he hb)
    · rw [getD_set_ne false (fun e => hyx e.symm)] at hl
      exact getD_set_true (h.closed k y hy hl e he hb)

theorem ready_iff (hI : Items ops its) (hlen : its.length = ops.size) {listed : Array Bool} (hsz : listed.size = its.length) {i : Nat} : i ∈ Region.ready .any ops listed ↔
    ∃ x, its[i]? = some x ∧ x.i = i ∧ ops[i]? = some x.o ∧ listed.getD i false = false ∧ ∀ e, e ∈ x.o.after.toList → bindsAny e = true → listed.getD e.on false = true := by
  rw [mem_ready]
  constructor
  · rintro ⟨h1, o, h2, h3⟩
    have hlt : i < its.length := by rw [hlen]; exact (Array.getElem?_eq_some_iff.1 h2).1
    have hx : its[i]? = some (its[i]'hlt) := by simp [hlt]
    obtain ⟨h4, h5⟩ := hI.at_ i _ hx
    rw [h2] at h5
    cases h5
    refine ⟨_, hx, h4, h2, ?_, fun e he hb => h3 e (by simpa using he) (by rw [bindsAny_eq]; exact hb)⟩
    have : i < listed.size := by omega
    simpa [this] using h1
  · rintro ⟨x, h1, h2, h3, h4, h5⟩
    have : i < listed.size := by rw [hsz]; exact (List.getElem?_eq_some_iff.1 h1).1
    exact ⟨by simpa [this] using h4, x.o, h3, fun e he hb => h5 e (by simpa using he) (by rw [← bindsAny_eq]; exact hb)⟩
end Go.Px
