/- A region whose order is drawn: what a run of its plan tells of every order. -/
import Derived.Test.YtlhcpplnlgehbaaGreatPGhost
namespace Go.Px
open Go Go.RowKit

variable {P : Program} {F : Facts} {V : Val} {B : Nat} {w0 w : World} {H : Hp} {ops : Array Oper} {its : List It}

def DstIs (T : Tm) (o : Oper) (v : AVal) : Prop := ∀ d x, o.dst = some d → Tm.get d T = some x → x = v
def Same (ops : Array Oper) (T' T : Tm) (o : Oper) : Prop := ∀ d, looksD ops o d = true → Tm.get d T' = Tm.get d T

theorem looksD_op {o : Oper} {d : Nat} (h : Operand.tmp d ∈ o.op.operands) : looksD ops o d = true := by
  simp only [looksD, Bool.or_eq_true, List.any_eq_true]
  exact .inl ⟨.tmp d, by simpa using h, by simp [isTmp]⟩
theorem looksD_guard {o q : Oper} {g d : Nat} {want : Bool} (h1 : o.guard = some (g, want)) (h2 : ops[g]? = some q) (h3 : q.dst = some d) : looksD ops o d = true := by
  simp [looksD, h1, h2, h3]

theorem Same.opnd {T' T : Tm} {o : Oper} (h : Same ops T' T o) {x : Operand} (hx : x ∈ o.op.operands) : opnd T' x = opnd T x := by
  cases x with
  | tmp t => exact h t (looksD_op hx)
  | _ => rfl
theorem Same.wanted {T' T : Tm} {o : Oper} (h : Same ops T' T o) : wantedA ops T' o = wantedA ops T o := by
  unfold wantedA
  cases hg : o.guard with
  | none => rfl
  | some gw =>
    obtain ⟨g, want⟩ := gw
    cases hq : ops[g]? with
    | none => simp only [hq]
    | some q =>
      cases hd : q.dst with
      | none => simp only [hq, hd]
      | some d => simp only [hq, hd, h d (looksD_guard hg hq hd)]

/-- An operation that the plan has run and the machine has not. -/
inductive Pnd (P : Program) (F : Facts) (ops : Array Oper) (gh : Nat → Nat) (N : Nat) (str : Prop) (T : Tm) (H : Hp) (V : Val) (p : It) : Prop
  | off (hw : wantedA ops T p.o = some false) (hd : DstIs T p.o unit)
  | made (hw : wantedA ops T p.o = some true) (ha : allocOp p.o.op = true) (T' : Tm) (H0 : Hp) (v : AVal) (ob : AObj) (hs : Same ops T' T p.o) (hd : DstIs T p.o v)
      (he : aop P F T' H0 p.o = some (.val v (H0.alloc ob))) (hn : H0.next = gh p.i) (hN : N ≤ gh p.i) (hl : gh p.i < H.next) (ho : H.t.get (gh p.i) = some ob) (hv : V.blk (gh p.i) = none)
  | flat (hw : wantedA ops T p.o = some true) (hp : pureOp p.o.op = true) (T' : Tm) (v : AVal) (hs : Same ops T' T p.o) (hd : DstIs T p.o v) (he : ∀ H, aop P F T' H p.o = some (.val v H))
  | read (hw : wantedA ops T p.o = some true) (hr : readOp p.o.op = true) (he : str → ∃ T' v H1, Same ops T' T p.o ∧ DstIs T p.o v ∧ aop P F T' H p.o = some (.val v H1))

theorem Pnd.move {gh gh2 : Nat → Nat} {N : Nat} {str str2 : Prop} {T T2 : Tm} {H2 : Hp} {V2 : Val} {p : It} (h : Pnd P F ops gh N str T H V p)
    (hT : ∀ d, looksD ops p.o d = true ∨ p.o.dst = some d → Tm.get d T2 = Tm.get d T) (hg : gh2 p.i = gh p.i)
    (hH : ∀ id, id < H.next → V.blk id = none → H2.t.get id = H.t.get id) (hn : H.next ≤ H2.next)
    (hV : wantedA ops T p.o = some true → allocOp p.o.op = true → gh p.i < H.next → V.blk (gh p.i) = none → V2.blk (gh p.i) = none) (hR : str2 → str ∧ H2 = H) : Pnd P F ops gh2 N str2 T2 H2 V2 p := by
  have hsame : Same ops T2 T p.o := fun d hd => hT d (.inl hd)
  have hback : ∀ T', Same ops T' T p.o → Same ops T' T2 p.o := fun T' h d hd => by rw [h d hd, hT d (.inl hd)]
  have hdst : ∀ v, DstIs T p.o v → DstIs T2 p.o v := fun v h d x hd hx => h d x hd (by rw [← hT d (.inr hd)]; exact hx)
  cases h with
  | off hw hd => exact .off (by rw [hsame.wanted]; exact hw) (hdst _ hd)
  | made hw ha T' H0 v ob hs hd he hn' hN hl ho hv =>
    exact .made (by rw [hsame.wanted]; exact hw) ha T' H0 v ob (hback _ hs) (hdst _ hd) he (by rw [hg]; exact hn') (by rw [hg]; exact hN) (by rw [hg]; omega) (by rw [hg, hH _ hl hv]; exact ho) (by rw [hg]; exact hV hw ha hl hv)
  | flat hw hp T' v hs hd he => exact .flat (by rw [hsame.wanted]; exact hw) hp T' v (hback _ hs) (hdst _ hd) he
  | read hw hr he =>
    refine .read (by rw [hsame.wanted]; exact hw) hr fun s => ?_
    obtain ⟨s1, rfl⟩ := hR s
    obtain ⟨T', v, H1, h1, h2, h3⟩ := he s1
    exact ⟨T', v, H1, hback _ h1, hdst _ h2, h3⟩

/-- Where the machine stands beside the plan. -/
structure Mid (P : Program) (F : Facts) (ops : Array Oper) (its : List It) (B : Nat) (w0 : World) (gh : Nat → Nat) (N : Nat) (str : Prop) (pend rest : List It) (T : Tm) (H : Hp) (V : Val) (a : Act) (w : World) : Prop where
  wrel : WRel B w0 V H w
  inits : ∀ x, x ∈ pend ∨ x ∈ rest → its[x.i]? = some x
  apart : ∀ p x, p ∈ pend → x ∈ rest → p.i ≠ x.i
  sep : ∀ p x, p ∈ pend → x ∈ rest → p.m.testBit x.i = false
  pnd : ∀ p, p ∈ pend → Pnd P F ops gh N str T H V p
  gd : ∀ p q, p ∈ pend → q ∈ pend → allocOp p.o.op = true → allocOp q.o.op = true → wantedA ops T p.o = some true → wantedA ops T q.o = some true → p.i ≠ q.i → gh p.i ≠ gh q.i
  gl : ∀ p, p ∈ pend → allocOp p.o.op = true → wantedA ops T p.o = some true → gh p.i < H.next
  pt : ∀ t x, Tm.get t T = some x → (∃ p, p ∈ pend ∧ p.o.dst = some t) ∨ ∃ v, a.tmps[t]? = some v ∧ VRel V x v

theorem get_putD_ne {T : Tm} {o : Option Tmp} {v : AVal} {d : Nat} (h : o ≠ some d) : Tm.get d (putD T o v) = Tm.get d T := by
  cases o with
  | none => rfl
  | some e => exact Tm.get_put_ne e d v T (fun he => h (by rw [he]))

theorem get_putD {T : Tm} {o : Option Tmp} {v x : AVal} {d : Nat} (h : Tm.get d (putD T o v) = some x) : (o = some d ∧ x = v) ∨ (o ≠ some d ∧ Tm.get d T = some x) := by
  cases o with
  | none => exact .inr ⟨nofun, h⟩
  | some e =>
    rcases Tm.get_put e d v T x h with ⟨rfl, rfl⟩ | ⟨h1, h2⟩
    · exact .inl ⟨rfl, rfl⟩
    · exact .inr ⟨fun he => h1 (by cases he; rfl), h2⟩

theorem put_away (hA : Apart ops its) {x p : It} (hx : its[x.i]? = some x) (hp : its[p.i]? = some p) (hs : p.m.testBit x.i = false) (hne : p.i ≠ x.i) (T : Tm) (v : AVal) :
    ∀ d, looksD ops p.o d = true ∨ p.o.dst = some d → Tm.get d (putD T x.o.dst v) = Tm.get d T := by
  intro d hd
  refine get_putD_ne fun hxd => ?_
  rcases hd with hd | hd
  · have := hA.look x (List.mem_of_getElem? hx) p (List.mem_of_getElem? hp) d hxd hd
    rw [hs] at this; cases this
  · exact hne (hA.dst x (List.mem_of_getElem? hx) p (List.mem_of_getElem? hp) d hxd hd).symm

theorem Items.bit_lt (hI : Items ops its) : ∀ (k : Nat) x, its[k]? = some x → ∀ i, x.m.testBit i = true → i < k := by
  intro k
  induction k using Nat.strongRecOn with
  | _ k ih =>
    intro x hx i hi
    obtain ⟨e, h1, h2, y, h3, h4⟩ := hI.bit k x hx i hi
    have hlt := hI.lin k x hx e h1 h2
    rcases h4 with rfl | h4
    · exact hlt
    · have := ih e.on hlt y h3 i h4; omega

theorem self_away (hI : Items ops its) (hA : Apart ops its) {x : It} (hx : its[x.i]? = some x) (T : Tm) (v : AVal) : Same ops T (putD T x.o.dst v) x.o := by
  intro d hd
  refine (get_putD_ne fun hxd => ?_).symm
  have := hA.look x (List.mem_of_getElem? hx) x (List.mem_of_getElem? hx) d hxd hd
  have := hI.bit_lt x.i x hx x.i this
  omega

theorem dstIs_put (T : Tm) (o : Oper) (v : AVal) : DstIs (putD T o.dst v) o v := by
  intro d x hd hx
  rcases get_putD hx with ⟨_, h⟩ | ⟨h, _⟩
  · exact h
  · exact absurd hd h

theorem work_mid (hI : Items ops its) (hA : Apart ops its) {N : Nat} {a : Act} {T1 : Tm} {H1 : Hp} : ∀ (l pend rest : List It) (gh : Nat → Nat) (T : Tm) (H : Hp),
    Mid P F ops its B w0 gh N False pend (l ++ rest) T H V a w → l.Pairwise (fun p x => p.m.testBit x.i = false) → (∀ x, x ∈ l → chainOp x.o.op = false) → (l ++ rest).Pairwise (fun x y => x.i ≠ y.i) →
    (∀ p x, p ∈ l → x ∈ rest → p.m.testBit x.i = false) → N ≤ H.next → runWork P F ops l T H = some (T1, H1) →
    ∃ gh1, Mid P F ops its B w0 gh1 N False (pend ++ l) rest T1 H1 V a w ∧ Ext V V H H1 := by
  intro l
  induction l with
  | nil =>
    intro pend rest gh T H hM _ _ _ _ _ h
    cases h
    exact ⟨gh, by simpa using hM, .refl V _⟩
  | cons x l ih =>
    intro pend rest gh T H hM hsl hch hne hsr hN h
    simp only [runWork] at h
    split at h
    case h_2 => cases h
    rename_i T2 H2 hwo
    have hx : its[x.i]? = some x := hM.inits x (.inr (by simp))
    rw [List.pairwise_cons] at hsl
    rw [List.cons_append, List.pairwise_cons] at hne
    have hps : ∀ p, p ∈ pend → its[p.i]? = some p := fun p hp => hM.inits p (.inl hp)
    have away : ∀ v p, p ∈ pend → ∀ d, looksD ops p.o d = true ∨ p.o.dst = some d → Tm.get d (putD T x.o.dst v) = Tm.get d T := fun v p hp =>
      put_away hA hx (hps p hp) (hM.sep p x hp (by simp)) (hM.apart p x hp (by simp)) T v
    have awayS : ∀ v p, p ∈ pend → Same ops (putD T x.o.dst v) T p.o := fun v p hp d hd => away v p hp d (.inl hd)
    -- the next standing
    have go : ∀ v gh2, T2 = putD T x.o.dst v → (∀ p, p ∈ pend → gh2 p.i = gh p.i) → WRel B w0 V H2 w → Ext V V H H2 → Pnd P F ops gh2 N False T2 H2 V x →
        (allocOp x.o.op = true → wantedA ops T2 x.o = some true → gh2 x.i = H.next ∧ H.next < H2.next) →
        Mid P F ops its B w0 gh2 N False (pend ++ [x]) (l ++ rest) T2 H2 V a w := by
      intro v gh2 hT2 hg hW hE hp hgx
      subst hT2
      refine ⟨hW, fun y hy => ?_, fun p y hp hy => ?_, fun p y hp hy => ?_, fun p hp' => ?_, fun p q hp hq ha hb hwp hwq hpq => ?_, fun p hp ha hw => ?_, fun t u hu => ?_⟩
      · rcases hy with hy | hy
        · rcases List.mem_append.1 hy with hy | hy
          · exact hps y hy
          · simp at hy; subst hy; exact hx
        · exact hM.inits y (.inr (by rw [List.cons_append]; exact List.mem_cons_of_mem _ hy))
      · rcases List.mem_append.1 hp with hp | hp
        · exact hM.apart p y hp (by rw [List.cons_append]; exact List.mem_cons_of_mem _ hy)
        · simp at hp; subst hp; exact hne.1 y hy
      · rcases List.mem_append.1 hp with hp | hp
        · exact hM.sep p y hp (by rw [List.cons_append]; exact List.mem_cons_of_mem _ hy)
        · simp at hp; subst hp
          rcases List.mem_append.1 hy with hy | hy
          · exact hsl.1 y hy
          · exact hsr p y (by simp) hy
      · rcases List.mem_append.1 hp' with hp' | hp'
        · exact (hM.pnd p hp').move (away v p hp') (hg p hp') hE.ghost hE.next (fun _ _ _ h => h) nofun
        · simp at hp'; subst hp'; exact hp
      · have lt : ∀ p, p ∈ pend → allocOp p.o.op = true → wantedA ops (putD T x.o.dst v) p.o = some true → gh2 p.i < H.next := fun p hp ha hw => by
          rw [hg p hp]; exact hM.gl p hp ha (by rw [← (awayS v p hp).wanted]; exact hw)
        rcases List.mem_append.1 hp with hp1 | hp1 <;> rcases List.mem_append.1 hq with hq1 | hq1
        · rw [hg p hp1, hg q hq1]
          exact hM.gd p q hp1 hq1 ha hb (by rw [← (awayS v p hp1).wanted]; exact hwp) (by rw [← (awayS v q hq1).wanted]; exact hwq) hpq
        · have hqx : q = x := by simpa using hq1
          have h1 := lt p hp1 ha hwp
          have h2 := (hgx (hqx ▸ hb) (hqx ▸ hwq)).1
          rw [hqx]; omega
        · have hpx : p = x := by simpa using hp1
          have h1 := lt q hq1 hb hwq
          have h2 := (hgx (hpx ▸ ha) (hpx ▸ hwp)).1
          rw [hpx]; omega
        · have hpx : p = x := by simpa using hp1
          have hqx : q = x := by simpa using hq1
          exact absurd (by rw [hpx, hqx]) hpq
      · rcases List.mem_append.1 hp with hp | hp
        · have h1 := hM.gl p hp ha (by rw [← (awayS v p hp).wanted]; exact hw)
          have h2 := hE.next
          rw [hg p hp]; omega
        · simp at hp; subst hp
          have := hgx ha hw
          omega
      · rcases get_putD hu with ⟨h1, _⟩ | ⟨_, h2⟩
        · exact .inl ⟨x, by simp, h1⟩
        · rcases hM.pt t u h2 with ⟨p, hp, hpd⟩ | h3
          · exact .inl ⟨p, by simp [hp], hpd⟩
          · exact .inr h3
    have tail : ∀ gh2, Mid P F ops its B w0 gh2 N False (pend ++ [x]) (l ++ rest) T2 H2 V a w → Ext V V H H2 → ∃ gh1, Mid P F ops its B w0 gh1 N False (pend ++ x :: l) rest T1 H1 V a w ∧ Ext V V H H1 := by
      intro gh2 hM2 hE
      obtain ⟨gh1, h1, h2⟩ := ih (pend ++ [x]) rest gh2 T2 H2 hM2 hsl.2 (fun y hy => hch y (by simp [hy])) hne.2 (fun p y hp hy => hsr p y (by simp [hp]) hy) (Nat.le_trans hN hE.next) h
      exact ⟨gh1, by simpa using h1, hE.trans h2⟩
    have hcx := hch x (by simp)
    unfold workOp at hwo
    rw [aopF_eq] at hwo
    split at hwo
    case h_3 => cases hwo
    · rename_i hw
      split at hwo
      case h_2 => cases hwo
      rename_i v H' hop
      have hwx : wantedA ops (putD T x.o.dst v) x.o = some true := by rw [← (self_away hI hA hx T v).wanted]; exact hw
      cases ha : allocOp x.o.op with
      | true =>
        rw [ha] at hwo
        simp only [cond_true, Option.some.injEq, Prod.mk.injEq] at hwo
        obtain ⟨rfl, rfl⟩ := hwo
        obtain ⟨v1, ob, h1⟩ := alloc_heap ha hop
        cases h1
        have hn := hM.wrel.next H.next (Nat.le_refl _)
        have hget : (H.alloc ob).t.get H.next = some ob := by simp [Hp.alloc, Tr.get_set]
        refine tail (fun i => if i = x.i then H.next else gh i) (go v _ rfl (fun p hp => by simp [hM.apart p x hp (by simp)]) (hM.wrel.ghost ob) (.ghostAlloc V H ob) ?_ (fun _ _ => ⟨by simp, Nat.lt_succ_self _⟩)) (.ghostAlloc V H ob)
        exact .made hwx ha T H v ob (self_away hI hA hx T v) (dstIs_put T x.o v) hop (by simp) (by simpa using hN) (by simp [Hp.alloc]) (by simpa using hget) (by simpa using hn.1)
      | false =>
        rw [ha] at hwo
        simp only [cond_false, Option.some.injEq, Prod.mk.injEq] at hwo
        obtain ⟨rfl, rfl⟩ := hwo
        refine tail gh (go v gh rfl (fun _ _ => rfl) hM.wrel (.refl V H) ?_ (fun h => by rw [ha] at h; cases h)) (.refl V H)
        cases hp : pureOp x.o.op with
        | true => exact .flat hwx hp T v (self_away hI hA hx T v) (dstIs_put T x.o v) ((pure_flat hp).all hop)
        | false =>
          have hq : quietOp x.o.op = true := by simpa [chainOp, ha] using hcx
          exact .read hwx (by simp [readOp, hq, hp]) nofun
    · rename_i hw
      cases hwo
      have hwx : wantedA ops (putD T x.o.dst unit) x.o = some false := by rw [← (self_away hI hA hx T unit).wanted]; exact hw
      exact tail gh (go unit gh rfl (fun _ _ => rfl) hM.wrel (.refl V H) (.off hwx (dstIs_put T x.o unit)) (fun _ h => by rw [hwx] at h; cases h)) (.refl V H)

theorem listEq_eq {e : AVal → AVal → Bool} (he : ∀ a b, e a b = true → a = b) : ∀ {x y : List AVal}, listEq e x y = true → x = y := by
  intro x
  induction x with
  | nil => intro y h; cases y with
    | nil => rfl
    | cons => cases h
  | cons a x ih => intro y h; cases y with
    | nil => cases h
    | cons b y =>
      simp only [listEq, Bool.and_eq_true] at h
      rw [he a b h.1, ih h.2]
theorem avEqN_eq : ∀ (n : Nat) (a b : AVal), avEqN n a b = true → a = b := by
  intro n
  induction n with
  | zero => intro a b h; cases h
  | succ n ih =>
    intro a b h
    unfold avEqN at h
    split at h <;> first
      | (cases h; done)
      | (rfl; done)
      | (simp only [beq_iff_eq] at h; subst h; rfl)
      | (have := (natsBeq_iff _ _).1 h; subst this; rfl)
      | (have := listEq_eq ih h; subst this; rfl)
      | (simp only [Bool.and_eq_true, Nat.beq_eq] at h; obtain ⟨h1, h2, h3⟩ := h; rw [h1, listEq_eq ih h2, listEq_eq ih h3])
      | (simp only [Bool.and_eq_true, kbeq_iff, ibeq_iff, Nat.beq_eq] at h; simp only [h]; done)
      | (simp only [Bool.and_eq_true, Nat.beq_eq] at h; obtain ⟨h1, h2⟩ := h; rw [h1, ih _ _ h2])
      | (simp only [Nat.beq_eq] at h; subst h; rfl)
theorem avEq_eq {a b : AVal} (h : avEq a b = true) : a = b := avEqN_eq 4 a b h

theorem again_str {gh : Nat → Nat} {N : Nat} {pend rest : List It} {T : Tm} {a : Act} (hM : Mid P F ops its B w0 gh N False pend rest T H V a w) (h : ∀ p, p ∈ pend → readOp p.o.op = true → againOk P F ops T H p.o = true) :
    Mid P F ops its B w0 gh N True pend rest T H V a w := by
  refine ⟨hM.wrel, hM.inits, hM.apart, hM.sep, fun p hp => ?_, hM.gd, hM.gl, hM.pt⟩
  cases hM.pnd p hp with
  | off hw hd => exact .off hw hd
  | made hw ha T' H0 v ob hs hd he hn hN hl ho hv => exact .made hw ha T' H0 v ob hs hd he hn hN hl ho hv
  | flat hw hp' T' v hs hd he => exact .flat hw hp' T' v hs hd he
  | read hw hr _ =>
    refine .read hw hr fun _ => ?_
    have ha := h p hp hr
    unfold againOk at ha
    rw [hw, aopF_eq] at ha
    simp only at ha
    split at ha
    · rename_i v H1 hop
      refine ⟨T, v, H1, fun _ _ => rfl, fun d x hd hx => ?_, hop⟩
      rw [hd] at ha
      simp only [hx] at ha
      exact avEq_eq ha
    · cases ha
end Go.Px
