/- The run, made ready once: regions, the code, calls; it is sound. -/
import Derived.Test.YtlhcpplnlgehbaaGreatPJit3
namespace Go.Px
open Go Go.RowKit
noncomputable section

/-! ### regions -/
def jEnd (_rec : RecF) (T : Tm) (H : Hp) : RO := .ok T H
def opsJ (P : Program) (F : Facts) (ops : Array Oper) (l : List Oper) : JB := List.rec (motive := fun _ => JB) ⟨jEnd⟩ (fun o _ ih => compOp P F ops o ih) l
theorem opsJ_run {P : Program} {F : Facts} {rec : Rec} {recF : RecF} (hc : ∀ f as H, (recF.call f as H).opt = rec.call f as H) (ops : Array Oper) : ∀ (l : List Oper) (T : Tm) (H : Hp),
    ((opsJ P F ops l).run recF T H).opt = runOps P F rec ops l T H := by
  intro l
  induction l with
  | nil => intro T H; rfl
  | cons o os ih =>
    intro T H
    have := stepF_eq (P := P) (F := F) hc ops T H o
    have e : opsJ P F ops (o :: os) = compOp P F ops o (opsJ P F ops os) := rfl
    rw [e, compOp_run]
    unfold runOps
    rw [← this]
    cases stepF P F recF ops T H o with
    | fail => rfl
    | ok T' H' => exact ih T' H'

/-! ### a region whose order is drawn -/
def jWk (P : Program) (F : Facts) (ops : Array Oper) (o : Oper) (k : Ky) (rec : RecF) (T : Tm) (H : Hp) : RO := RO.rec (motive := fun _ => Ky → RecF → RO) jgF jgOk (workF P F ops T H o) k rec
def genWk (P : Program) (F : Facts) (ops : Array Oper) (o : Oper) (k : JB) : JB := JB.rec (motive := fun _ => JB) (fun k => ⟨jWk P F ops o k⟩) k
def compWk (P : Program) (F : Facts) (ops : Array Oper) (o : Oper) (k : JB) : JB := match o.guard with
  | none => match compV P F o.op with
    | some vc => valJ vc o.dst k
    | none => genWk P F ops o k
  | some _ => genWk P F ops o k
theorem genWk_run (P : Program) (F : Facts) (ops : Array Oper) (o : Oper) (k : JB) (rec : RecF) (T : Tm) (H : Hp) : (genWk P F ops o k).run rec T H = (workF P F ops T H o).bind (k.run rec) := by
  cases k with | mk k =>
  show jWk P F ops o k rec T H = _
  unfold jWk
  cases workF P F ops T H o <;> rfl
theorem compWk_run (P : Program) (F : Facts) (ops : Array Oper) (o : Oper) (k : JB) (rec : RecF) (T : Tm) (H : Hp) : (compWk P F ops o k).run rec T H = (workF P F ops T H o).bind (k.run rec) := by
  unfold compWk
  split
  case h_2 => exact genWk_run P F ops o k rec T H
  rename_i hg
  split
  case h_2 => exact genWk_run P F ops o k rec T H
  rename_i vc hv
  rw [valJ_run]
  have := compV_eq hv o rfl T H
  have e : workF P F ops T H o = wDone (aopF P F T H o) T H o := by unfold workF; rw [hg]; rfl
  rw [e, aopF_eq, this]
  cases vc.val T H with
  | none => rfl
  | some x =>
    show k.run rec (putF o.dst x T) H = (RO.ok (putF o.dst x T) (Bool.rec (motive := fun _ => Hp) H H (allocOp o.op))).bind (k.run rec)
    cases allocOp o.op <;> rfl
def worksJ (P : Program) (F : Facts) (ops : Array Oper) (l : List It) (k : JB) : JB := List.rec (motive := fun _ => JB) k (fun x _ ih => compWk P F ops x.o ih) l
theorem worksJ_run (P : Program) (F : Facts) (ops : Array Oper) (k : JB) (rec : RecF) : ∀ (l : List It) (T : Tm) (H : Hp), (worksJ P F ops l k).run rec T H = (worksF l P F ops T H).bind (k.run rec) := by
  intro l
  induction l with
  | nil => intro T H; rfl
  | cons x l ih =>
    intro T H
    have e : worksJ P F ops (x :: l) k = compWk P F ops x.o (worksJ P F ops l k) := rfl
    rw [e, compWk_run]
    show _ = (RO.rec (motive := fun _ => WorkK → Program → Facts → Array Oper → RO) lFail lOk (workF P F ops T H x.o) (worksF l) P F ops : RO).bind (k.run rec)
    cases workF P F ops T H x.o with
    | fail => rfl
    | ok T' H' => exact ih T' H'

/-! values held against each other -/
def eqLL (j : IntKind) (y : Int) (k : IntKind) (x : Int) (_u _v : AVal) : Bool := Bool.rec (motive := fun _ => Bool) false (ieqR x y) (kbeq k j)
def eqL0 (_k : IntKind) (_x : Int) (u v : AVal) : Bool := avEq u v
def eqL (k : IntKind) (x : Int) (u v : AVal) : Bool := IntR.rec (motive := fun _ => IntKind → Int → AVal → AVal → Bool) eqL0 eqLL eqL0 (intOf v) k x u v
def eqPP (i o j q : Nat) (_u _v : AVal) : Bool := Bool.rec (motive := fun _ => Bool) false (Nat.beq q o) (Nat.beq j i)
def eqP0 (_j _q : Nat) (u v : AVal) : Bool := avEq u v
def eqP (j q : Nat) (u v : AVal) : Bool := PtrR.rec (motive := fun _ => Nat → Nat → AVal → AVal → Bool) eqP0 eqPP (ptrOf v) j q u v
def eqT (_u v : AVal) : Bool := B3.rec (motive := fun _ => Bool) false true false (truthOf v)
def eqFl (_u v : AVal) : Bool := B3.rec (motive := fun _ => Bool) false false true (truthOf v)
def eq2 (u v : AVal) : Bool := PtrR.rec (motive := fun _ => AVal → AVal → Bool) avEq eqP (ptrOf u) u v
def eq1 (u v : AVal) : Bool := B3.rec (motive := fun _ => AVal → AVal → Bool) eq2 eqT eqFl (truthOf u) u v
def eqF (u v : AVal) : Bool := IntR.rec (motive := fun _ => AVal → AVal → Bool) eq1 eqL eq1 (intOf u) u v
theorem eqF_eq (u v : AVal) : eqF u v = avEq u v := by
  cases u with
  | int k s => cases s with
    | lin a i c => rfl
    | lit x =>
      show eqL k x (.int k (.lit x)) v = _
      unfold eqL
      cases v with
      | int j t => cases t with
        | lin a i c => rfl
        | lit y =>
          show (Bool.rec (motive := fun _ => Bool) false (ieqR x y) (kbeq k j) : Bool) = (kbeq k j && ibeq x y)
          rw [ieqR_eq]
          cases kbeq k j <;> rfl
      | _ => rfl
  | bool b => cases b <;> (cases v with
    | bool c => cases c <;> rfl
    | _ => rfl)
  | ptr a => cases a with
    | none => rfl
    | some p => cases v with
      | ptr c => cases c with
        | none => rfl
        | some q =>
          show (Bool.rec (motive := fun _ => Bool) false (Nat.beq p.2 q.2) (Nat.beq p.1 q.1) : Bool) = (Nat.beq p.1 q.1 && Nat.beq p.2 q.2)
          cases Nat.beq p.1 q.1 <;> rfl
      | _ => rfl
  | _ => rfl

structure Ag where
  run : Tm → Hp → Bool
def agNo (_g : Gt) (_T : Tm) : Bool := false
def agYes (_u : AVal) : Bool := true
def agU (u v : AVal) : Bool := eqF u v
def agX (v : AVal) (g : Gt) (T : Tm) : Bool := Option.rec (motive := fun _ => AVal → Bool) agYes agU (g T) v
def agV (f : Vf) (g : Gt) (T : Tm) (H : Hp) : Bool := Option.rec (motive := fun _ => Gt → Tm → Bool) agNo agX (f T H) g T
def agN (f : Vf) (T : Tm) (H : Hp) : Bool := Option.rec (motive := fun _ => Bool) false agYes (f T H)
def agG (P : Program) (F : Facts) (ops : Array Oper) (o : Oper) (T : Tm) (H : Hp) : Bool := againF P F ops T H o
def agD (f : Vf) (d : Option Tmp) : Ag := Option.rec (motive := fun _ => Ag) ⟨agN f⟩ (fun d => Ac.rec (motive := fun _ => Ag) (fun g => ⟨agV f g⟩) (acT d)) d
def compAg (P : Program) (F : Facts) (ops : Array Oper) (o : Oper) : Ag := match o.guard with
  | none => match compV P F o.op with
    | some vc => Vc.rec (motive := fun _ => Ag) (fun f => agD f o.dst) vc
    | none => ⟨agG P F ops o⟩
  | some _ => ⟨agG P F ops o⟩
theorem compAg_run (P : Program) (F : Facts) (ops : Array Oper) (o : Oper) (T : Tm) (H : Hp) : (compAg P F ops o).run T H = againF P F ops T H o := by
  unfold compAg
  split
  case h_2 => rfl
  rename_i hg
  split
  case h_2 => rfl
  rename_i vc hv
  have := compV_eq hv o rfl T H
  have e : againF P F ops T H o = jDone (aopF P F T H o) T o := by unfold againF; rw [hg]; rfl
  rw [e, aopF_eq, this]
  cases vc with | mk f =>
  simp only
  unfold agD
  cases hd : o.dst with
  | none =>
    show agN f T H = _
    unfold agN
    cases f T H with
    | none => rfl
    | some x => show true = jVal x H T o; unfold jVal; rw [hd]
  | some d =>
    have hgt := acT_get d T
    show (Ac.rec (motive := fun _ => Ag) (fun g => ⟨agV f g⟩) (acT d) : Ag).run T H = _
    cases h1 : acT d with | mk g =>
    rw [h1] at hgt
    show agV f g T H = _
    unfold agV
    cases f T H with
    | none => rfl
    | some x =>
      show agX x g T = jVal x H T o
      unfold agX jVal
      rw [hd]
      simp only
      rw [← hgt]
      simp only
      cases g T with
      | none => rfl
      | some u => exact eqF_eq u x
def agAnd (a b : Tm → Hp → Bool) (T : Tm) (H : Hp) : Bool := Bool.rec (motive := fun _ => (Tm → Hp → Bool) → Tm → Hp → Bool) (fun _ _ _ => false) (fun b => b) (a T H) b T H
def agEnd (_T : Tm) (_H : Hp) : Bool := true
def agJoin (a b : Ag) : Ag := Ag.rec (motive := fun _ => Ag) (fun a => Ag.rec (motive := fun _ => Ag) (fun b => ⟨agAnd a b⟩) b) a
def allJ (P : Program) (F : Facts) (ops : Array Oper) (l : List It) : Ag := List.rec (motive := fun _ => Ag) ⟨agEnd⟩ (fun x _ ih => agJoin (compAg P F ops x.o) ih) l
theorem allJ_run (P : Program) (F : Facts) (ops : Array Oper) (T : Tm) (H : Hp) : ∀ l : List It, (allJ P F ops l).run T H = allF P F ops T H l := by
  intro l
  induction l with
  | nil => rfl
  | cons x l ih =>
    have e : allJ P F ops (x :: l) = agJoin (compAg P F ops x.o) (allJ P F ops l) := rfl
    have h := compAg_run P F ops x.o T H
    rw [e]
    show _ = (Bool.rec (motive := fun _ => Bool) false (allF P F ops T H l) (againF P F ops T H x.o) : Bool)
    rw [← h, ← ih]
    cases compAg P F ops x.o with | mk a =>
    cases allJ P F ops l with | mk b =>
    show agAnd a b T H = _
    unfold agAnd
    simp only
    cases a T H <;> rfl

def agFail (_k : Ky) (_rec : RecF) (_T : Tm) (_H : Hp) : RO := .fail
def agGo (k : Ky) (rec : RecF) (T : Tm) (H : Hp) : RO := k rec T H
def jAg (a : Tm → Hp → Bool) (k : Ky) (rec : RecF) (T : Tm) (H : Hp) : RO := Bool.rec (motive := fun _ => Ky → Ky) agFail agGo (a T H) k rec T H
def agJ (a : Ag) (k : JB) : JB := Ag.rec (motive := fun _ => JB) (fun a => JB.rec (motive := fun _ => JB) (fun k => ⟨jAg a k⟩) k) a
def chainJ (P : Program) (F : Facts) (ops : Array Oper) (c : Option It) (k : JB) : JB := Option.rec (motive := fun _ => JB) ⟨jEnd⟩ (fun c => compOp P F ops c.o k) c
def stagesJ (P : Program) (F : Facts) (ops : Array Oper) (l : List Stage) : JB := List.rec (motive := fun _ => JB) failJ (fun s _ ih => worksJ P F ops s.work (agJ (allJ P F ops s.again) (chainJ P F ops s.chain ih))) l
theorem stagesJ_run {P : Program} {F : Facts} {rec : Rec} {recF : RecF} (hc : ∀ f as H, (recF.call f as H).opt = rec.call f as H) (ops : Array Oper) : ∀ (l : List Stage) (T : Tm) (H : Hp),
    ((stagesJ P F ops l).run recF T H).opt = runStages P F rec ops l T H := by
  intro l
  induction l with
  | nil => intro T H; rfl
  | cons s ss ih =>
    intro T H
    have e : stagesJ P F ops (s :: ss) = worksJ P F ops s.work (agJ (allJ P F ops s.again) (chainJ P F ops s.chain (stagesJ P F ops ss))) := rfl
    have hw := worksF_eq P F ops s.work T H
    rw [e, worksJ_run]
    unfold runStages
    rw [← hw]
    cases worksF s.work P F ops T H with
    | fail => rfl
    | ok T1 H1 =>
      have ha := allJ_run P F ops T1 H1 s.again
      rw [allF_eq] at ha
      simp only [RO.opt, RO.bind]
      rw [← ha]
      cases allJ P F ops s.again with | mk a =>
      cases hk : chainJ P F ops s.chain (stagesJ P F ops ss) with | mk k =>
      show (jAg a k recF T1 H1).opt = _
      unfold jAg
      simp only
      cases a T1 H1 with
      | false => rfl
      | true =>
        simp only [cond_true]
        show (k recF T1 H1).opt = _
        have hk' : k recF T1 H1 = (chainJ P F ops s.chain (stagesJ P F ops ss)).run recF T1 H1 := by rw [hk]
        rw [hk']
        cases s.chain with
        | none => rfl
        | some c =>
          show ((compOp P F ops c.o (stagesJ P F ops ss)).run recF T1 H1).opt = _
          have := stepF_eq (P := P) (F := F) hc ops T1 H1 c.o
          rw [compOp_run]
          simp only
          rw [← this]
          cases stepF P F recF ops T1 H1 c.o with
          | fail => rfl
          | ok T2 H2 => exact ih T2 H2
def drawJ (P : Program) (F : Facts) (ops : Array Oper) : JB := Option.rec (motive := fun _ => JB) failJ (stagesJ P F ops) (planOf ops)
theorem drawJ_run {P : Program} {F : Facts} {rec : Rec} {recF : RecF} (hc : ∀ f as H, (recF.call f as H).opt = rec.call f as H) (ops : Array Oper) (T : Tm) (H : Hp) : ((drawJ P F ops).run recF T H).opt = runDraw P F rec ops T H := by
  unfold drawJ runDraw
  cases planOf ops with
  | none => rfl
  | some ss => exact stagesJ_run hc ops ss T H
def regJ (P : Program) (F : Facts) (ops : Array Oper) (draw : Bool) : JB := Bool.rec (motive := fun _ => JB) (opsJ P F ops ops.toList) (drawJ P F ops) draw

/-! ### the code -/
abbrev Kc := RecF → Tm → Hp → RC
structure JC where
  run : Kc
def kSkip (_rec : RecF) (T : Tm) (H : Hp) : RC := .norm T H
def kFail (_rec : RecF) (_T : Tm) (_H : Hp) : RC := .fail
def kReg (k : Ky) (rec : RecF) (T : Tm) (H : Hp) : RC := RO.rec (motive := fun _ => RC) cRoFail cRoOk (k rec T H)
def k2Fail (_b : Kc) (_rec : RecF) : RC := .fail
def k2Norm (T : Tm) (H : Hp) (b : Kc) (rec : RecF) : RC := b rec T H
def k2Exit (i : Nat) (T : Tm) (H : Hp) (_b : Kc) (_rec : RecF) : RC := .exit i T H
def k2Ret (T : Tm) (H : Hp) (_b : Kc) (_rec : RecF) : RC := .ret T H
def kSeq (a b : Kc) (rec : RecF) (T : Tm) (H : Hp) : RC := RC.rec (motive := fun _ => Kc → RecF → RC) k2Fail k2Norm k2Exit k2Ret (a rec T H) b rec
def kLoop (b : Kc) (c : Code) (rec : RecF) (T : Tm) (H : Hp) : RC := RC.rec (motive := fun _ => RecF → Code → RC) sFail sNorm sExit sRet (b rec T H) rec c
def kBlock (id : Nat) (b : Kc) (rec : RecF) (T : Tm) (H : Hp) : RC := RC.rec (motive := fun _ => Nat → RC) bFail bNorm bExit bRet (b rec T H) id
def cdNo (_a _b : Kc) (_rec : RecF) (_T : Tm) (_H : Hp) : RC := .fail
def cdT (a _b : Kc) (rec : RecF) (T : Tm) (H : Hp) : RC := a rec T H
def cdF (_a b : Kc) (rec : RecF) (T : Tm) (H : Hp) : RC := b rec T H
def cdV (v : AVal) (a b : Kc) (rec : RecF) (T : Tm) (H : Hp) : RC := B3.rec (motive := fun _ => Kc → Kc → Kc) cdNo cdT cdF (truthOf v) a b rec T H
def kCond (g : Gt) (a b : Kc) (rec : RecF) (T : Tm) (H : Hp) : RC := Option.rec (motive := fun _ => Kc → Kc → Kc) cdNo cdV (g T) a b rec T H
def kExit (id : Nat) (_rec : RecF) (T : Tm) (H : Hp) : RC := .exit id T H
def kRet (_rec : RecF) (T : Tm) (H : Hp) : RC := .ret T H
def regC (P : Program) (F : Facts) (_id : Nat) (ops : Array Oper) (draw : Bool) : JC := JB.rec (motive := fun _ => JC) (fun k => ⟨kReg k⟩) (regJ P F ops draw)
def seqC (_a _b : Code) (a b : JC) : JC := JC.rec (motive := fun _ => JC) (fun a => JC.rec (motive := fun _ => JC) (fun b => ⟨kSeq a b⟩) b) a
def condC (x : Operand) (_a _b : Code) (a b : JC) : JC := Ac.rec (motive := fun _ => JC) (fun g => JC.rec (motive := fun _ => JC) (fun a => JC.rec (motive := fun _ => JC) (fun b => ⟨kCond g a b⟩) b) a) (acO x)
def blockC (id : Nat) (_b : Code) (b : JC) : JC := JC.rec (motive := fun _ => JC) (fun b => ⟨kBlock id b⟩) b
def loopC (c : Code) (b : JC) : JC := JC.rec (motive := fun _ => JC) (fun b => ⟨kLoop b (.loop c)⟩) b
def compC (P : Program) (F : Facts) (c : Code) : JC :=
  Code.rec (motive := fun _ => JC) ⟨kSkip⟩ (regC P F) seqC condC blockC loopC (fun _ _ _ _ _ _ => ⟨kFail⟩) (fun id => ⟨kExit id⟩) (fun _ _ => ⟨kFail⟩) (fun _ => ⟨kSkip⟩) (fun _ => ⟨kFail⟩) ⟨kRet⟩ (fun _ => ⟨kFail⟩) c

theorem compC_run {P : Program} {F : Facts} {R : Rec} {recF : RecF} (hc : ∀ f as H, (recF.call f as H).opt = R.call f as H) (c : Code)
    (hk : ∀ c', SizeOf.sizeOf c' < SizeOf.sizeOf c → ∀ T H, ((compC P F c').run recF T H).opt = R.code c' T H)
    (hl : ∀ b, c = .loop b → ∀ T H, (recF.code c T H).opt = R.code c T H) (T : Tm) (H : Hp) : ((compC P F c).run recF T H).opt = codeA P F R c T H := by
  cases c with
  | skip => rfl
  | label l => rfl
  | exit id => rfl
  | ret => rfl
  | rangeFunc f ps a b => rfl
  | scope b => rfl
  | goto l => rfl
  | refuse w => rfl
  | region id ops draw =>
    have e : compC P F (.region id ops draw) = regC P F id ops draw := rfl
    have hr : ((regJ P F ops draw).run recF T H).opt = (bif draw then runDraw P F R ops T H else runOps P F R ops ops.toList T H) := by
      cases draw with
      | false => exact opsJ_run hc ops _ T H
      | true => exact drawJ_run hc ops T H
    rw [e]
    unfold regC codeA
    simp only
    rw [← hr]
    cases regJ P F ops draw with | mk k =>
    show (kReg k recF T H).opt = _
    unfold kReg
    simp only
    cases k recF T H <;> rfl
  | seq a b =>
    have e : compC P F (.seq a b) = seqC a b (compC P F a) (compC P F b) := rfl
    have ha := hk a (by simp; omega) T H
    have hb := hk b (by simp; omega)
    rw [e]
    unfold codeA
    simp only
    rw [← ha]
    cases h1 : compC P F a with | mk ka =>
    cases h2 : compC P F b with | mk kb =>
    rw [h2] at hb
    show (kSeq ka kb recF T H).opt = _
    unfold kSeq
    simp only
    cases ka recF T H with
    | norm T1 H1 => exact hb T1 H1
    | _ => rfl
  | loop b =>
    have e : compC P F (.loop b) = loopC b (compC P F b) := rfl
    have ha := hk b (by simp) T H
    rw [e]
    unfold codeA
    simp only
    rw [← ha]
    cases h1 : compC P F b with | mk kb =>
    show (kLoop kb (.loop b) recF T H).opt = _
    unfold kLoop
    simp only
    cases kb recF T H with
    | norm T1 H1 => exact hl b rfl T1 H1
    | _ => rfl
  | block id b =>
    have e : compC P F (.block id b) = blockC id b (compC P F b) := rfl
    have ha := hk b (by simp; omega) T H
    rw [e]
    unfold codeA
    simp only
    rw [← ha]
    cases h1 : compC P F b with | mk kb =>
    show (kBlock id kb recF T H).opt = _
    unfold kBlock
    simp only
    cases kb recF T H with
    | exit i T1 H1 =>
      show (bExit i T1 H1 id).opt = _
      unfold bExit
      simp only [RC.opt]
      cases Nat.beq i id <;> rfl
    | _ => rfl
  | cond x a b =>
    have e : compC P F (.cond x a b) = condC x a b (compC P F a) (compC P F b) := rfl
    have ha := hk a (by simp; omega) T H
    have hb := hk b (by simp; omega) T H
    have hx := acO_get x T
    rw [e]
    unfold codeA
    simp only
    rw [← hx]
    cases h0 : acO x with | mk g =>
    cases h1 : compC P F a with | mk ka =>
    cases h2 : compC P F b with | mk kb =>
    rw [h1] at ha; rw [h2] at hb
    unfold condC
    rw [h0]
    show (kCond g ka kb recF T H).opt = _
    unfold kCond
    simp only
    cases g T with
    | none => rfl
    | some v =>
      show (cdV v ka kb recF T H).opt = _
      unfold cdV
      cases v with
      | bool t => cases t with
        | true => exact ha
        | false => exact hb
      | _ => rfl

/-! ### calls -/
structure JF where
  run : RecF → List AVal → Hp → RV
structure Rs where
  run : Tm → Hp → RV
def argsJ (l : List AVal) : Nat → Tm → Tm := List.rec (motive := fun _ => Nat → Tm → Tm) (fun _ T => T) (fun v _ ih i T => ih (Nat.succ i) (Pu.put (puT i) v T)) l
theorem argsJ_eq : ∀ (l : List AVal) (i : Nat) (T : Tm), argsJ l i T = argsT l i T := by
  intro l
  induction l with
  | nil => intro i T; rfl
  | cons v l ih =>
    intro i T
    show argsJ l (i + 1) ((puT i).put v T) = argsT l (i + 1) (Tm.put i v T)
    rw [ih, show (puT i).put v T = Tm.put i v T from puK_put _ v _ T]
def rs1V (v : AVal) (H : Hp) : RV := .ok v H
def rsF (_H : Hp) : RV := .fail
def rs1 (g : Gt) (T : Tm) (H : Hp) : RV := Option.rec (motive := fun _ => Hp → RV) rsF rs1V (g T) H
def rsT (l : List AVal) (H : Hp) : RV := .ok (.tuple l) H
def rsN (g : Tm → Option (List AVal)) (T : Tm) (H : Hp) : RV := Option.rec (motive := fun _ => Hp → RV) rsF rsT (g T) H
def rsG (P : Program) (fn : Func) (T : Tm) (H : Hp) : RV := vEnd T H P fn
def tmpsOf : List ResultVar → Option (List Operand)
  | [] => some []
  | .tmp t :: l => match tmpsOf l with
    | some xs => some (.tmp t :: xs)
    | none => none
  | _ :: _ => none
theorem tmpsOf_eq (P : Program) (T : Tm) (H : Hp) : ∀ (l : List ResultVar) (xs : List Operand), tmpsOf l = some xs → resultsA P T H l = opnds T xs := by
  intro l
  induction l with
  | nil => intro xs h; cases h; rfl
  | cons r l ih =>
    intro xs h
    cases r with
    | cell a t => cases h
    | tmp t =>
      simp only [tmpsOf] at h
      split at h
      · rename_i ys hy
        cases h
        simp only [resultsA, opnds, resultA, ih ys hy]
        have e : opnd T (.tmp t) = Tm.get t T := rfl
        rw [e]
        cases Tm.get t T with
        | none => rfl
        | some v => simp only; cases opnds T ys <;> rfl
      · cases h
def resJ (P : Program) (fn : Func) : Rs := match tmpsOf fn.results.toList with
  | some [x] => Ac.rec (motive := fun _ => Rs) (fun g => ⟨rs1 g⟩) (acO x)
  | some xs => La.rec (motive := fun _ => Rs) (fun g => ⟨rsN g⟩) (laO xs)
  | none => ⟨rsG P fn⟩
theorem resJ_run (P : Program) (fn : Func) (T : Tm) (H : Hp) : (resJ P fn).run T H = vEnd T H P fn := by
  unfold resJ
  split
  · rename_i x hx
    have h1 := tmpsOf_eq P T H _ _ hx
    have h2 := acO_get x T
    unfold vEnd
    rw [h1]
    cases hg : acO x with | mk g =>
    rw [hg] at h2
    show rs1 g T H = _
    unfold rs1 opnds opnds
    rw [← h2]
    simp only
    cases g T <;> rfl
  · rename_i xs hne hx
    have h1 := tmpsOf_eq P T H _ _ hx
    have h2 := laO_get T xs
    unfold vEnd
    rw [h1]
    cases hg : laO xs with | mk g =>
    rw [hg] at h2
    show rsN g T H = _
    unfold rsN
    rw [← h2]
    simp only
    have hlen : ∀ l, g T = some l → l.length = xs.length := by
      intro l hl
      have h3 : opnds T xs = some l := by rw [← h2]; exact hl
      clear hx hne h1 h2 hg hl
      induction xs generalizing l with
      | nil => cases h3; rfl
      | cons x xs ih =>
        simp only [opnds] at h3
        split at h3
        · cases h3
        · split at h3
          · cases h3
          · rename_i vs hvs
            cases h3
            simp [ih vs hvs]
    cases hgT : g T with
    | none => rfl
    | some l =>
      have hl := hlen l hgT
      cases l with
      | nil => rfl
      | cons v l => cases l with
        | nil =>
          exfalso
          cases xs with
          | nil => simp at hl
          | cons x xs => cases xs with
            | nil => exact hne x rfl
            | cons y ys => simp at hl
        | cons u l => rfl
  · rfl
def fnF (_r : Tm → Hp → RV) : RV := .fail
def fnE (T : Tm) (H : Hp) (r : Tm → Hp → RV) : RV := r T H
def fnX (_i : Nat) (_T : Tm) (_H : Hp) (_r : Tm → Hp → RV) : RV := .fail
def kFn (body : Kc) (T0 : Tm) (r : Tm → Hp → RV) (rec : RecF) (args : List AVal) (H : Hp) : RV := RC.rec (motive := fun _ => (Tm → Hp → RV) → RV) fnF fnE fnX fnE (body rec (argsJ args 0 T0) H) r
def fnJ (P : Program) (F : Facts) (fn : Func) (b : Code) : JF := JC.rec (motive := fun _ => JF) (fun body => Rs.rec (motive := fun _ => JF) (fun r => ⟨kFn body (Tm.mk (fn.ntmps / 16 + 1)) r⟩) (resJ P fn)) (compC P F b)
def noJ (_rec : RecF) (_args : List AVal) (_H : Hp) : RV := .fail
def compF (P : Program) (F : Facts) (f : FuncId) : JF := match P.funcs[f]? with
  | none => ⟨noJ⟩
  | some fn => match fn.body with
    | none => ⟨noJ⟩
    | some b => fnJ P F fn b
theorem compF_run {P : Program} {F : Facts} {R : Rec} {recF : RecF} (hd : ∀ c T H, ((compC P F c).run recF T H).opt = R.code c T H) (f : FuncId) (args : List AVal) (H : Hp) : ((compF P F f).run recF args H).opt = callA P R f args H := by
  unfold callA compF
  cases P.funcs[f]? with
  | none => rfl
  | some fn =>
    simp only
    cases fn.body with
    | none => rfl
    | some b =>
      simp only
      unfold fnJ
      have hb := hd b (argsT args 0 (Tm.mk (fn.ntmps / 16 + 1))) H
      rw [← hb]
      have he := fun T H => resJ_run P fn T H
      cases compC P F b with | mk body =>
      cases h2 : resJ P fn with | mk r =>
      rw [h2] at he
      show (kFn body (Tm.mk (fn.ntmps / 16 + 1)) r recF args H).opt = _
      unfold kFn
      rw [argsJ_eq]
      have hr : ∀ (T1 : Tm) (H1 : Hp), (r T1 H1).opt = (match resultsA P T1 H1 fn.results.toList with
          | some [v] => some (v, H1)
          | some vs => some (.tuple vs, H1)
          | none => none) := by
        intro T1 H1
        have h3 : r T1 H1 = vEnd T1 H1 P fn := he T1 H1
        rw [h3]
        unfold vEnd
        cases resultsA P T1 H1 fn.results.toList with
        | none => rfl
        | some l => match l with
          | [] => rfl
          | [_] => rfl
          | _ :: _ :: _ => rfl
      simp only
      cases body recF (argsT args 0 (Tm.mk (fn.ntmps / 16 + 1))) H with
      | fail => rfl
      | exit => rfl
      | norm T1 H1 => exact hr T1 H1
      | ret T1 H1 => exact hr T1 H1

abbrev Hk := List AVal → Hp → Option (AVal × Hp)
def hkN (P : Program) (F : Facts) (rec : RecF) (f : FuncId) (args : List AVal) (H : Hp) : RV := (compF P F f).run rec args H
def hkS (h : Hk) (_P : Program) (_F : Facts) (_rec : RecF) (_f : FuncId) (args : List AVal) (H : Hp) : RV := RV.of (h args H)
def callJ (P : Program) (F : Facts) (hook : Hooks) (rec : RecF) (f : FuncId) (args : List AVal) (H : Hp) : RV :=
  Option.rec (motive := fun _ => Program → Facts → RecF → FuncId → List AVal → Hp → RV) hkN hkS (hook f) P F rec f args H
def exCode (P : Program) (F : Facts) (rec : RecF) (c : Code) (T : Tm) (H : Hp) : RC := (compC P F c).run rec T H
def execJ (P : Program) (F : Facts) (hook : Hooks) (n : Nat) : RecF := Nat.rec (motive := fun _ => RecF) ⟨zCode, zCall⟩ (fun _ ih => ⟨exCode P F ih, callJ P F hook ih⟩) n
def recOf (r : RecF) : Rec := ⟨fun c T H => (r.code c T H).opt, fun f as H => (r.call f as H).opt⟩

variable {P : Program} {F : Facts} {G : (Nat → Int) → Prop} {B : Nat} {w0 : World}

theorem execJ_ok (hP : POk P) {hook : Hooks} (hH : HookOk P F G B w0 hook) : ∀ n, RecOk P F G B w0 (recOf (execJ P F hook n)) := by
  intro n
  induction n with
  | zero => exact ⟨fun _ _ _ _ _ _ h => (by cases h), fun _ _ _ _ _ h => (by cases h)⟩
  | succ n ih =>
    let Rk : Nat → Rec := fun k => ⟨fun c T H => if SizeOf.sizeOf c < k then ((compC P F c).run (execJ P F hook n) T H).opt else (recOf (execJ P F hook n)).code c T H, (recOf (execJ P F hook n)).call⟩
    have hRk : ∀ k, RecOk P F G B w0 (Rk k) := by
      intro k
      induction k with
      | zero =>
        refine ⟨fun c T H e T' H' h => ih.code c T H e T' H' ?_, ih.call⟩
        simpa [Rk] using h
      | succ k ihk =>
        refine ⟨fun c T H e T' H' h => ?_, ih.call⟩
        by_cases hlt : SizeOf.sizeOf c < k
        · refine ihk.code c T H e T' H' ?_
          have h1 : SizeOf.sizeOf c < k + 1 := by omega
          simp only [Rk, if_pos h1] at h
          simp only [Rk, if_pos hlt]
          exact h
        · by_cases heq : SizeOf.sizeOf c < k + 1
          · simp only [Rk, if_pos heq] at h
            have hrun := compC_run (P := P) (F := F) (R := Rk k) (recF := execJ P F hook n) (fun _ _ _ => rfl) c (fun c' hc' T H => by
              have : SizeOf.sizeOf c' < k := by omega
              simp only [Rk, if_pos this]) (fun b hb T H => by simp only [Rk, if_neg hlt]; rfl) T H
            rw [hrun] at h
            exact fun n V w a hok hn hdf hF hW hT => codeA_sound hP ihk h hok hn hdf hF hW hT
          · refine ih.code c T H e T' H' ?_
            simpa only [Rk, if_neg heq] using h
    have hcode : ∀ c T H, ((compC P F c).run (execJ P F hook n) T H).opt = (Rk (SizeOf.sizeOf c + 1)).code c T H := by
      intro c T H
      have : SizeOf.sizeOf c < SizeOf.sizeOf c + 1 := by omega
      simp only [Rk, if_pos this]
    refine ⟨fun c T H e T' H' h => (hRk (SizeOf.sizeOf c + 1)).code c T H e T' H' (by rw [← hcode]; exact h), fun f args H v H' h => ?_⟩
    have h' : (callJ P F hook (execJ P F hook n) f args H).opt = some (v, H') := h
    unfold callJ at h'
    cases hk : hook f with
    | none =>
      rw [hk] at h'
      have h2 : ((compF P F f).run (execJ P F hook n) args H).opt = some (v, H') := h'
      have hR : RecOk P F G B w0 ⟨fun c T H => ((compC P F c).run (execJ P F hook n) T H).opt, (recOf (execJ P F hook n)).call⟩ :=
        ⟨fun c T H e T' H' h => (hRk (SizeOf.sizeOf c + 1)).code c T H e T' H' (by rw [← hcode]; exact h), ih.call⟩
      rw [compF_run (R := ⟨fun c T H => ((compC P F c).run (execJ P F hook n) T H).opt, (recOf (execJ P F hook n)).call⟩) (fun _ _ _ => rfl)] at h2
      exact callA_sound hP hR f args H v H' h2
    | some g =>
      rw [hk] at h'
      have h2 : (RV.of (g args H)).opt = some (v, H') := h'
      have h3 : g args H = some (v, H') := by
        cases hg : g args H with
        | none => rw [hg] at h2; cases h2
        | some q => rw [hg] at h2; exact h2
      exact hH f g hk f args H v H' (by simpa using h3)

/-- A call that the run answers with true. -/
theorem calls_trueJ (hP : POk P) {hook : Hooks} {ρ : Nat → Int} (hF : FG F G ρ) (hH : ∀ B w0, HookOk P F G B w0 hook) {n : Nat} {f : FuncId} {args : List AVal} {x : Array Value}
    (h : trueF ((execJ P F hook n).call f args ⟨.nil, 0⟩) = true) (hx : LRel ⟨ρ, fun _ => none⟩ args x.toList) (w : World) :
    Calls P f x w fun e w' => e = .returned (.bool true) ∧ Below w.heap.size w w' ∧ ∀ b arr el z, w.heap.size ≤ b → w'.heap[b]? = some (.cells arr el z) → z = (0, 0) := by
  have hR := execJ_ok (B := w.heap.size) (w0 := w) hP (hH _ _) n
  have hW : WRel w.heap.size w ⟨ρ, fun _ => none⟩ ⟨.nil, 0⟩ w := by
    refine ⟨.refl _ _, Nat.le_refl _, fun id _ => ⟨rfl, by rw [Tr.get_nil]⟩, fun id b base S h => (by cases h), fun id o b base S _ h => (by cases h), fun id id' o o' b b' ba ba' S S' _ _ h => (by cases h), fun b arr el z hb h => ?_⟩
    have := (Array.getElem?_eq_some_iff.1 h).1
    omega
  obtain ⟨H', h1⟩ : ∃ H', (recOf (execJ P F hook n)).call f args ⟨.nil, 0⟩ = some (.bool true, H') := by
    unfold trueF at h
    split at h
    · rename_i b H' he
      subst h
      exact ⟨H', by show ((execJ P F hook n).call f args ⟨.nil, 0⟩).opt = _; rw [he]; rfl⟩
    · cases h
  refine ((hR.call f args _ _ _ h1).2 _ w x hF hW hx).mono fun e w' he => ?_
  obtain ⟨V', v', rfl, h1, h2, h3⟩ := he
  cases h3
  exact ⟨rfl, h2.below, h2.fz⟩
end
end Go.Px
