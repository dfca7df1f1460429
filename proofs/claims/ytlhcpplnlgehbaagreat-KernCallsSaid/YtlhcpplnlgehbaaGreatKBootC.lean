/- The hooks of vm.Boot and area.New: each run once by itself. -/
import Derived.Test.YtlhcpplnlgehbaaGreatKCase
import Derived.Test.YtlhcpplnlgehbaaGreatPReloc
import Derived.KernelRfl
namespace Go.Proofs.YtlhcpplnlgehbaaGreat
open Go.RowKit Go.Px
noncomputable section
def wd (n : Nat) : AVal := .int .u64 (.lit (.ofNat n))
def nm (n : Nat) : AVal := .int .i64 (.lit (.ofNat n))
def neg1 : AVal := .int .i64 (.lit (-1))
def wds : List Nat → List AVal → List AVal
  | [], l => l
  | n :: ns, l => wd n :: wds ns l
def fre (ws : List Nat) (c : Nat) : List AVal := wds ws [nm c, neg1]
def frs : List (List Nat × Nat) → List AVal
  | [] => []
  | p :: l => fre p.1 p.2 ++ frs l
def reps (n : Nat) (v : AVal) : List AVal := Nat.rec (motive := fun _ => List AVal) [] (fun _ ih => v :: ih) n
def cfgA (f c : Nat) (k i : Bool) : AVal := .agg [nm f, nm c, .bool k, .bool i]
def areaT : Tmpl := [(0, .row true (reps 256 neg1))]
def bootT (rid n p1 : Nat) (fs : List (List Nat × Nat)) : Tmpl := [(rid, .row true (frs fs)), (2, .row false [.slice (some (rid, 0)) n none 10]), (p1, .map0), (p1 + 1, .row false [.ptr (some (2, 0)), .map (some p1)]), (p1 + 2, .map0), (p1 + 3, .row false [.map (some (p1 + 2))])]
def bootV (f c : Nat) (k i : Bool) (p1 : Nat) : AVal := .tuple [.agg [nm f, nm c, .bool k, .bool i, .ptr (some (2, 0)), .ptr (some (p1 + 1, 0)), .ptr (some (p1 + 3, 0)), nm 3, nm 13], nm 0]
def zs : List Nat := [0, 0, 0, 0, 0, 0, 0, 0]
def frames40n : List (List Nat × Nat) := [(zs, 5), (zs, 4), (zs, 4), ([16387, 20483, 24579, 28675, 32771, 36867, 40963, 45059], 1), ([259, 4355, 8451, 12547, 16643, 20739, 24835, 28931], 1), ([33027, 37123, 41219, 45315, 49411, 53507, 57603, 61699], 1), ([65795, 69891, 73987, 78083, 82179, 86275, 90371, 94467], 1), ([98563, 102659, 106755, 110851, 114947, 119043, 123139, 127235], 1), ([131331, 135427, 139523, 143619, 147715, 151811, 155907, 160003], 1), (zs, 1), (zs, 1), (zs, 1), (zs, 3), ([57351, 0, 0, 0, 0, 0, 0, 0], 1), ([49413, 0, 0, 0, 0, 0, 0, 0], 1), (zs, 0), (zs, 0), (zs, 0), (zs, 0), (zs, 0), (zs, 0), (zs, 0), (zs, 0), (zs, 0), (zs, 0), (zs, 0), (zs, 0), (zs, 0), (zs, 0), (zs, 0), (zs, 0), (zs, 0), (zs, 0), (zs, 0), (zs, 0), (zs, 0), (zs, 0), (zs, 0), (zs, 0), (zs, 0)]
def frames40k : List (List Nat × Nat) := [(zs, 5), (zs, 4), (zs, 4), ([16387, 20483, 24579, 28675, 32771, 36867, 40963, 45059], 1), ([3, 4099, 8195, 12291, 16387, 20483, 24579, 28675], 1), ([32771, 36867, 40963, 45059, 49155, 53251, 57347, 61443], 1), ([65539, 69635, 73731, 77827, 81923, 86019, 90115, 94211], 1), ([98307, 102403, 106499, 110595, 114691, 118787, 122883, 126979], 1), ([131075, 135171, 139267, 143363, 147459, 151555, 155651, 159747], 1), (zs, 1), (zs, 1), (zs, 1), (zs, 3), ([57351, 0, 0, 0, 0, 0, 0, 0], 1), ([49413, 0, 0, 0, 0, 0, 0, 0], 1), (zs, 0), (zs, 0), (zs, 0), (zs, 0), (zs, 0), (zs, 0), (zs, 0), (zs, 0), (zs, 0), (zs, 0), (zs, 0), (zs, 0), (zs, 0), (zs, 0), (zs, 0), (zs, 0), (zs, 0), (zs, 0), (zs, 0), (zs, 0), (zs, 0), (zs, 0), (zs, 0), (zs, 0), (zs, 0)]
end
theorem callableBoot : Callable Tryz.prog 59 := ⟨Tryz.f59, Tryz.func59, by kernel_rfl, by kernel_rfl⟩
theorem callableArea : Callable Tryz.prog 108 := ⟨Tryz.f108, Tryz.func108, by kernel_rfl, by kernel_rfl⟩
theorem areaRun : tmplRun ((execJ Tryz.prog [] (fun _ => none) 100000).call 108 [] ⟨.nil, 0⟩) areaT 1 (.ptr (some (0, 0))) = true := by kernel_rfl
theorem bootRun0 : tmplRun ((execJ Tryz.prog [] (fun _ => none) 100000).call 59 [cfgA 40 1 false true] ⟨.nil, 0⟩) (bootT 82 40 236 frames40n) 240 (bootV 40 1 false true 236) = true := by kernel_rfl
theorem bootRun1 : tmplRun ((execJ Tryz.prog [] (fun _ => none) 100000).call 59 [cfgA 40 1 true true] ⟨.nil, 0⟩) (bootT 82 40 236 frames40k) 240 (bootV 40 1 true true 236) = true := by kernel_rfl
noncomputable section
def orR (r : Option (AVal × Hp)) (h : List AVal → Hp → Option (AVal × Hp)) (args : List AVal) (H : Hp) : Option (AVal × Hp) := match r with
  | some x => some x
  | none => h args H
def bootH1 (args : List AVal) (H : Hp) : Option (AVal × Hp) := hookTmpl [cfgA 40 1 true true] (bootT 82 40 236 frames40k) 240 (bootV 40 1 true true 236) args H
def bootH0 (args : List AVal) (H : Hp) : Option (AVal × Hp) := orR (hookTmpl [cfgA 40 1 false true] (bootT 82 40 236 frames40n) 240 (bootV 40 1 false true 236) args H) bootH1 args H
def hookB (L : List Par) : Hooks := fun f => bif Nat.beq f 59 then some bootH0 else bif Nat.beq f 108 then some (hookTmpl [] areaT 1 (.ptr (some (0, 0)))) else hookP L f
end
theorem orOk {F : Facts} {G : (Nat → Int) → Prop} {B : Nat} {w0 : World} {f : FuncId} {h1 h2 : List AVal → Hp → Option (AVal × Hp)} (a : CallOk Tryz.prog F G B w0 fun f' args H => if f' = f then h1 args H else none) (b : CallOk Tryz.prog F G B w0 fun f' args H => if f' = f then h2 args H else none) :
    CallOk Tryz.prog F G B w0 fun f' args H => if f' = f then orR (h1 args H) h2 args H else none := by
  intro f' args H v H' h
  simp only at h
  split at h
  case isFalse => cases h
  rename_i hf
  unfold orR at h
  split at h
  · rename_i x hx
    cases h
    exact a f' args H v H' (by simp only [if_pos hf]; exact hx)
  · exact b f' args H v H' (by simp only [if_pos hf]; exact h)
theorem bootOk {F : Facts} {G : (Nat → Int) → Prop} {B : Nat} {w0 : World} : CallOk Tryz.prog F G B w0 fun f' args H => if f' = 59 then bootH0 args H else none :=
  orOk (hookTmpl_ok pok callableBoot rfl bootRun0) (hookTmpl_ok pok callableBoot rfl bootRun1)
theorem hookB_ok {F : Facts} (L : List Par) (B : Nat) (w0 : World) : HookOk Tryz.prog F (GP L) B w0 (hookB L) := by
  intro f g hg
  unfold hookB at hg
  cases hf : Nat.beq f 59 with
  | true =>
    rw [hf] at hg
    cases hg
    obtain rfl := Nat.eq_of_beq_eq_true hf
    exact bootOk
  | false =>
    rw [hf] at hg
    simp only [cond_false] at hg
    cases hf2 : Nat.beq f 108 with
    | true =>
      rw [hf2] at hg
      cases hg
      obtain rfl := Nat.eq_of_beq_eq_true hf2
      exact hookTmpl_ok pok callableArea rfl areaRun
    | false =>
      rw [hf2] at hg
      exact hookP_ok L B w0 f g hg
/-- A law of some numbers and truths, run by the abstract run. -/
theorem law_boot {K : FuncId} (L : List Par) (xs : List Int) (hp : parsOk L xs) {vs : List AVal} {args : Array Value} (ha : LRel ⟨rhoP L xs, fun _ => none⟩ vs args.toList) {k : Nat}
    (h : trueF ((execJ Tryz.prog (factsP L) (hookB L) k).call K vs ⟨.nil, 0⟩) = true) (w : World) :
    Calls Tryz.prog K args w fun e w' => e = .returned (.bool true) ∧ Grown w w' := by
  refine (calls_trueJ pok ⟨factsP_ok L xs hp, GP_ok L xs hp⟩ (fun B w0 => hookB_ok L B w0) h ha w).mono fun e w' he => ?_
  obtain ⟨h1, h2, h3⟩ := he
  exact ⟨h1, grown_of h2 h3⟩
end Go.Proofs.YtlhcpplnlgehbaaGreat
