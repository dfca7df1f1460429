/- Operations that turn nothing: slices, maps that are read, parts. -/
import Derived.Test.YtlhcpplnlgehbaaGreatPQuiet4
namespace Go.Px
open Go Go.RowKit

variable {P : Program} {F : Facts} {V : Val} {B : Nat} {w0 w : World} {H : Hp}

theorem row_arr (hW : WRel B w0 V H w) {i n b base S : Nat} (hi : H.row i = some n) (hb : V.blk i = some (b, base, S)) : n ≤ S := by
  unfold Hp.row at hi
  split at hi
  · rename_i rw c m ho
    cases hi
    obtain ⟨x, hx, hr⟩ := hW.obj i _ b base S ho hb
    cases hr with
    | cells _ _ _ _ _ _ arr el fz _ _ _ hn => exact hn
  · cases hi

theorem sliceA_sound (hW : WRel B w0 V H w) {t : TypeId} {x : AVal} {u : Value} {lo hi mx : Option AVal} {vl vh vm : Option Value}
    (hx : VRel V x u) (h1 : OptRel V lo vl) (h2 : OptRel V hi vh) (h3 : OptRel V mx vm) {v : AVal} (h : sliceA P t H x lo hi mx = some v) :
    ∃ v', VRel V v v' ∧ (Instr.sliceAt t u vl vh vm).run P w = .ok v' w := by
  unfold sliceA at h
  split at h
  · rename_i a len cap es
    split at h
    · rename_i e hu
      split at h
      · rename_i size l h' m hs hb
        cases hx with
        | sliceN es =>
          obtain ⟨M, r, hM1, hM2, hlh, hhM, hMc⟩ := bounds_sound (P := P) (cap := 0) (fun c hc => by cases hc; rfl) (Nat.le_refl _) h1 h2 h3 hb true w
          cases m with
          | none => cases h
          | some c =>
          cases h
          have : M = c := hM1 c rfl
          subst this
          have e0 : h' - l = 0 := by omega
          have e3 : M - l = 0 := by omega
          rw [e0, e3]
          refine ⟨.slice none 0 0, .sliceN es, ?_⟩
          simp only [Instr.sliceAt, Sem.run_bind, run_undl hu, Result.andThen_ok, Instr.slice]
          rw [r]
          simp [run_size hs, e0, e3]
        | slice i off _ _ _ b base S c hb' hl hc hS =>
          obtain ⟨M, r, hM1, hM2, hlh, hhM, hMc⟩ := bounds_sound (P := P) (cap := c) hc hl h1 h2 h3 hb true w
          have run : (Instr.sliceAt t (.slice (some ⟨b, base + off, none⟩) len c) vl vh vm).run P w = .ok (.slice (if M = l then some ⟨b, base + off, none⟩ else some ⟨b, base + off + l * size, none⟩) (h' - l) (M - l)) w := by
            simp only [Instr.sliceAt, Sem.run_bind, run_undl hu, Result.andThen_ok, Instr.slice]
            rw [r]
            simp [run_size hs, addr_add]
          have mul_le : ∀ k, k ≤ c → k * es ≤ c * es := fun k hk => Nat.mul_le_mul_right es hk
          cases m with
          | some c' =>
            simp only at h
            have : M = c' := hM1 c' rfl
            subst this
            cases hes : Nat.beq es size with
            | false => rw [hes] at h; cases h
            | true =>
              rw [hes] at h
              have hes := Nat.eq_of_beq_eq_true hes
              subst hes
              simp only [cond_true] at h
              cases hcl : Nat.beq M l with
              | true =>
                rw [hcl] at h
                have hcl := Nat.eq_of_beq_eq_true hcl
                cases h
                refine ⟨_, ?_, run⟩
                rw [if_pos hcl]
                refine .slice i off _ _ es b base S (M - l) hb' (by omega) (fun k hk => by cases hk; rfl) ?_
                have : M - l = 0 := by omega
                rw [this]; have := mul_le 0 (Nat.zero_le _); omega
              | false =>
                rw [hcl] at h
                cases h
                have hne : M ≠ l := fun e => by rw [e, Nat.beq_refl] at hcl; cases hcl
                refine ⟨_, ?_, run⟩
                rw [if_neg hne, Nat.add_assoc]
                refine .slice i (off + l * es) _ _ es b base S (M - l) hb' (by omega) (fun k hk => by cases hk; rfl) ?_
                have e1 : l * es + (M - l) * es = M * es := by rw [← Nat.add_mul]; congr 1; omega
                have := mul_le M hMc
                omega
          | none =>
            simp only at h
            obtain ⟨hMc2, hhl⟩ := hM2 rfl
            cases hes : Nat.beq es size with
            | false => rw [hes] at h; cases h
            | true =>
              rw [hes] at h
              have hes := Nat.eq_of_beq_eq_true hes
              subst hes
              simp only [cond_true] at h
              cases hcl : Nat.beq len l with
              | true => rw [hcl] at h; cases h
              | false =>
                rw [hcl] at h
                cases h
                have hne : len ≠ l := fun e => by rw [e, Nat.beq_refl] at hcl; cases hcl
                refine ⟨_, ?_, run⟩
                rw [if_neg (by omega), Nat.add_assoc]
                refine .slice i (off + l * es) _ _ es b base S (M - l) hb' (by omega) (fun k hk => by cases hk) ?_
                have e1 : l * es + (M - l) * es = M * es := by rw [← Nat.add_mul]; congr 1; omega
                have := mul_le M hMc
                omega
      · cases h
    · cases h
  · rename_i i off
    obtain ⟨b, base, S, hb', rfl⟩ := hx.inv_ptr
    split at h
    · rename_i n e hu
      split at h
      · rename_i size l h' c hs hb
        obtain ⟨M, r, hM1, hM2, hlh, hhM, hMc⟩ := bounds_sound (P := P) (cap := n) (fun c hc => by cases hc; rfl) (Nat.le_refl _) h1 h2 h3 hb false w
        have : M = c := hM1 c rfl
        subst this
        split at h
        · rename_i rows hrow
          cases hle : Nat.ble (off + n * size) rows with
          | false => rw [hle] at h; cases h
          | true =>
            rw [hle] at h
            cases h
            have hle := Nat.le_of_ble_eq_true hle
            have hS := row_arr hW hrow hb'
            have run : (Instr.sliceAt t (.pointer (some ⟨b, base + off, none⟩)) vl vh vm).run P w = .ok (.slice (some (if M = l then ⟨b, base + off, none⟩ else ⟨b, base + off + l * size, none⟩)) (h' - l) (M - l)) w := by
              simp only [Instr.sliceAt, Sem.run_bind, run_undl hu, Result.andThen_ok, Instr.sureAddr, Sem.run_pure]
              rw [r]
              simp [run_size hs, addr_add]
            have hMn : M * size ≤ n * size := Nat.mul_le_mul_right size hMc
            refine ⟨_, ?_, run⟩
            cases hcl : Nat.beq M l with
            | true =>
              have hcl := Nat.eq_of_beq_eq_true hcl
              rw [if_pos hcl]
              refine .slice i off _ _ size b base S (M - l) hb' (by omega) (fun k hk => by cases hk; rfl) ?_
              have : M - l = 0 := by omega
              rw [this]; omega
            | false =>
              have hne : M ≠ l := fun e => by rw [e, Nat.beq_refl] at hcl; cases hcl
              rw [if_neg hne, Nat.add_assoc]
              refine .slice i (off + l * size) _ _ size b base S (M - l) hb' (by omega) (fun k hk => by cases hk; rfl) ?_
              have e1 : l * size + (M - l) * size = M * size := by rw [← Nat.add_mul]; congr 1; omega
              omega
        · cases h
      · cases h
    · cases h
  · rename_i s
    obtain ⟨q, rfl, hq⟩ := hx.inv_str
    split at h
    · rename_i hu
      split at h
      · cases h
      · cases hb8 : allBytes s with
        | false => rw [hb8] at h; cases h
        | true =>
          rw [hb8] at h
          simp only [cond_true] at h
          split at h
          · rename_i l h' c hb
            cases h
            cases h3
            have hsz := str_size hb8 hq
            obtain ⟨M, r, hM1, hM2, hlh, hhM, hMc⟩ := bounds_sound (P := P) (cap := s.length) (fun c hc => by cases hc; rfl) (Nat.le_refl _) h1 h2 .none hb false w
            refine ⟨.string (q.extract l h'), .str _ _ ?_, ?_⟩
            · rw [strEv_lit _ _ ((allBytes_iff _).1 hb8)] at hq
              rw [strEv_lit _ _ (fun n hn => (allBytes_iff _).1 hb8 n (List.mem_of_mem_drop (List.mem_of_mem_take hn)))]
              have : (q.extract l h').data.toList = (q.data.toList.drop l).take (h' - l) := by
                rw [ByteArray.data_extract, Array.toList_extract, List.extract_eq_take_drop]
              rw [this, hq]
              simp [List.map_take, List.map_drop]
            · simp only [Instr.sliceAt, Sem.run_bind, run_undl hu, Result.andThen_ok, Instr.slice, Option.isSome, Bool.false_eq_true, if_false, hsz]
              rw [r]
              rfl
          · cases h
    · cases h
  · cases h
end Go.Px
