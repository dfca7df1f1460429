/- One operation: what the abstract run says of it is what the model does. -/
import Derived.Test.YtlhcpplnlgehbaaGreatPCopy
namespace Go.Px
open Go Go.RowKit

variable {P : Program} {F : Facts} {V : Val} {B : Nat} {w0 w : World} {H : Hp}

/-- A function whose call enters its body. -/
def Callable (P : Program) (f : FuncId) : Prop := ∃ fn, P.funcs[f]? = some fn ∧ (fn.name == "runtime.NumGoroutine") = false ∧ fn.body.isNone = false

theorem run_callFunc {f : FuncId} (h : Callable P f) (args : Array Value) (w : World) : (callFunc f args).run P w = .ok (.enter f args) w := by
  obtain ⟨fn, h1, h2, h3⟩ := h
  have h2' : ¬ fn.name = "runtime.NumGoroutine" := by simpa using h2
  have h3' : ¬ fn.body = none := by intro e; rw [e] at h3; cases h3
  simp [callFunc, program, Sem.run, h1, h2', h3']

def isSelect : Op → Bool
  | .select .. => true
  | _ => false

/-- What comes of an operation that is no call. -/
structure Did (P : Program) (B : Nat) (w0 : World) (V : Val) (H : Hp) (w : World) (a : Act) (o : Oper) (v : AVal) (H' : Hp) (V' : Val) (w' : World) (v' : Value) : Prop where
  ext : Ext V V' H H'
  rel : WRel B w0 V' H' w'
  val : VRel V' v v'
  run : (execOp a.eval o).run P w = .ok (.value v') w' ∨ ((execOp a.eval o).run P w = .ok .skip w' ∧ v' = undef)

theorem op_sound (hF : FOk F V.ρ) (hW : WRel B w0 V H w) {T : Tm} {a : Act} {o : Oper} (hT : Looks V T a o.op.operands) {r : ANext} (h : aop P F T H o = some r) :
    (∃ v H' V' w' v', r = .val v H' ∧ Did P B w0 V H w a o v H' V' w' v') ∨
      (∃ f args args', r = .call f args ∧ LRel V args args'.toList ∧ (Callable P f → (execOp a.eval o).run P w = .ok (.enter f args') w)) := by
  cases hq : quietOp o.op with
  | true =>
    obtain ⟨v, v', h1, h2, h3⟩ := quiet_sound hF hW hT hq h
    exact .inl ⟨v, H, V, w, v', h1, .refl V H, hW, h2, .inl h3⟩
  | false =>
  cases ha : allocOp o.op with
  | true =>
    obtain ⟨v, ob, x, base, S, v', h1, h2, h3, h4⟩ := alloc_sound hW.size hT ha h
    exact .inl ⟨v, _, V.bind H.next (w.heap.size, base, S), _, v', h1, hW.extAlloc _ _, hW.alloc h3, h4 _ (hW.bind_le _) (Val.bind_at _ _ _), .inl h2⟩
  | false =>
  obtain ⟨dst, op, ty, pos, after, guard⟩ := o
  have ev : ∀ {x : Operand}, x ∈ op.operands → ∀ v, opnd T x = some v → VRel V v (a.eval x) := fun hx v h => hT _ hx v h
  clear hT
  have unitUp : ∀ {H' : Hp} {w' : World} {s : Sem Unit}, Ext V V H H' → WRel B w0 V H' w' → s.run P w = .ok () w' → (execOp a.eval ⟨dst, op, ty, pos, after, guard⟩) = (do s; pure .skip) →
      Did P B w0 V H w a ⟨dst, op, ty, pos, after, guard⟩ unit H' V w' undef := by
    intro H' w' s h1 h2 h3 e
    exact ⟨h1, h2, undef_rel V, .inr ⟨by rw [e]; simp [h3], rfl⟩⟩
  cases op <;> simp only [quietOp, allocOp] at hq ha <;> try (first | (cases hq; done) | (cases ha; done) | (cases h; done))
  case store t x y =>
    obtain ⟨H', w', h1, h2, h3, h4⟩ := doStore_sound hW (ev (by simp [Op.operands])) (ev (by simp [Op.operands])) h
    exact .inl ⟨_, _, _, _, _, h1, unitUp h4 h3 h2 rfl⟩
  case mapUpdate t m k x =>
    obtain ⟨H', w', h1, h2, h3, h4⟩ := doUpdate_sound hF hW (ev (by simp [Op.operands])) (ev (by simp [Op.operands])) (ev (by simp [Op.operands])) h
    exact .inl ⟨_, _, _, _, _, h1, unitUp h4 h3 h2 rfl⟩
  case insert t m k x =>
    obtain ⟨H', w', h1, h2, h3, h4⟩ := doUpdate_sound hF hW (ev (by simp [Op.operands])) (ev (by simp [Op.operands])) (ev (by simp [Op.operands])) h
    exact .inl ⟨_, _, _, _, _, h1, unitUp h4 h3 h2 rfl⟩
  case mapEntry t m k =>
    obtain ⟨v, H', w', v', h1, h2, h3, h4, h5⟩ := doMapEntry_sound hF hW (ev (by simp [Op.operands])) (ev (by simp [Op.operands])) h
    exact .inl ⟨_, _, _, _, _, h1, h2, h3, h4, .inl (by simp [execOp, h5])⟩
  case entryStore t m s x =>
    obtain ⟨H', w', h1, h2, h3, h4⟩ := doEntryStore_sound (t := t) hW (ev (by simp [Op.operands])) (ev (by simp [Op.operands])) (ev (by simp [Op.operands])) h
    exact .inl ⟨_, _, _, _, _, h1, unitUp h2 h3 h4 rfl⟩
  case call c =>
    obtain ⟨callee, args, ats⟩ := c
    cases callee <;> simp only at hq <;> try (cases hq; done)
    case builtin b =>
      simp only [aop, doBuiltin] at h
      split at h
      · rename_i as has
        have hl := opnds_rel (a := a) (V := V) (fun y hy => ev (by simp [Op.operands, Call.operands]; simpa using hy)) has
        have hl' : LRel V as (args.map a.eval).toList := by simpa using hl
        have up : ∀ {v H' V' w' v'} {s : Sem Value}, Ext V V' H H' → WRel B w0 V' H' w' → VRel V' v v' → s.run P w = .ok v' w' →
            (∀ cs, builtin b ats ty cs (args.map a.eval) = (do pure (.value (← s)))) →
            Did P B w0 V H w a ⟨dst, .call ⟨.builtin b, args, ats⟩, ty, pos, after, guard⟩ v H' V' w' v' := by
          intro v H' V' w' v' s h1 h2 h3 h4 e
          refine ⟨h1, h2, h3, .inl ?_⟩
          simp only [execOp, resolve, Sem.run_bind, Sem.run_pure, Result.andThen_ok, invoke]
          rw [e]; simp [h4]
        cases b <;> simp only [quietB] at hq <;> try (first | (cases hq; done) | (cases h; done))
        · obtain ⟨v, H', V', w', v', h1, h2, h3, h4, h5⟩ := appendA_sound (ty := ty) hW hl' h
          exact .inl ⟨v, H', V', w', v', h1, up h2 h3 h4 h5 (fun _ => rfl)⟩
        · obtain ⟨v, H', w', v', h1, h2, h3, h4, h5⟩ := clear_sound (F := F) (ty := ty) hW hl' h
          exact .inl ⟨v, H', V, w', v', h1, up h2 h3 h4 h5 (fun _ => rfl)⟩
        · obtain ⟨v, H', w', v', h1, h2, h3, h4, h5⟩ := copy_sound (F := F) (ty := ty) hW hl' h
          exact .inl ⟨v, H', V, w', v', h1, up h2 h3 h4 h5 (fun _ => rfl)⟩
        · simp only [builtinA] at h
          split at h
          case h_2 => cases h
          rename_i t ts' m k as' hts
          split at h
          case h_2 => cases h
          rename_i H' hd
          cases h
          obtain ⟨mu, h1, h2⟩ := hl'.at 0 _ rfl
          obtain ⟨ku, h3, h4⟩ := hl'.at 1 _ rfl
          rw [Array.getElem?_toList] at h1 h3
          have ht0 : ats[0]? = some t := by have : ats.toList[0]? = some t := by rw [hts]; rfl
                                            simpa using this
          obtain ⟨w', h5, h6, h7⟩ := deleteA_sound (ty := ty) hF hW ht0 h1 h3 h2 h4 hd
          exact .inl ⟨_, H', V, w', _, rfl, up h7 h6 (undef_rel V) h5 (fun _ => rfl)⟩
      · cases h
    case invoke r m => simp [aop] at h
    case value f =>
      simp only [aop, doCall] at h
      split at h
      · rename_i g xs ys as hf has
        cases h
        have hl := opnds_rel (a := a) (V := V) (fun y hy => ev (by simp [Op.operands, Call.operands]; right; simpa using hy)) has
        have hv := ev (x := f) (by simp [Op.operands, Call.operands]) _ hf
        refine .inr ⟨g, xs ++ as ++ ys, ?_⟩
        generalize he : a.eval f = u at hv
        cases hv with
        | func _ _ _ x y hx' hy' hxx hyy =>
        have h1 := LRel.ofArray hx' hxx
        have h2 := LRel.ofArray hy' hyy
        refine ⟨x ++ args.map a.eval ++ y, rfl, ?_, fun hc => ?_⟩
        · simpa using (h1.append hl).append h2
        · simp only [execOp, resolve, Sem.run_bind, Sem.run_pure, Result.andThen_ok, Deferred.ofValue, he, invoke]
          exact run_callFunc hc _ w
      · cases h
end Go.Px
