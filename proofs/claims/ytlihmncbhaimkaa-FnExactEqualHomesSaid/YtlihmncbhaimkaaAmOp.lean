/- One operation of the abstract machine is one of the model. -/
import Derived.Test.YtlihmncbhaimkaaAmOps8
namespace Go.Proofs.Ytlihmncbhaimkaa.Am
open Go Go.RowKit

section
variable {P : Program} {C : Oracle} {base : Nat} {r : Ren} {h h' : Heap} {w : World} {e : Env} {a : Act} {o : Oper} {next : Act → World → Prop} {Q : Exit → Act → World → Prop}
/-- Variables that are known. -/
def RE (r : Ren) (e : Env) (tmps : Array Value) : Prop := ∀ n v, e n = some v → ∃ v', tmps[n]? = some v' ∧ RV r v v'
theorem RE.mono {r' : Ren} (k : Ren.le r r') (he : RE r e a.tmps) : RE r' e a.tmps := fun n v hv => by
  obtain ⟨v', h1, h2⟩ := he n v hv
  exact ⟨v', h1, h2.mono k⟩
theorem ev_sim (hr : RH P base r h w) (he : RE r e a.tmps) {x : Operand} {v : Value} (k : ev P e x = some v) : RV r v (a.eval x) := by
  unfold ev at k
  split at k
  · rename_i t
    obtain ⟨v', h1, h2⟩ := he _ _ k
    simp only [Act.eval, Array.getD_eq_getD_getElem?, h1, Option.getD_some]
    exact h2
  · split at k
    · rename_i hc; cases k; exact RV.closed 3 _ hc
    · cases k
  · rename_i g
    split at k
    · rename_i hg
      cases k
      obtain ⟨x, hx, h1, h2⟩ := hr.globs g hg
      have := RV.ptr g 0 x hx
      rw [h1, h2] at this
      exact this
    · cases k
  · cases k
    exact .func _ _ _ _ _ rfl rfl (fun i v v' hv => by simp at hv) (fun i v v' hv => by simp at hv)
theorem evs_sim (hr : RH P base r h w) (he : RE r e a.tmps) : ∀ {l : List Operand} {vs : List Value}, evs P e l = some vs → RL r vs (l.map a.eval)
  | [], vs, k => by cases k; exact RL.nil r
  | x :: l, vs, k => by
    unfold evs at k
    cases h1 : ev P e x with
    | none => rw [h1] at k; cases k
    | some v =>
      cases h2 : evs P e l with
      | none => rw [h1, h2] at k; cases k
      | some us =>
        rw [h1, h2] at k
        cases k
        exact RL.cons (ev_sim hr he h1) (evs_sim hr he h2)
theorem partsE_sim (hr : RH P base r h w) (he : RE r e a.tmps) : ∀ {l : List (Nat × Operand)} {vs : List (Nat × Value)}, partsE P e l = some vs → RP r vs (l.map fun (i, x) => (i, a.eval x))
  | [], vs, k => by cases k; exact ⟨rfl, RL.nil r⟩
  | x :: l, vs, k => by
    unfold partsE at k
    cases h1 : ev P e x.2 with
    | none => rw [h1] at k; cases k
    | some v =>
      cases h2 : partsE P e l with
      | none => rw [h1, h2] at k; cases k
      | some us =>
        rw [h1, h2] at k
        cases k
        have ih := partsE_sim hr he h2
        exact ⟨by simp only [List.map_cons, ih.1], by simp only [List.map_cons]; exact RL.cons (ev_sim hr he h1) ih.2⟩
theorem optE_sim (hr : RH P base r h w) (he : RE r e a.tmps) {x : Option Operand} {v : Option Value} (k : optE P e x = some v) : RO r v (x.map a.eval) := by
  unfold optE at k
  split at k
  · cases k; trivial
  · rename_i x
    cases h1 : ev P e x with
    | none => rw [h1] at k; cases k
    | some u => rw [h1] at k; cases k; exact ev_sim hr he h1

theorem wp_value {v' : Value} {w' : World} (k : (execOp a.eval o).run P w = .ok (.value v') w') (hn : next (a.put o.dst v') w') : o.wp P a w next Q := by
  unfold Oper.wp; rw [k]; exact hn
theorem wp_skip' {w' : World} (k : (execOp a.eval o).run P w = .ok .skip w') (hn : next (a.put o.dst undef) w') : o.wp P a w next Q := by
  unfold Oper.wp; rw [k]; exact hn
theorem RV.undef (r : Ren) : RV r undef undef := .tuple _ _ rfl (fun i v v' hv => by simp at hv)
theorem bind_inv {α β : Type} {x : Option α} {f : α → Option β} {y : β} (k : x.bind f = some y) : ∃ u, x = some u ∧ f u = some y := by
  cases x with
  | none => cases k
  | some u => exact ⟨u, rfl, k⟩
theorem map_inv {α β : Type} {x : Option α} {f : α → β} {y : β} (k : x.map f = some y) : ∃ u, x = some u ∧ f u = y := by
  cases x with
  | none => cases k
  | some u => cases k; exact ⟨u, rfl, rfl⟩

/-- Calls of the oracle are calls of the model. -/
def OSound (P : Program) (C : Oracle) : Prop := ∀ f args h v h', C f args h = some (v, h') → (∃ fn, P.funcs[f]? = some fn ∧ fn.body.isSome = true ∧ fn.name ≠ "runtime.NumGoroutine") ∧
  ∀ (base : Nat) (r : Ren) (w : World) (args' : Array Value), RL r args args'.toList → RH P base r h w →
    Calls P f args' w fun e w' => ∃ r' v', e = .returned v' ∧ RV r' v v' ∧ Step P base r w r' h' w'
theorem callA_sim (hC : OSound P C) (hr : RH P base r h w) {f f' : Value} {args : List Value} {args' : Array Value} {v : Value} (hf : RV r f f') (ha : RL r args args'.toList) (k : callA C f args h = some (v, h')) {c : Call} {fo : Operand} (ho : o.op = .call c) (hc : c.callee = .value fo) (hfo : a.eval fo = f') (hargs : c.args.map a.eval = args')
    (hn : ∀ r' v' w', RV r' v v' → Step P base r w r' h' w' → next (a.put o.dst v') w') : o.wp P a w next Q := by
  unfold callA at k
  split at k
  · rename_i g first captured
    cases hf with
    | func _ _ _ fs' cs' s1 s2 s3 s4 =>
      obtain ⟨⟨fn, hfn, hbody, hname⟩, hcall⟩ := hC _ _ _ _ _ k
      have hl : RL r (first.toList ++ args ++ captured.toList) (fs' ++ args' ++ cs').toList := by
        rw [Array.toList_append, Array.toList_append]
        exact ((RL.of_array s1 s3).append ha).append (RL.of_array s2 s4)
      have hcalls := hcall base r w _ hl hr
      have hrun : (execOp a.eval o).run P w = .ok (.enter g (fs' ++ args' ++ cs')) w := by
        have hb : fn.body.isNone = false := by cases hb : fn.body with
          | none => rw [hb] at hbody; cases hbody
          | some _ => rfl
        simp only [execOp, ho, resolve, hc, hargs, hfo, Deferred.ofValue, Sem.run_bind, Sem.run_pure, Result.andThen_ok, invoke, callFunc, run_program, hfn, hb, Bool.false_eq_true, if_false]
        rw [if_neg (by simpa using hname)]
        rfl
      unfold Oper.wp
      rw [hrun]
      refine hcalls.mono ?_
      rintro e w' ⟨r', v', rfl, h1, h2⟩
      exact hn r' v' w' h1 h2
  · cases k
end
end Go.Proofs.Ytlihmncbhaimkaa.Am
