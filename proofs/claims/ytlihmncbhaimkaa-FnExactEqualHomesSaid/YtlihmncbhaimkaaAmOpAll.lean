/- Every operation of the abstract machine is one of the model. -/
import Derived.Test.YtlihmncbhaimkaaAmOp
namespace Go.Proofs.Ytlihmncbhaimkaa.Am
open Go Go.RowKit

section
variable {P : Program} {C : Oracle} {base : Nat} {r : Ren} {h h' : Heap} {w : World} {e : Env} {a : Act} {o : Oper} {next : Act → World → Prop} {Q : Exit → Act → World → Prop}
theorem builtinA_sim (hr : RH P base r h w) {b : Builtin} {ts : Array TypeId} {ty : TypeId} {cs : Array Bool} {args : List Value} {args' : Array Value} {v : Value} (hl : RL r args args'.toList) (k : builtinA P b ts.toList args h = some (v, h')) :
    ∃ r' v' w', (builtin b ts ty cs args').run P w = .ok (.value v') w' ∧ RV r' v v' ∧ Step P base r w r' h' w' := by
  have arr1 : ∀ x, args = [x] → ∃ x', args' = #[x'] ∧ RV r x x' := fun x hx => by
    subst hx
    obtain ⟨x', l', e1, e2, e3⟩ := hl.cons_inv
    obtain rfl := e3.nil_inv
    exact ⟨x', by apply Array.ext'; simpa using e1, e2⟩
  have arr2 : ∀ x y, args = [x, y] → ∃ x' y', args' = #[x', y'] ∧ RV r x x' ∧ RV r y y' := fun x y hx => by
    subst hx
    obtain ⟨x', l', e1, e2, e3⟩ := hl.cons_inv
    obtain ⟨y', l2, e4, e5, e6⟩ := e3.cons_inv
    obtain rfl := e6.nil_inv
    exact ⟨x', y', by apply Array.ext'; rw [e1, e4], e2, e5⟩
  unfold builtinA at k
  split at k
  · rename_i t u rest s x hts
    have h0 : ts[0]? = some t := by rw [← Array.getElem?_toList, hts]; rfl
    have h1 : ts[1]? = some u := by rw [← Array.getElem?_toList, hts]; rfl
    obtain ⟨s', x', rfl, e1, e2⟩ := arr2 s x rfl
    split at k
    · split at k
      case isFalse => cases k
      rename_i hc
      simp only [Bool.and_eq_true] at hc
      obtain ⟨r', v', w', f1, f2, f3⟩ := appendZA_sim (ty := ty) hr h0 h1 hc.1 hc.2 e1 e2 k
      exact ⟨r', v', w', by simp only [builtin, Sem.run_bind, f1, Result.andThen_ok, Sem.run_pure], f2, f3⟩
    · obtain ⟨r', v', w', f1, f2, f3⟩ := appendA_sim (ty := ty) hr h0 h1 e1 e2 k
      exact ⟨r', v', w', by simp only [builtin, Sem.run_bind, f1, Result.andThen_ok, Sem.run_pure], f2, f3⟩
  · rename_i t rest x hts
    have h0 : ts[0]? = some t := by rw [← Array.getElem?_toList, hts]; rfl
    obtain ⟨x', rfl, e1⟩ := arr1 x rfl
    obtain ⟨u, hu, hk⟩ := map_inv k
    cases hk
    obtain ⟨f1, f2⟩ := lenA_sim (ty := ty) hr h0 e1 hu
    exact ⟨r, _, w, by simp only [builtin, Sem.run_bind, f1, Result.andThen_ok, Sem.run_pure], f2, Step.refl hr⟩
  · rename_i t rest x hts
    have h0 : ts[0]? = some t := by rw [← Array.getElem?_toList, hts]; rfl
    obtain ⟨x', rfl, e1⟩ := arr1 x rfl
    obtain ⟨u, hu, hk⟩ := map_inv k
    cases hk
    obtain ⟨f1, f2⟩ := capA_sim (w := w) (ty := ty) h0 e1 hu
    exact ⟨r, _, w, by simp only [builtin, Sem.run_bind, f1, Result.andThen_ok, Sem.run_pure], f2, Step.refl hr⟩
  · rename_i t rest x hts
    have h0 : ts[0]? = some t := by rw [← Array.getElem?_toList, hts]; rfl
    obtain ⟨x', rfl, e1⟩ := arr1 x rfl
    obtain ⟨w', f1, rfl, f3⟩ := clearA_sim (ty := ty) hr h0 e1 k
    exact ⟨r, .tuple #[], w', by simp only [builtin, Sem.run_bind, f1, Result.andThen_ok, Sem.run_pure], RV.undef r, f3⟩
  · obtain ⟨u, hu, hk⟩ := map_inv k
    cases hk
    obtain ⟨f1, f2⟩ := maxA_sim (P := P) (w := w) (ts := ts) (ty := ty) hl hu
    exact ⟨r, _, w, by simp only [builtin, Sem.run_bind, f1, Result.andThen_ok, Sem.run_pure], f2, Step.refl hr⟩
  · obtain ⟨u, hu, hk⟩ := map_inv k
    cases hk
    obtain ⟨f1, f2⟩ := minA_sim (P := P) (w := w) (ts := ts) (ty := ty) hl hu
    exact ⟨r, _, w, by simp only [builtin, Sem.run_bind, f1, Result.andThen_ok, Sem.run_pure], f2, Step.refl hr⟩
  · cases k
theorem opA_sim (hC : OSound P C) (hr : RH P base r h w) (he : RE r e a.tmps) {v : Value} (k : opA P C o.op e h = some (v, h'))
    (hn : ∀ r' v' w', RV r' v v' → Step P base r w r' h' w' → next (a.put o.dst v') w') : o.wp P a w next Q := by
  generalize ho : o.op = op at k
  unfold opA at k
  split at k
  · rename_i x
    obtain ⟨u, hu, hk⟩ := map_inv k; cases hk
    exact wp_value (by simp only [execOp, ho]; rfl) (hn r _ w (ev_sim hr he hu) (Step.refl hr))
  · rename_i x
    obtain ⟨u, hu, hk⟩ := map_inv k; cases hk
    exact wp_value (by simp only [execOp, ho]; rfl) (hn r _ w (ev_sim hr he hu) (Step.refl hr))
  · rename_i c x y
    obtain ⟨cv, hcv, k⟩ := bind_inv k
    split at k
    case h_2 => cases k
    rename_i t
    obtain ⟨u, hu, hk⟩ := map_inv k; cases hk
    have hb := (ev_sim hr he hcv).bool_inv
    cases t with
    | true => exact wp_value (by simp only [execOp, ho, hb, asBool, Sem.run_bind, Sem.run_pure, Result.andThen_ok, if_true]) (hn r _ w (ev_sim hr he hu) (Step.refl hr))
    | false => exact wp_value (by simp only [execOp, ho, hb, asBool, Sem.run_bind, Sem.run_pure, Result.andThen_ok, Bool.false_eq_true, if_false]) (hn r _ w (ev_sim hr he (x := y) (by simpa using hu)) (Step.refl hr))
  · rename_i t
    obtain ⟨z, hz, hk⟩ := map_inv k
    obtain ⟨zv, z1, z2, z3⟩ := zeroT_run (r := r) hz w
    obtain ⟨r', w', u', f1, f2, f3⟩ := newA_sim hr t z3
    rw [hk] at f2 f3
    exact wp_value (by simp only [execOp, ho, Instr.alloc, Sem.run_bind, z1, Result.andThen_ok, f1, Sem.run_pure]) (hn r' _ w' f2 f3)
  · rename_i t x
    obtain ⟨u, hu, k⟩ := bind_inv k
    obtain ⟨cs, hcs, hk⟩ := map_inv k
    obtain ⟨g1, _, _⟩ := flatT_sim (ev_sim hr he hu) hcs
    obtain ⟨r', w', u', f1, f2, f3⟩ := newA_sim hr t g1
    rw [hk] at f2 f3
    exact wp_value (by simp only [execOp, ho, Instr.box, Sem.run_bind, Result.andThen_ok, f1, Sem.run_pure]) (hn r' _ w' f2 f3)
  · rename_i t ps
    obtain ⟨u, hu, k⟩ := bind_inv k
    obtain ⟨x, hx, hk⟩ := map_inv k; cases hk
    have hps := partsE_sim hr he hu
    have hb := buildA_sim (w := w) (ps := u.toArray) (qs := ps.map fun (i, x) => (i, a.eval x)) (by simpa using hps) (by simpa using hx)
    obtain ⟨v', f1, f2⟩ := hb
    exact wp_value (by simp only [execOp, ho, Sem.run_bind, f1, Result.andThen_ok, Sem.run_pure]) (hn r _ w f2 (Step.refl hr))
  · rename_i t n ps
    obtain ⟨u, hu, k⟩ := bind_inv k
    have hps := partsE_sim hr he hu
    obtain ⟨r', v', w', f1, f2, f3⟩ := buildSliceA_sim hr (ps := u.toArray) (qs := ps.map fun (i, x) => (i, a.eval x)) (by simpa using hps) (by simpa using k)
    exact wp_value (by simp only [execOp, ho, Sem.run_bind, f1, Result.andThen_ok, Sem.run_pure]) (hn r' _ w' f2 f3)
  · rename_i t x
    obtain ⟨u, hu, k⟩ := bind_inv k
    obtain ⟨y, hy, hk⟩ := map_inv k; cases hk
    obtain ⟨v', f1, f2⟩ := loadA_sim hr (ev_sim hr he hu) hy
    exact wp_value (by simp only [execOp, ho, Sem.run_bind, f1, Result.andThen_ok, Sem.run_pure]) (hn r _ w f2 (Step.refl hr))
  · rename_i t p x
    obtain ⟨pv, hp, k⟩ := bind_inv k
    obtain ⟨u, hu, k⟩ := bind_inv k
    obtain ⟨y, hy, hk⟩ := map_inv k; cases hk
    obtain ⟨w', f1, f2⟩ := storeA_sim hr (ev_sim hr he hp) (ev_sim hr he hu) hy
    exact wp_skip' (by simp only [execOp, ho, Sem.run_bind, f1, Result.andThen_ok, Sem.run_pure]) (hn r _ w' (RV.undef r) f2)
  · rename_i x
    obtain ⟨u, hu, k⟩ := bind_inv k
    obtain ⟨y, hy, hk⟩ := map_inv k; cases hk
    obtain ⟨v', f1, f2⟩ := nilCheckA_sim (w := w) ho (ev_sim hr he hu) hy
    exact wp_value f1 (hn r _ w f2 (Step.refl hr))
  · rename_i op t x y t'
    obtain ⟨xv, hx, k⟩ := bind_inv k
    obtain ⟨yv, hy, k⟩ := bind_inv k
    obtain ⟨u, hu, hk⟩ := map_inv k; cases hk
    obtain ⟨v', f1, f2⟩ := binA_sim (w := w) ho (ev_sim hr he hx) (ev_sim hr he hy) hu
    exact wp_value f1 (hn r _ w f2 (Step.refl hr))
  · rename_i op t x
    obtain ⟨u, hu, k⟩ := bind_inv k
    obtain ⟨y, hy, hk⟩ := map_inv k; cases hk
    obtain ⟨f1, f2⟩ := unA_sim (P := P) (w := w) (ev_sim hr he hu) hy
    exact wp_value (by simp only [execOp, ho, Sem.run_bind, f1, Result.andThen_ok, Sem.run_pure]) (hn r _ w f2 (Step.refl hr))
  · rename_i s d x
    obtain ⟨u, hu, k⟩ := bind_inv k
    obtain ⟨r', v', w', f1, f2, f3⟩ := convA_sim hr (ev_sim hr he hu) k
    exact wp_value (by simp only [execOp, ho, Sem.run_bind, f1, Result.andThen_ok, Sem.run_pure]) (hn r' _ w' f2 f3)
  · rename_i t x
    obtain ⟨u, hu, k⟩ := bind_inv k
    obtain ⟨y, hy, hk⟩ := map_inv k; cases hk
    obtain ⟨v', f1, f2⟩ := makeInterfaceA_sim (w := w) (ev_sim hr he hu) hy
    exact wp_value (by simp only [execOp, ho, Sem.run_bind, f1, Result.andThen_ok, Sem.run_pure]) (hn r _ w f2 (Step.refl hr))
  · rename_i f xs ys
    obtain ⟨xv, hx, k⟩ := bind_inv k
    obtain ⟨yv, hy, hk⟩ := map_inv k; cases hk
    have e1 := evs_sim hr he hx
    have e2 := evs_sim hr he hy
    refine wp_value (v' := .func (.func f) (xs.map a.eval) (ys.map a.eval)) (by simp only [execOp, ho, Instr.makeFunc, Sem.run_bind, Result.andThen_ok, Sem.run_pure]) (hn r _ w ?_ (Step.refl hr))
    have e1' : RL r xv.toArray.toList (xs.map a.eval).toList := by simpa using e1
    have e2' : RL r yv.toArray.toList (ys.map a.eval).toList := by simpa using e2
    exact .func _ _ _ _ _ e1'.size e2'.size e1'.arr e2'.arr
  · rename_i t l c
    obtain ⟨lv, hl, k⟩ := bind_inv k
    obtain ⟨cv, hc, k⟩ := bind_inv k
    obtain ⟨r', v', w', f1, f2, f3⟩ := makeSliceA_sim hr (ev_sim hr he hl) (ev_sim hr he hc) k
    exact wp_value (by simp only [execOp, ho, Sem.run_bind, f1, Result.andThen_ok, Sem.run_pure]) (hn r' _ w' f2 f3)
  · rename_i t x lo hi mx
    obtain ⟨xv, hx, k⟩ := bind_inv k
    obtain ⟨l1, hl1, k⟩ := bind_inv k
    obtain ⟨l2, hl2, k⟩ := bind_inv k
    obtain ⟨l3, hl3, k⟩ := bind_inv k
    obtain ⟨u, hu, hk⟩ := map_inv k; cases hk
    obtain ⟨v', f1, f2⟩ := sliceA_sim hr (ev_sim hr he hx) (optE_sim hr he hl1) (optE_sim hr he hl2) (optE_sim hr he hl3) hu
    exact wp_value (by simp only [execOp, ho, Sem.run_bind, f1, Result.andThen_ok, Sem.run_pure]) (hn r _ w f2 (Step.refl hr))
  · rename_i s x f
    obtain ⟨u, hu, k⟩ := bind_inv k
    obtain ⟨y, hy, hk⟩ := map_inv k; cases hk
    obtain ⟨v', f1, f2⟩ := fieldAddrA_sim (w := w) (ev_sim hr he hu) hy
    exact wp_value (by simp only [execOp, ho, Sem.run_bind, f1, Result.andThen_ok, Sem.run_pure]) (hn r _ w f2 (Step.refl hr))
  · rename_i s x f
    obtain ⟨u, hu, k⟩ := bind_inv k
    obtain ⟨y, hy, hk⟩ := map_inv k; cases hk
    obtain ⟨v', f1, f2⟩ := fieldA_sim (w := w) (ev_sim hr he hu) hy
    exact wp_value (by simp only [execOp, ho, Sem.run_bind, f1, Result.andThen_ok, Sem.run_pure]) (hn r _ w f2 (Step.refl hr))
  · rename_i t x i
    obtain ⟨u, hu, k⟩ := bind_inv k
    obtain ⟨iv, hi, k⟩ := bind_inv k
    obtain ⟨y, hy, hk⟩ := map_inv k; cases hk
    obtain ⟨v', f1, f2⟩ := indexAddrA_sim (w := w) (ev_sim hr he hu) (ev_sim hr he hi) hy
    exact wp_value (by simp only [execOp, ho, Sem.run_bind, f1, Result.andThen_ok, Sem.run_pure]) (hn r _ w f2 (Step.refl hr))
  · rename_i t x i
    obtain ⟨u, hu, k⟩ := bind_inv k
    obtain ⟨iv, hi, k⟩ := bind_inv k
    obtain ⟨y, hy, hk⟩ := map_inv k; cases hk
    obtain ⟨v', f1, f2⟩ := indexA_sim (w := w) (ev_sim hr he hu) (ev_sim hr he hi) hy
    exact wp_value (by simp only [execOp, ho, Sem.run_bind, f1, Result.andThen_ok, Sem.run_pure]) (hn r _ w f2 (Step.refl hr))
  · rename_i x i
    obtain ⟨u, hu, k⟩ := bind_inv k
    obtain ⟨y, hy, hk⟩ := map_inv k; cases hk
    obtain ⟨v', f1, f2⟩ := extractA_sim (P := P) (w := w) (ev_sim hr he hu) hy
    exact wp_value (by simp only [execOp, ho, Sem.run_bind, f1, Result.andThen_ok, Sem.run_pure]) (hn r _ w f2 (Step.refl hr))
  · rename_i f args argTypes
    obtain ⟨fv, hf, k⟩ := bind_inv k
    obtain ⟨vs, hv, k⟩ := bind_inv k
    exact callA_sim hC hr (ev_sim hr he hf) (args' := args.map a.eval) (by simpa using evs_sim hr he hv) k ho rfl rfl rfl hn
  · rename_i b args argTypes
    obtain ⟨vs, hv, k⟩ := bind_inv k
    obtain ⟨r', v', w', f1, f2, f3⟩ := builtinA_sim (ty := o.type) (cs := args.map fun | .const _ => true | _ => false) hr (args' := args.map a.eval) (by simpa using evs_sim hr he hv) k
    refine wp_value ?_ (hn r' _ w' f2 f3)
    simp only [execOp, ho, resolve, Sem.run_bind, Sem.run_pure, Result.andThen_ok, invoke]
    exact f1
  · cases k
end
end Go.Proofs.Ytlihmncbhaimkaa.Am
