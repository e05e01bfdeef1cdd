/- Regions of the abstract machine are regions of the model. -/
import Derived.Test.YtlihmncbhaimkaaAmOpAll
namespace Go.Proofs.Ytlihmncbhaimkaa.Am
open Go Go.RowKit

section
variable {P : Program} {C : Oracle} {base : Nat} {r : Ren} {h h' : Heap} {w : World} {e : Env} {a : Act} {o : Oper} {Q : Exit → Act → World → Prop}
/-- A state of a call, on both sides. -/
structure SR (P : Program) (base : Nat) (r : Ren) (e : Env) (h : Heap) (a : Act) (w : World) : Prop where
  re : RE r e a.tmps
  rh : RH P base r h w
  nd : a.defers = []
/-- From one state to another one. -/
structure SS (base : Nat) (r : Ren) (a : Act) (w : World) (r' : Ren) (a' : Act) (w' : World) : Prop where
  le : Ren.le r r'
  below : Below base w w'
  size : a'.tmps.size = a.tmps.size
theorem SS.refl : SS base r a w r a w := ⟨Ren.le.refl _, Below.refl _ _, rfl⟩
theorem SS.trans {r1 r2 : Ren} {a1 a2 : Act} {w1 w2 : World} (x : SS base r a w r1 a1 w1) (y : SS base r1 a1 w1 r2 a2 w2) : SS base r a w r2 a2 w2 := ⟨x.le.trans y.le, x.below.trans y.below, y.size.trans x.size⟩
theorem put_size (a : Act) (d : Option Tmp) (v : Value) : (a.put d v).tmps.size = a.tmps.size := by
  cases d <;> simp [Act.put]
theorem put_defers (a : Act) (d : Option Tmp) (v : Value) : (a.put d v).defers = a.defers := by cases d <;> rfl
theorem RE.put {tmps : Array Value} (he : RE r e tmps) {d : Option Nat} {v v' : Value} (hv : RV r v v') (hd : ∀ n, d = some n → n < tmps.size) (ht : tmps = a.tmps) : RE r (upd e d (some v)) (a.put d v').tmps := by
  subst ht
  cases d with
  | none => exact he
  | some d =>
    intro n u hu
    simp only [upd] at hu
    have hlt := hd d rfl
    split at hu
    · rename_i hn
      subst hn
      cases hu
      exact ⟨v', by simp [Act.put, hlt], hv⟩
    · rename_i hn
      obtain ⟨u', h1, h2⟩ := he n u hu
      exact ⟨u', by simp only [Act.put, Array.getElem?_setIfInBounds]; rw [if_neg (Ne.symm hn)]; exact h1, h2⟩
theorem wantA_sim {ops : List Oper} (he : RE r e a.tmps) {b : Bool} (k : wantA ops e o = some b) : Region.wanted o (yielded ops.toArray a.tmps) = b := by
  unfold wantA at k
  unfold Region.wanted
  split at k
  · rename_i hg; cases k; simp [hg]
  · rename_i j wnt hg
    obtain ⟨d, hd, k⟩ := bind_inv k
    obtain ⟨v, hv, hk⟩ := map_inv k
    obtain ⟨v', h1, h2⟩ := he d v hv
    have hy : yielded ops.toArray a.tmps j = match v' with
      | .bool b => some b
      | _ => none := by
      unfold yielded
      have hd' : ((ops.toArray[j]?).bind (·.dst)).bind (a.tmps[·]?) = some v' := by
        simp only [List.getElem?_toArray, hd, Option.bind_some, h1]
      rw [hd']
      cases v' <;> rfl
    simp only [hg, hy]
    subst hk
    cases h2 <;> simp
theorem stepA_sim (hC : OSound P C) {ops : List Oper} (hs : SR P base r e h a w) (hd : ∀ n, o.dst = some n → n < a.tmps.size) {v : Value} (k : stepA P C ops o e h = some (v, h')) {K : Act → World → Prop}
    (hn : ∀ r' a' w', SR P base r' (upd e o.dst (some v)) h' a' w' → SS base r a w r' a' w' → K a' w') :
    if Region.wanted o (yielded ops.toArray a.tmps) then o.wp P a w K Q ∨ (o.asks P a w ∧ LetsOut Q) else K (a.put o.dst undef) w := by
  unfold stepA at k
  obtain ⟨b, hb, k⟩ := bind_inv k
  rw [wantA_sim hs.re hb]
  cases b with
  | true =>
    simp only [if_true] at k ⊢
    refine .inl (opA_sim hC hs.rh hs.re k fun r' v' w' hv hst => hn r' _ w' ⟨(hs.re.mono hst.le).put hv hd rfl, hst.rh, by rw [put_defers]; exact hs.nd⟩ ⟨hst.le, hst.below, put_size _ _ _⟩)
  | false =>
    simp only [Bool.false_eq_true, if_false] at k ⊢
    cases k
    exact hn r _ w ⟨hs.re.put (RV.undef r) hd rfl, hs.rh, by rw [put_defers]; exact hs.nd⟩ ⟨Ren.le.refl _, Below.refl _ _, put_size _ _ _⟩
theorem opsA_sim (hC : OSound P C) {ops : List Oper} : ∀ (l : List Oper) (r : Ren) (e : Env) (h : Heap) (a : Act) (w : World) (e' : Env), SR P base r e h a w → (∀ n ∈ dstsOps l, n < a.tmps.size) → opsA P C ops l e h = some (e', h') →
    (∀ r' a' w', SR P base r' e' h' a' w' → SS base r a w r' a' w' → Q .normal a' w') → wpList P ops.toArray Q l a w
  | [], r, e, h, a, w, e', hs, _, k, hn => by
    simp only [opsA] at k; cases k
    exact wpList_nil (hn r a w hs SS.refl)
  | o :: l, r, e, h, a, w, e', hs, hd, k, hn => by
    unfold opsA at k
    obtain ⟨⟨v, h1⟩, hst, k⟩ := bind_inv k
    unfold wpList
    have hd1 : ∀ n, o.dst = some n → n < a.tmps.size := fun n e => hd n (by simp [dstsOps, e])
    have hd2 : ∀ n ∈ dstsOps l, n < a.tmps.size := fun n hn => hd n (by
      simp only [dstsOps, List.mem_filterMap, List.mem_cons] at hn ⊢
      obtain ⟨x, hx, e⟩ := hn
      exact ⟨x, .inr hx, e⟩)
    exact stepA_sim hC hs hd1 hst fun r1 a1 w1 hs1 ss1 => opsA_sim hC l r1 _ h1 a1 w1 e' hs1 (fun n hn => by rw [ss1.size]; exact hd2 n hn) k fun r' a' w' hs' ss' => hn r' a' w' hs' (ss1.trans ss')
theorem SR.drawn (hs : SR P base r e h a w) : SR P base r e h a { w with drawn := w.drawn + 1 } := ⟨hs.re, hs.rh.of_heap rfl, hs.nd⟩
end
end Go.Proofs.Ytlihmncbhaimkaa.Am
