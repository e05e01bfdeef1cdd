/- From the abstract machine to the model: a call at the start. -/
import Derived.Test.YtlihmncbhaimkaaAmWp
namespace Go.Proofs.Ytlihmncbhaimkaa.Am
open Go Go.RowKit

section
variable (P : Program)
/-- At the start: the globals' places, then blocks that are read and not written. -/
def startR (bs : List (RB × Option (List Value))) : Ren := fun n => if n < P.globals.size then some ⟨n, 0, 0, 0, 0, false⟩ else (bs[n - P.globals.size]?).map (·.1)
def startH (bs : List (RB × Option (List Value))) : Heap :=
  { next := P.globals.size + bs.length, get := fun n => if n < P.globals.size then .dead else match bs[n - P.globals.size]? with
    | some (x, some cs) => .cells cs x.esz false true
    | _ => .dead }
structure StartOk (W : World) (bs : List (RB × Option (List Value))) : Prop where
  each : ∀ (i : Nat) x cs, bs[i]? = some (x, some cs) → x.len = cs.length ∧ x.grow = false ∧ x.o + x.len ≤ x.sz ∧ ∃ Cs ty fz, W.heap[x.c]? = some (.cells Cs ty fz) ∧ Cs.size = x.sz ∧ ∀ j v, cs[j]? = some v → ∃ v', Cs[x.o + j]? = some v' ∧ RV (startR P bs) v v'
end
section
variable {P : Program} {W : World} {bs : List (RB × Option (List Value))}
theorem startR_at {i : Nat} {x : RB} {cs : Option (List Value)} (h : bs[i]? = some (x, cs)) : startR P bs (P.globals.size + i) = some x := by
  unfold startR
  rw [if_neg (by omega), Nat.add_sub_cancel_left, h]
  rfl
theorem startH_at {i : Nat} {x : RB} {cs : List Value} (h : bs[i]? = some (x, some cs)) : (startH P bs).get (P.globals.size + i) = .cells cs x.esz false true := by
  show (if P.globals.size + i < P.globals.size then Blk.dead else _) = _
  rw [if_neg (by omega), Nat.add_sub_cancel_left, h]
theorem startH_live {n : Nat} (h : ((startH P bs).get n).live = true) : ∃ i x cs, n = P.globals.size + i ∧ bs[i]? = some (x, some cs) ∧ (startH P bs).get n = .cells cs x.esz false true := by
  unfold startH at h ⊢
  simp only at h ⊢
  split at h
  · cases h
  · rename_i hn
    split at h
    · rename_i x cs hb
      refine ⟨n - P.globals.size, x, cs, by omega, hb, ?_⟩
      rw [if_neg hn]
    · cases h
theorem start_rh (s : StartOk P W bs) : RH P W.heap.size (startR P bs) (startH P bs) W where
  base_le := Nat.le_refl _
  dom := fun b x hb => by
    unfold startR at hb
    show b < P.globals.size + bs.length
    split at hb
    · omega
    · obtain ⟨u, hu, _⟩ := map_inv hb
      have := (List.getElem?_eq_some_iff.1 hu).1
      omega
  tot := fun b hb hl => by
    obtain ⟨i, x, cs, rfl, h1, h2⟩ := startH_live hl
    exact ⟨x, startR_at h1⟩
  cells := fun b x cs esz g ro hx hc => by
    obtain ⟨i, x', cs', rfl, h1, h2⟩ := startH_live (P := P) (bs := bs) (n := b) (by rw [hc]; rfl)
    rw [startR_at h1] at hx
    cases hx
    rw [h2] at hc
    cases hc
    obtain ⟨e1, e2, e3, Cs, ty, fz, e4, e5, e6⟩ := s.each i _ _ h1
    exact ⟨rfl, e1, e2, e3, Cs, ty, fz, e4, e5, e6, fun h => by cases h⟩
  maps := fun b x es hx hc => by
    obtain ⟨i, x', cs', rfl, h1, h2⟩ := startH_live (P := P) (bs := bs) (n := b) (by rw [hc]; rfl)
    rw [h2] at hc
    cases hc
  sep := fun b b' x x' _ _ _ hl _ hw => by
    obtain ⟨i, x', cs', rfl, h1, h2⟩ := startH_live hl
    rw [h2] at hw
    cases hw
  globs := fun g hg => ⟨_, by unfold startR; rw [if_pos hg], rfl, rfl⟩
/-- A law that holds of the abstract machine holds of the model. -/
theorem law_calls {H : Hints} {X : FuncId → Option (List Value → Heap → Option (Value × Heap))} (hX : XSound P X) (hm : P.follows .mixedOrders = true) {f : FuncId} {args : List Value} {args' : Array Value} (s : StartOk P W bs) (ha : RL (startR P bs) args args'.toList)
    (k : Res (call P H X f args (startH P bs)) fun v _ => v = .bool true) : Calls P f args' W fun e w' => e = .returned (.bool true) ∧ Below W.heap.size W w' := by
  obtain ⟨v, h', e, rfl⟩ := k
  refine ((call_sim hX hm f args _ _ h' e).2 W.heap.size _ W args' ha (start_rh s)).mono ?_
  rintro e w' ⟨r', v', rfl, hv, st⟩
  cases hv
  exact ⟨rfl, st.below⟩
end
end Go.Proofs.Ytlihmncbhaimkaa.Am
