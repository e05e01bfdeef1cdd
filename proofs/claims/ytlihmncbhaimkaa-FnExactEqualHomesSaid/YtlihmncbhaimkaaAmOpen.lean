/- Arguments: what they are at the start. -/
import Derived.Test.YtlihmncbhaimkaaAmLaw
import Derived.Test.YtlihmncbhaimkaaAmLib
import Derived.ChangeSlices
import Derived.ChangeArms
namespace Go.Proofs.Ytlihmncbhaimkaa.Am
open Go Go.RowKit

/-- A slice of pairs of whole numbers, in the model. -/
def IsPairs (W : World) (a : Option Addr) (len cap : Nat) (zs : List (Int × Int)) : Prop :=
  (len = 0 ∧ cap = 0 ∧ zs = []) ∨ ∃ b o Cs ty fz, a = some ⟨b, o, none⟩ ∧ len ≤ cap ∧ cap ≤ maxLen ∧ 0 < cap ∧ zs.length = cap ∧ W.heap[b]? = some (.cells Cs ty fz) ∧ o + 2 * cap ≤ Cs.size ∧
    ∀ i x, zs[i]? = some x → Cs[o + 2 * i]? = some (.int .i64 x.1) ∧ Cs[o + 2 * i + 1]? = some (.int .i64 x.2)
section
variable {H : Type} {enc : TypeId × Value → H} {P : Program} {w : World}
theorem cell_cells {a : Addr} {v : Value} (h : w.cell? a = some v) : ∃ Cs ty fz, a.spot = none ∧ w.heap[a.block]? = some (.cells Cs ty fz) ∧ Cs[a.off]? = some v := by
  unfold World.cell? at h
  split at h
  · rename_i c ty fz hc
    split at h
    · cases h
    · rename_i hs
      exact ⟨c, ty, fz, by simpa using hs, hc, h⟩
  · cases h
theorem open_pairs {t e i0 i1 : TypeId} {f0 f1 : Field} {a : Option Addr} {len cap : Nat} {d : DataW H} {ps : List MemPlace} (ht : P.underlying t = some (.slice e)) (he : P.underlying e = some (.struct #[f0, f1])) (hc : P.cellsOf e = 2)
    (o0 : f0.offset = 0) (o1 : f1.offset = 1) (t0 : f0.type = i0) (t1 : f1.type = i1) (k0 : P.underlying i0 = some (.int .i64)) (k1 : P.underlying i1 = some (.int .i64)) (c0 : P.cellsOf i0 = 1) (c1 : P.cellsOf i1 = 1)
    (h : DataW.Trod enc P w 0 (fun _ => true) true t (.slice a len cap) d ps) : ∃ zs, IsPairs w a len cap zs ∧ (cap ≠ 0 → ∃ es rs, d = .slice es rs ∧ es.length + rs.length = cap) := by
  obtain ⟨fuel, h⟩ := h
  rcases DataW.trod_slice ht h with ⟨h0, _⟩ | ⟨a', len', cap', elems, rest, n, _, hcs, hdx, hb, hl, hm, hlen, hel, hsp, _⟩
  · simp [Value.cells] at h0
    obtain ⟨-, rfl, rfl⟩ := h0
    exact ⟨[], .inl ⟨rfl, rfl, rfl⟩, fun h => absurd rfl h⟩
  · simp [Value.cells] at hcs
    obtain ⟨rfl, rfl, rfl⟩ := hcs
    by_cases hz : cap = 0
    · subst hz
      exact ⟨[], .inl ⟨by omega, rfl, rfl⟩, fun h => absurd rfl h⟩
    obtain ⟨hrl, hr⟩ := hsp rfl
    -- an element
    have each : ∀ i, i < cap → ∃ x : Int × Int, w.cell? (a'.add (i * 2)) = some (.int .i64 x.1) ∧ w.cell? ((a'.add (i * 2)).add 1) = some (.int .i64 x.2) := by
      intro i hi
      have hb' : ∃ y, (w.cells? 0 (a'.add (i * P.cellsOf e)) (P.cellsOf e)).bind (DataW.trod enc P w 0 (fun _ => true) true n e) = some y := by
        by_cases hi' : i < len
        · have : i < elems.length := by omega
          exact ⟨elems[i], by rw [hel i hi']; simp [this]⟩
        · have h1 : i - len < rest.length := by omega
          refine ⟨rest[i - len], ?_⟩
          have := hr (i - len) (by omega)
          rw [show len + (i - len) = i by omega] at this
          rw [this]; simp [h1]
      obtain ⟨y, hy⟩ := hb'
      rw [hc, Option.bind_eq_some_iff] at hy
      obtain ⟨cs', hcs', hy'⟩ := hy
      obtain ⟨_, hlen', hcell⟩ := World.cells?_some hcs'
      obtain ⟨xs, m, _, _, _, hxl, hxs⟩ := DataW.trod_struct he hy'
      have hx0 := hxs 0 f0 rfl
      have hx1 := hxs 1 f1 rfl
      have hl0 : 0 < xs.length := by rw [hxl]; simp
      have hl1 : 1 < xs.length := by rw [hxl]; simp
      rw [o0, t0, c0, List.drop_zero] at hx0
      rw [o1, t1, c1] at hx1
      rw [show xs[0]? = some xs[0] by simp [hl0]] at hx0
      rw [show xs[1]? = some xs[1] by simp [hl1]] at hx1
      obtain ⟨m0, e0, _, _⟩ := DataW.trod_int k0 hx0
      obtain ⟨m1, e1, _, _⟩ := DataW.trod_int k1 hx1
      match cs', hlen', e0, e1, hcell with
      | [u, v], _, e0, e1, hcell =>
        simp at e0 e1
        have q0 := hcell 0 (by omega)
        have q1 := hcell 1 (by omega)
        refine ⟨(m0, m1), ?_, ?_⟩
        · rw [show (a'.add (i * 2)).add 0 = a'.add (i * 2) by simp [Addr.add]] at q0
          rw [q0]; simp [e0]
        · rw [q1]; simp [e1]
    obtain ⟨x0, h00, _⟩ := each 0 (by omega)
    have ea : a'.add (0 * 2) = a' := by simp [Addr.add]
    rw [ea] at h00
    obtain ⟨Cs, ty, fz, hs, hw, _⟩ := cell_cells h00
    obtain ⟨b, o, sp⟩ := a'
    simp only at hs hw
    subst hs
    have eadd : ∀ p j, (⟨b, p, none⟩ : Addr).add j = ⟨b, p + j, none⟩ := fun p j => by
      unfold Addr.add
      split
      · rename_i h; subst h; rfl
      · rfl
    have each2 : ∀ i, i < cap → ∃ x : Int × Int, Cs[o + 2 * i]? = some (.int .i64 x.1) ∧ Cs[o + 2 * i + 1]? = some (.int .i64 x.2) := by
      intro i hi
      obtain ⟨x, h1, h2⟩ := each i hi
      rw [eadd] at h1 h2
      rw [eadd] at h2
      obtain ⟨Cs1, _, _, _, w1, g1⟩ := cell_cells h1
      obtain ⟨Cs2, _, _, _, w2, g2⟩ := cell_cells h2
      simp only at w1 w2 g1 g2
      rw [hw] at w1 w2
      cases w1
      cases w2
      exact ⟨x, by rw [show o + 2 * i = o + i * 2 by omega]; exact g1, by rw [show o + 2 * i + 1 = o + i * 2 + 1 by omega]; exact g2⟩
    have hzs : ∃ zs : List (Int × Int), zs.length = cap ∧ ∀ i x, zs[i]? = some x → Cs[o + 2 * i]? = some (.int .i64 x.1) ∧ Cs[o + 2 * i + 1]? = some (.int .i64 x.2) := by
      have key : ∀ m, m ≤ cap → ∃ zs : List (Int × Int), zs.length = m ∧ ∀ i x, zs[i]? = some x → Cs[o + 2 * i]? = some (.int .i64 x.1) ∧ Cs[o + 2 * i + 1]? = some (.int .i64 x.2) := by
        intro m
        induction m with
        | zero => intro _; exact ⟨[], rfl, by simp⟩
        | succ m ih =>
          intro hm'
          obtain ⟨zs, z1, z2⟩ := ih (by omega)
          obtain ⟨x, h1, h2⟩ := each2 m (by omega)
          refine ⟨zs ++ [x], by simp [z1], fun i y hy => ?_⟩
          rcases Nat.lt_or_ge i m with hi | hi
          · rw [List.getElem?_append_left (by omega)] at hy
            exact z2 i y hy
          · rw [List.getElem?_append_right (by omega)] at hy
            have : i = m := by
              have := (List.getElem?_eq_some_iff.1 hy).1
              simp at this
              omega
            subst this
            simp [z1] at hy
            subst hy
            exact ⟨h1, h2⟩
      exact key cap (Nat.le_refl _)
    obtain ⟨zs, z1, z2⟩ := hzs
    refine ⟨zs, .inr ⟨b, o, Cs, ty, fz, rfl, hl, hm, by omega, z1, hw, ?_, z2⟩, fun _ => ⟨_, _, (congrArg (·.1) hdx), by simp only [List.length_map]; omega⟩⟩
    obtain ⟨x, h1, h2⟩ := each2 (cap - 1) (by omega)
    have := (Array.getElem?_eq_some_iff.1 h2).1
    omega
end
def Pr (_ : Heap) (cs : List Value) (x : Int × Int) : Prop := cs = [.int .i64 x.1, .int .i64 x.2]
abbrev prC (x : Int × Int) : List Value := [.int .i64 x.1, .int .i64 x.2]
theorem prC_len (x : Int × Int) : (prC x).length = 2 := rfl
theorem prC_get {l : List (Int × Int)} {j : Nat} {v : Value} (h : (l.flatMap prC)[j]? = some v) : ∃ i x, l[i]? = some x ∧ ((j = 2 * i ∧ v = .int .i64 x.1) ∨ (j = 2 * i + 1 ∧ v = .int .i64 x.2)) := by
  induction l generalizing j with
  | nil => simp at h
  | cons y l ih =>
    rw [List.flatMap_cons] at h
    match j with
    | 0 => exact ⟨0, y, rfl, .inl ⟨rfl, by simpa using h.symm⟩⟩
    | 1 => exact ⟨0, y, rfl, .inr ⟨rfl, by simpa using h.symm⟩⟩
    | j + 2 =>
      rw [List.getElem?_append_right (by rw [prC_len]; omega)] at h
      obtain ⟨i, x, h1, h2⟩ := ih (j := j) (by simpa [prC_len] using h)
      refine ⟨i + 1, x, by simpa using h1, ?_⟩
      rcases h2 with ⟨h2, h3⟩ | ⟨h2, h3⟩
      · exact .inl ⟨by omega, h3⟩
      · exact .inr ⟨by omega, h3⟩
/-- A slice of pairs at the start. -/
theorem pairs_start {W : World} {a : Option Addr} {len cap : Nat} {zs : List (Int × Int)} (h : IsPairs W a len cap zs) (hcap : cap ≤ 140737488355328) : ∃ (x : RB) (cs : Option (List Value)), ∀ (P : Program) bs (i : Nat), bs[i]? = some (x, cs) →
    (∀ cs', cs = some cs' → x.len = cs'.length ∧ x.grow = false ∧ x.o + x.len ≤ x.sz ∧ ∃ Cs ty fz, W.heap[x.c]? = some (.cells Cs ty fz) ∧ Cs.size = x.sz ∧ ∀ j v, cs'[j]? = some v → ∃ v', Cs[x.o + j]? = some v' ∧ RV (startR P bs) v v') ∧
    ∃ v, RV (startR P bs) v (.slice a len cap) ∧ RdSl 2 Pr (startH P bs) v (zs.take len) := by
  rcases h with ⟨rfl, rfl, rfl⟩ | ⟨b, o, Cs, ty, fz, rfl, h1, h2, h3, h4, h5, h6, h7⟩
  · refine ⟨⟨0, 0, 0, 0, 0, false⟩, none, fun P bs i hi => ⟨fun cs' h => (by cases h), ?_⟩⟩
    cases a with
    | none => exact ⟨.slice none 0 0, .nilSlice, .inl ⟨none, rfl, rfl⟩⟩
    | some a => exact ⟨.slice (some ⟨P.globals.size + i, 0, none⟩) 0 0, .slice _ _ _ _ _ _ _ (startR_at hi) (Nat.le_refl _) (Nat.le_refl _) (fun h => absurd rfl h) (.inl rfl), .inl ⟨_, rfl, rfl⟩⟩
  · refine ⟨⟨b, o, Cs.size, 2, 2 * cap, false⟩, some (zs.flatMap prC), fun P bs i hi => ⟨?_, .slice (some ⟨P.globals.size + i, 0, none⟩) len cap, ?_, ?_⟩⟩
    · intro cs' e
      cases e
      refine ⟨by rw [flat_len prC_len]; simp only []; omega, rfl, h6, Cs, ty, fz, h5, rfl, fun j v hv => ?_⟩
      obtain ⟨m, x, e1, ⟨rfl, rfl⟩ | ⟨rfl, rfl⟩⟩ := prC_get hv
      · exact ⟨_, (h7 m x e1).1, .int _ _⟩
      · exact ⟨_, by rw [← Nat.add_assoc]; exact (h7 m x e1).2, .int _ _⟩
    · exact .slice _ _ _ _ _ _ _ (startR_at hi) h1 (Nat.le_refl _) (fun _ => rfl) (.inl rfl)
    · have hlen : (zs.take len).length = len := by simp; omega
      refine .inr ⟨P.globals.size + i, 0, cap, zs.flatMap prC, 2, false, true, by rw [hlen], ?_, startH_at hi, by rw [hlen]; exact h1, hcap, by rw [flat_len prC_len]; omega, fun j x hx => ?_⟩
      · show P.globals.size + i < P.globals.size + bs.length
        have := (List.getElem?_eq_some_iff.1 hi).1
        omega
      · have hx' : zs[j]? = some x := by
          rw [List.getElem?_take] at hx
          split at hx
          · exact hx
          · cases hx
        have := flat_at prC_len zs j x [] hx'
        rw [List.append_nil] at this
        rw [Nat.zero_add, this]
        rfl
end Go.Proofs.Ytlihmncbhaimkaa.Am
