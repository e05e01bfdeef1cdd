/- How the tie of the two heaps turns: a draw, a new block, a store, a row that grows in place. -/
import Derived.Test.YtlihmncbhaimkaaAmRel
import Derived.Lib.FrozenHead
namespace Go.Proofs.Ytlihmncbhaimkaa.Am
open Go Go.RowKit

section
variable {P : Program} {base : Nat} {r : Ren} {h : Heap} {w : World}
theorem frozen_heap {w w' : World} (e : w'.heap = w.heap) (a : Addr) : w'.frozen? a = w.frozen? a := by simp only [World.frozen?, e]
theorem RH.of_heap (hr : RH P base r h w) {w' : World} (e : w'.heap = w.heap) : RH P base r h w' where
  base_le := by rw [e]; exact hr.base_le
  dom := hr.dom
  tot := hr.tot
  cells b x cs esz g ro hx hb := by
    obtain ⟨h1, h2, h3, h4, Cs, ty, fz, h5, h6, h7, h8⟩ := hr.cells b x cs esz g ro hx hb
    exact ⟨h1, h2, h3, h4, Cs, ty, fz, by rw [e]; exact h5, h6, h7, fun k => ⟨(h8 k).1, fun i hi => by rw [frozen_heap e]; exact (h8 k).2 i hi⟩⟩
  maps b x es hx hb := by
    obtain ⟨h0, Es, clock, h1, h2⟩ := hr.maps b x es hx hb
    exact ⟨h0, Es, clock, by rw [e]; exact h1, h2⟩
  sep := hr.sep
  globs := hr.globs
theorem RH.none_next (hr : RH P base r h w) : r h.next = none := by
  cases hx : r h.next with
  | none => rfl
  | some x => exact absurd (hr.dom _ _ hx) (Nat.lt_irrefl _)

theorem push_get_self (h : Heap) (x : Blk) : (h.push x).get h.next = x := by simp [Heap.push]
theorem push_get_ne (h : Heap) (x : Blk) {n : Nat} (hn : n ≠ h.next) : (h.push x).get n = h.get n := by simp [Heap.push, hn]
theorem set_get_self (h : Heap) (b : Nat) (x : Blk) : (h.set b x).get b = x := by simp [Heap.set]
theorem set_get_ne (h : Heap) {b n : Nat} (x : Blk) (hn : n ≠ b) : (h.set b x).get n = h.get n := by simp [Heap.set, hn]
theorem put_ne (r : Ren) {b n : Nat} (x : RB) (hn : n ≠ b) : (r.put b x) n = r n := by simp [Ren.put, hn]

theorem alloc_old (w : World) (o : Obj) {k : Nat} {x : Obj} (hk : w.heap[k]? = some x) : (w.heap.push o)[k]? = some x := by
  have hlt : k < w.heap.size := (Array.getElem?_eq_some_iff.1 hk).1
  rw [Array.getElem?_push, if_neg (by omega)]
  exact hk
theorem frozen_block {w w' : World} {a : Addr} (e : w'.heap[a.block]? = w.heap[a.block]?) : w'.frozen? a = w.frozen? a := by simp only [World.frozen?, e]
def unfrozen (fz : Nat × Nat) (n : Nat) : Prop := ∀ i, i < n → (decide (fz.1 ≤ i) && decide (i < fz.2)) = false

/-- A new block on both sides. -/
theorem RH.new (hr : RH P base r h w) {cs : List Value} {Cs : Array Value} (esz : Nat) (grow : Bool) (ty : TypeId) {fz : Nat × Nat} (hl : cs.length ≤ Cs.size)
    (hcs : ∀ (i : Nat) v, cs[i]? = some v → ∃ v', Cs[i]? = some v' ∧ RV r v v') (hf : unfrozen fz Cs.size) :
    RH P base (r.put h.next ⟨w.heap.size, 0, Cs.size, esz, cs.length, grow⟩) (h.push (.cells cs esz grow false)) { w with heap := w.heap.push (.cells Cs ty fz) } := by
  have hle : Ren.le r (r.put h.next ⟨w.heap.size, 0, Cs.size, esz, cs.length, grow⟩) := Ren.le_put hr.none_next _
  have old : ∀ b x, b ≠ h.next → (r.put h.next ⟨w.heap.size, 0, Cs.size, esz, cs.length, grow⟩) b = some x → r b = some x := fun b x hb hx => by rwa [put_ne _ _ hb] at hx
  have lt : ∀ b x cs' e' g' ro', r b = some x → h.get b = .cells cs' e' g' ro' → x.c < w.heap.size := fun b x cs' e' g' ro' hx hb => by
    obtain ⟨_, _, _, _, Cs', ty', fz', h5, _⟩ := hr.cells b x cs' e' g' ro' hx hb
    exact (Array.getElem?_eq_some_iff.1 h5).1
  have ltm : ∀ b x es, r b = some x → h.get b = .map es → x.c < w.heap.size := fun b x es hx hb => by
    obtain ⟨_, Es, cl, h5, _⟩ := hr.maps b x es hx hb
    exact (Array.getElem?_eq_some_iff.1 h5).1
  have ltl : ∀ b x, r b = some x → (h.get b).live = true → x.c < w.heap.size := fun b x hx hb => by
    cases hg : h.get b with
    | dead => rw [hg] at hb; cases hb
    | cells cs' e' g' ro' => exact lt b x _ _ _ _ hx hg
    | map es => exact ltm b x _ hx hg
  refine ⟨by simp; exact Nat.le_trans hr.base_le (Nat.le_succ _), ?_, ?_, ?_, ?_, ?_, ?_⟩
  · intro b x hx
    by_cases hb : b = h.next
    · subst hb; simp [Heap.push]
    · have := hr.dom b x (old b x hb hx); simp [Heap.push]; omega
  · intro b hb hlv
    by_cases hn : b = h.next
    · subst hn; exact ⟨_, Ren.put_self _ _ _⟩
    · rw [push_get_ne _ _ hn] at hlv
      obtain ⟨x, hx⟩ := hr.tot b (by simp [Heap.push] at hb; omega) hlv
      exact ⟨x, by rw [put_ne _ _ hn]; exact hx⟩
  · intro b x cs' esz' g' ro' hx hb
    by_cases hn : b = h.next
    · subst hn
      rw [Ren.put_self] at hx; cases hx
      rw [push_get_self] at hb; cases hb
      refine ⟨rfl, rfl, rfl, by simpa using hl, Cs, ty, fz, by simp, rfl, fun i v hv => ?_, fun _ => ⟨hr.base_le, fun i hi => ?_⟩⟩
      · obtain ⟨v', h1, h2⟩ := hcs i v hv
        exact ⟨v', by simpa using h1, h2.mono hle⟩
      · simp only [World.frozen?, Array.getElem?_push_size]
        exact hf i hi
    · have hx' := old b x hn hx
      rw [push_get_ne _ _ hn] at hb
      obtain ⟨h1, h2, h3, h4, Cs', ty', fz', h5, h6, h7, h8⟩ := hr.cells b x cs' esz' g' ro' hx' hb
      refine ⟨h1, h2, h3, h4, Cs', ty', fz', alloc_old w _ h5, h6, fun i v hv => ?_, fun k => ⟨(h8 k).1, fun i hi => ?_⟩⟩
      · obtain ⟨v', k1, k2⟩ := h7 i v hv
        exact ⟨v', k1, k2.mono hle⟩
      · rw [frozen_block (w := w)]
        · exact (h8 k).2 i hi
        · exact (alloc_old w _ h5).trans h5.symm
  · intro b x es hx hb
    have hn : b ≠ h.next := by rintro rfl; rw [push_get_self] at hb; cases hb
    have hx' := old b x hn hx
    rw [push_get_ne _ _ hn] at hb
    obtain ⟨h0, Es, clock, h1, h2, h3⟩ := hr.maps b x es hx' hb
    exact ⟨h0, Es, clock, alloc_old w _ h1, h2, fun i e k v he hkv => ⟨(h3 i e k v he hkv).1.mono hle, (h3 i e k v he hkv).2.mono hle⟩⟩
  · intro b b' x x' hx hx' hne hl1 hl2 hw1
    by_cases hb : b = h.next
    · subst hb
      have hb' : b' ≠ h.next := Ne.symm hne
      rw [Ren.put_self] at hx; cases hx
      rw [push_get_ne _ _ hb'] at hl2
      have := ltl b' x' (old b' x' hb' hx') hl2
      show w.heap.size ≠ x'.c
      omega
    · rw [push_get_ne _ _ hb] at hl1 hw1
      by_cases hb' : b' = h.next
      · subst hb'
        rw [Ren.put_self] at hx'; cases hx'
        have := ltl b x (old b x hb hx) hl1
        show x.c ≠ w.heap.size
        omega
      · rw [push_get_ne _ _ hb'] at hl2
        exact hr.sep b b' x x' (old b x hb hx) (old b' x' hb' hx') hne hl1 hl2 hw1
  · intro g hg
    obtain ⟨x, hx, h1, h2⟩ := hr.globs g hg
    exact ⟨x, hle _ _ hx, h1, h2⟩

/-- Blocks are struck on the abstract side. -/
theorem RH.kill (hr : RH P base r h w) (b : Nat) : RH P base r (h.kill b) w := by
  have live_ne : ∀ n, ((h.kill b).get n).live = true → n ≠ b := fun n hn e => by subst e; simp [Heap.kill, set_get_self, Blk.live] at hn
  have get_ne : ∀ n, n ≠ b → (h.kill b).get n = h.get n := fun n hn => set_get_ne _ _ hn
  refine ⟨hr.base_le, hr.dom, fun n hn hl => ?_, fun n x cs e g ro hx hb => ?_, fun n x es hx hb => ?_, fun n n' x x' hx hx' hne h1 h2 h3 => ?_, hr.globs⟩
  · have := live_ne n hl; rw [get_ne n this] at hl; exact hr.tot n hn hl
  · have := live_ne n (by rw [hb]; rfl); rw [get_ne n this] at hb; exact hr.cells n x cs e g ro hx hb
  · have := live_ne n (by rw [hb]; rfl); rw [get_ne n this] at hb; exact hr.maps n x es hx hb
  · have e1 := live_ne n h1; have e2 := live_ne n' h2
    rw [get_ne n e1] at h1 h3; rw [get_ne n' e2] at h2
    exact hr.sep n n' x x' hx hx' hne h1 h2 h3

/-! ### Writing cells -/
theorem wrCells_length (vs : List Value) : ∀ (cs : List Value) (i : Nat), (wrCells cs i vs).length = cs.length := by
  induction vs with
  | nil => intro cs i; rfl
  | cons v vs ih => intro cs i; rw [wrCells, ih, List.length_set]
theorem wrCells_get (vs : List Value) : ∀ (cs : List Value) (i j : Nat), i + vs.length ≤ cs.length → (wrCells cs i vs)[j]? = if i ≤ j ∧ j < i + vs.length then vs[j - i]? else cs[j]? := by
  induction vs with
  | nil => intro cs i j _; rw [wrCells, if_neg (by rintro ⟨h1, h2⟩; simp at h2; omega)]
  | cons v vs ih =>
    intro cs i j hl
    simp only [List.length_cons] at hl
    rw [wrCells, ih _ _ _ (by rw [List.length_set]; omega)]
    simp only [List.length_cons]
    by_cases h1 : i + 1 ≤ j ∧ j < i + 1 + vs.length
    · rw [if_pos h1, if_pos (by omega)]
      obtain ⟨k, rfl⟩ : ∃ k, j = i + 1 + k := ⟨j - (i + 1), by omega⟩
      rw [show i + 1 + k - (i + 1) = k by omega, show i + 1 + k - i = k + 1 by omega]
      rfl
    · rw [if_neg h1, List.getElem?_set]
      by_cases h2 : i = j
      · subst h2
        rw [if_pos rfl, if_pos (by omega), if_pos (by omega)]
        simp
      · rw [if_neg h2, if_neg (by omega)]
theorem run_storeCells_free (P : Program) (g o : Nat) (t : TypeId) (fz : Nat × Nat) : ∀ (vs : List Value) (i : Nat) (cur : Array Value) (w : World), w.heap[g]? = some (.cells cur t fz) → unfrozen fz cur.size → o + i + vs.length ≤ cur.size → (∀ v ∈ vs, v.oneCell' = true) →
    (storeCells ⟨g, o, none⟩ vs i).run P w = .ok () (w.setRow g (wrCells cur.toList (o + i) vs).toArray)
  | [], i, cur, w, hg, _, _, _ => by
    simp only [storeCells, wrCells, Array.toArray_toList]
    rw [setRow_self w g cur t fz hg]
    rfl
  | v :: rest, i, cur, w, hg, hfz, hl, h1 => by
    have hi : o + i < cur.size := by simp at hl; omega
    have hadd : (⟨g, o, none⟩ : Addr).add i = ⟨g, o + i, none⟩ := by unfold Addr.add; split <;> simp_all
    have hcell : w.cell? ⟨g, o + i, none⟩ = some cur[o + i] := by simp [World.cell?, hg, hi]
    have hfro : w.frozen? ⟨g, o + i, none⟩ = false := by
      simp only [World.frozen?, hg]
      exact hfz _ hi
    have hst : (store ((⟨g, o, none⟩ : Addr).add i) v).run P w = .ok () (w.setRow g (cur.setIfInBounds (o + i) v)) := by
      rw [hadd, run_store P w _ v _ (h1 v (by simp)), hcell]
      simp [hfro, setCell_eq_setRow w g (o + i) cur t fz v hg]
    have ih := run_storeCells_free P g o t fz rest (i + 1) (cur.setIfInBounds (o + i) v) (w.setRow g (cur.setIfInBounds (o + i) v)) (setRow_heap w g cur _ t _ hg) (by simpa using hfz) (by simp at hl ⊢; omega) (fun x hx => h1 x (by simp [hx]))
    simp only [storeCells, Sem.run_bind, hst, Result.andThen_ok, ih, setRow_setRow, wrCells]
    congr 4
    simp
theorem unfrozen_of {w : World} {g : Nat} {cs : Array Value} {t : TypeId} {fz : Nat × Nat} (hg : w.heap[g]? = some (.cells cs t fz)) (h : ∀ i, i < cs.size → w.frozen? ⟨g, i, none⟩ = false) : unfrozen fz cs.size := fun i hi => by
  have := h i hi
  simpa only [World.frozen?, hg] using this

/-- A concrete row is written, an abstract one with it. -/
theorem RH.write (hr : RH P base r h w) {b : Nat} {x : RB} {cs cs' : List Value} {esz : Nat} {g : Bool} (hx : r b = some x) (hb : h.get b = .cells cs esz g false) {Cs Cs' : Array Value} {ty : TypeId} {fz : Nat × Nat}
    (hC : w.heap[x.c]? = some (.cells Cs ty fz)) (hs : Cs'.size = Cs.size) (hl : cs'.length = cs.length) (hcs : ∀ (i : Nat) v, cs'[i]? = some v → ∃ v', Cs'[x.o + i]? = some v' ∧ RV r v v') :
    RH P base r (h.set b (.cells cs' esz g false)) (w.setRow x.c Cs') := by
  obtain ⟨h1, h2, h3, h4, Cs0, ty0, fz0, h5, h6, h7, h8⟩ := hr.cells b x cs esz g false hx hb
  rw [h5] at hC; cases hC
  have other : ∀ n y, r n = some y → n ≠ b → (h.get n).live = true → y.c ≠ x.c := fun n y hy hn hlv => (hr.sep b n x y hx hy (Ne.symm hn) (by rw [hb]; rfl) hlv (by rw [hb]; rfl)).symm
  have lv : ∀ n, ((h.set b (.cells cs' esz g false)).get n).live = (h.get n).live := fun n => by
    by_cases hn : n = b
    · subst hn; rw [set_get_self, hb]; rfl
    · rw [set_get_ne _ _ hn]
  have wr : ∀ n, ((h.set b (.cells cs' esz g false)).get n).writable = (h.get n).writable := fun n => by
    by_cases hn : n = b
    · subst hn; rw [set_get_self, hb]; rfl
    · rw [set_get_ne _ _ hn]
  refine ⟨by rw [setRow_size]; exact hr.base_le, hr.dom, fun n hn hlv => hr.tot n hn (by rw [← lv]; exact hlv), fun n y ds e g' ro' hy hn => ?_, fun n y es hy hn => ?_, fun n n' y y' hy hy' hne k1 k2 k3 => ?_, hr.globs⟩
  · by_cases hnb : n = b
    · subst hnb
      rw [set_get_self] at hn; cases hn
      rw [hx] at hy; cases hy
      refine ⟨h1, by rw [hl]; exact h2, h3, h4, Cs', _, _, setRow_heap w _ _ _ _ _ h5, by rw [hs]; exact h6, hcs, fun k => ⟨(h8 rfl).1, fun i hi => ?_⟩⟩
      have := unfrozen_of h5 (h8 rfl).2 i (by omega)
      simpa only [World.frozen?, setRow_heap w _ _ _ _ _ h5] using this
    · rw [set_get_ne _ _ hnb] at hn
      obtain ⟨k1, k2, k3, k4, Cs1, ty1, fz1, k5, k6, k7, k8⟩ := hr.cells n y ds e g' ro' hy hn
      have hne := other n y hy hnb (by rw [hn]; rfl)
      refine ⟨k1, k2, k3, k4, Cs1, ty1, fz1, by rw [setRow_other _ _ _ _ hne]; exact k5, k6, k7, fun k => ⟨(k8 k).1, fun i hi => ?_⟩⟩
      rw [frozen_block (w := w) (setRow_other _ _ _ _ hne)]
      exact (k8 k).2 i hi
  · have hnb : n ≠ b := by rintro rfl; rw [set_get_self] at hn; cases hn
    rw [set_get_ne _ _ hnb] at hn
    obtain ⟨k0, Es, cl, k1, k2⟩ := hr.maps n y es hy hn
    exact ⟨k0, Es, cl, by rw [setRow_other _ _ _ _ (other n y hy hnb (by rw [hn]; rfl))]; exact k1, k2⟩
  · rw [lv] at k1 k2; rw [wr] at k3
    exact hr.sep n n' y y' hy hy' hne k1 k2 k3
end
end Go.Proofs.Ytlihmncbhaimkaa.Am
