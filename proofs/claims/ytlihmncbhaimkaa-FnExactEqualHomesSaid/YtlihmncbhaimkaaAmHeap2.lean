/- More of the heaps: a row that grows in place; maps. -/
import Derived.Test.YtlihmncbhaimkaaAmHeap
namespace Go.Proofs.Ytlihmncbhaimkaa.Am
open Go Go.RowKit

section
variable {P : Program} {base : Nat} {r : Ren} {h : Heap} {w : World}
/-- The model goes on in a row where the abstract machine makes a new one and strikes the old one. -/
theorem RH.growIn (hr : RH P base r h w) {b : Nat} {x : RB} {cs ds : List Value} {esz : Nat} (hx : r b = some x) (hb : h.get b = .cells cs esz true false) {Cs Cs' : Array Value} {ty : TypeId} {fz : Nat × Nat}
    (hC : w.heap[x.c]? = some (.cells Cs ty fz)) (hs : Cs'.size = Cs.size) (o : Nat) (hl : x.o + o + ds.length ≤ x.sz) (hcs : ∀ (i : Nat) v, ds[i]? = some v → ∃ v', Cs'[x.o + o + i]? = some v' ∧ RV r v v') :
    RH P base (r.put h.next ⟨x.c, x.o + o, x.sz, esz, ds.length, true⟩) ((h.kill b).push (.cells ds esz true false)) (w.setRow x.c Cs') := by
  obtain ⟨h1, h2, h3, h4, Cs0, ty0, fz0, h5, h6, h7, h8⟩ := hr.cells b x cs esz true false hx hb
  rw [h5] at hC; cases hC
  have hbn : b ≠ h.next := fun e => by have := hr.dom b x hx; omega
  have hle : Ren.le r (r.put h.next ⟨x.c, x.o + o, x.sz, esz, ds.length, true⟩) := Ren.le_put hr.none_next _
  have old : ∀ n y, n ≠ h.next → (r.put h.next ⟨x.c, x.o + o, x.sz, esz, ds.length, true⟩) n = some y → r n = some y := fun n y hn hy => by rwa [put_ne _ _ hn] at hy
  have gself : ((h.kill b).push (.cells ds esz true false)).get h.next = .cells ds esz true false := push_get_self (h.kill b) _
  have gne : ∀ n, n ≠ h.next → n ≠ b → ((h.kill b).push (.cells ds esz true false)).get n = h.get n := fun n k1 k2 => (push_get_ne (h.kill b) _ k1).trans (set_get_ne _ _ k2)
  have gb : ((h.kill b).push (.cells ds esz true false)).get b = .dead := (push_get_ne (h.kill b) _ hbn).trans (set_get_self _ _ _)
  have other : ∀ n y, r n = some y → n ≠ b → (h.get n).live = true → y.c ≠ x.c := fun n y hy hn hlv => (hr.sep b n x y hx hy (Ne.symm hn) (by rw [hb]; rfl) hlv (by rw [hb]; rfl)).symm
  refine ⟨by rw [setRow_size]; exact hr.base_le, fun n y hy => ?_, fun n hn hlv => ?_, fun n y es e g' ro' hy hn => ?_, fun n y es hy hn => ?_, fun n n' y y' hy hy' hne k1 k2 k3 => ?_, fun g hg => ?_⟩
  · by_cases hn : n = h.next
    · subst hn; show h.next < h.next + 1; omega
    · have := hr.dom n y (old n y hn hy); show n < h.next + 1; omega
  · by_cases hn' : n = h.next
    · subst hn'; exact ⟨_, Ren.put_self _ _ _⟩
    · by_cases hnb : n = b
      · subst hnb; rw [gb] at hlv; cases hlv
      · rw [gne n hn' hnb] at hlv
        obtain ⟨y, hy⟩ := hr.tot n (by have : n < h.next + 1 := hn; omega) hlv
        exact ⟨y, hle _ _ hy⟩
  · by_cases hn' : n = h.next
    · subst hn'
      rw [Ren.put_self] at hy; cases hy
      rw [gself] at hn; cases hn
      refine ⟨rfl, rfl, rfl, hl, Cs', _, _, setRow_heap w _ _ _ _ _ h5, by rw [hs]; exact h6, fun i v hv => ?_, fun k => ⟨(h8 rfl).1, fun i hi => ?_⟩⟩
      · obtain ⟨v', k1, k2⟩ := hcs i v hv
        exact ⟨v', k1, k2.mono hle⟩
      · have := unfrozen_of h5 (h8 rfl).2 i (by omega)
        simpa only [World.frozen?, setRow_heap w _ _ _ _ _ h5] using this
    · have hnb : n ≠ b := by rintro rfl; rw [gb] at hn; cases hn
      rw [gne n hn' hnb] at hn
      have hy' := old n y hn' hy
      obtain ⟨k1, k2, k3, k4, Cs1, ty1, fz1, k5, k6, k7, k8⟩ := hr.cells n y es e g' ro' hy' hn
      have hne := other n y hy' hnb (by rw [hn]; rfl)
      refine ⟨k1, k2, k3, k4, Cs1, ty1, fz1, by rw [setRow_other _ _ _ _ hne]; exact k5, k6, fun i v hv => ?_, fun k => ⟨(k8 k).1, fun i hi => ?_⟩⟩
      · obtain ⟨v', m1, m2⟩ := k7 i v hv
        exact ⟨v', m1, m2.mono hle⟩
      · rw [frozen_block (w := w) (setRow_other _ _ _ _ hne)]
        exact (k8 k).2 i hi
  · have hn' : n ≠ h.next := by rintro rfl; rw [gself] at hn; cases hn
    have hnb : n ≠ b := by rintro rfl; rw [gb] at hn; cases hn
    rw [gne n hn' hnb] at hn
    have hy' := old n y hn' hy
    obtain ⟨k0, Es, cl, k1, k2, k3⟩ := hr.maps n y es hy' hn
    exact ⟨k0, Es, cl, by rw [setRow_other _ _ _ _ (other n y hy' hnb (by rw [hn]; rfl))]; exact k1, k2, fun i e k v he hkv => ⟨(k3 i e k v he hkv).1.mono hle, (k3 i e k v he hkv).2.mono hle⟩⟩
  · have nb : ∀ m, (((h.kill b).push (.cells ds esz true false)).get m).live = true → m ≠ b := fun m hm e => by subst e; rw [gb] at hm; cases hm
    by_cases hn1 : n = h.next
    · subst hn1
      have hn2 : n' ≠ h.next := Ne.symm hne
      have hb2 := nb n' k2
      rw [Ren.put_self] at hy; cases hy
      rw [gne n' hn2 hb2] at k2
      exact (other n' y' (old n' y' hn2 hy') hb2 k2).symm
    · have hb1 := nb n k1
      rw [gne n hn1 hb1] at k1 k3
      have hy1 := old n y hn1 hy
      by_cases hn2 : n' = h.next
      · subst hn2
        rw [Ren.put_self] at hy'; cases hy'
        exact other n y hy1 hb1 k1
      · have hb2 := nb n' k2
        rw [gne n' hn2 hb2] at k2
        exact hr.sep n n' y y' hy1 (old n' y' hn2 hy') hne k1 k2 k3
  · obtain ⟨y, hy, m1, m2⟩ := hr.globs g hg
    exact ⟨y, hle _ _ hy, m1, m2⟩

theorem RH.ltl (hr : RH P base r h w) : ∀ b x, r b = some x → (h.get b).live = true → x.c < w.heap.size := fun b x hx hb => by
  cases hg : h.get b with
  | dead => rw [hg] at hb; cases hb
  | cells cs' e' g' ro' =>
    obtain ⟨_, _, _, _, Cs', ty', fz', h5, _⟩ := hr.cells b x cs' e' g' ro' hx hg
    exact (Array.getElem?_eq_some_iff.1 h5).1
  | map es =>
    obtain ⟨_, Es, cl, h5, _⟩ := hr.maps b x es hx hg
    exact (Array.getElem?_eq_some_iff.1 h5).1
theorem RH.newMap (hr : RH P base r h w) : RH P base (r.put h.next ⟨w.heap.size, 0, 0, 0, 0, false⟩) (h.push (.map [])) { w with heap := w.heap.push (.map #[] 0) } := by
  have hle : Ren.le r (r.put h.next ⟨w.heap.size, 0, 0, 0, 0, false⟩) := Ren.le_put hr.none_next _
  have old : ∀ b x, b ≠ h.next → (r.put h.next ⟨w.heap.size, 0, 0, 0, 0, false⟩) b = some x → r b = some x := fun b x hb hx => by rwa [put_ne _ _ hb] at hx
  refine ⟨by simp; exact Nat.le_trans hr.base_le (Nat.le_succ _), ?_, ?_, ?_, ?_, ?_, ?_⟩
  · intro b x hx
    by_cases hb : b = h.next
    · subst hb; simp [Heap.push]
    · have := hr.dom b x (old b x hb hx); simp [Heap.push]; omega
  · intro b hb hlv
    by_cases hn : b = h.next
    · subst hn; exact ⟨_, Ren.put_self _ _ _⟩
    · rw [push_get_ne _ _ hn] at hlv
      obtain ⟨x, hx⟩ := hr.tot b (by simp [Heap.push] at hb; omega) hlv
      exact ⟨x, hle _ _ hx⟩
  · intro b x cs' esz' g' ro' hx hb
    have hn : b ≠ h.next := by rintro rfl; rw [push_get_self] at hb; cases hb
    have hx' := old b x hn hx
    rw [push_get_ne _ _ hn] at hb
    obtain ⟨h1, h2, h3, h4, Cs', ty', fz', h5, h6, h7, h8⟩ := hr.cells b x cs' esz' g' ro' hx' hb
    refine ⟨h1, h2, h3, h4, Cs', ty', fz', alloc_old w _ h5, h6, fun i v hv => ?_, fun k => ⟨(h8 k).1, fun i hi => ?_⟩⟩
    · obtain ⟨v', k1, k2⟩ := h7 i v hv
      exact ⟨v', k1, k2.mono hle⟩
    · rw [frozen_block (w := w)]
      · exact (h8 k).2 i hi
      · exact (alloc_old w _ h5).trans h5.symm
  · intro b x es hx hb
    by_cases hn : b = h.next
    · subst hn
      rw [Ren.put_self] at hx; cases hx
      rw [push_get_self] at hb; cases hb
      exact ⟨hr.base_le, #[], 0, by simp, rfl, fun i e k v he => by simp at he⟩
    · have hx' := old b x hn hx
      rw [push_get_ne _ _ hn] at hb
      obtain ⟨h0, Es, clock, h1, h2, h3⟩ := hr.maps b x es hx' hb
      exact ⟨h0, Es, clock, alloc_old w _ h1, h2, fun i e k v he hkv => ⟨(h3 i e k v he hkv).1.mono hle, (h3 i e k v he hkv).2.mono hle⟩⟩
  · intro b b' x x' hx hx' hne hl1 hl2 hw1
    by_cases hb : b = h.next
    · subst hb
      have hb' : b' ≠ h.next := Ne.symm hne
      rw [Ren.put_self] at hx; cases hx
      rw [push_get_ne _ _ hb'] at hl2
      have := hr.ltl b' x' (old b' x' hb' hx') hl2
      show w.heap.size ≠ x'.c
      omega
    · rw [push_get_ne _ _ hb] at hl1 hw1
      by_cases hb' : b' = h.next
      · subst hb'
        rw [Ren.put_self] at hx'; cases hx'
        have := hr.ltl b x (old b x hb hx) hl1
        show x.c ≠ w.heap.size
        omega
      · rw [push_get_ne _ _ hb'] at hl2
        exact hr.sep b b' x x' (old b x hb hx) (old b' x' hb' hx') hne hl1 hl2 hw1
  · intro g hg
    obtain ⟨x, hx, h1, h2⟩ := hr.globs g hg
    exact ⟨x, hle _ _ hx, h1, h2⟩
theorem RH.mapSet (hr : RH P base r h w) {b : Nat} {x : RB} {es es' : List (Value × Value)} (hx : r b = some x) (hb : h.get b = .map es) (Es' : Array MapEntry) (clock' : Nat) (hl : Es'.size = es'.length)
    (hes : ∀ (i : Nat) (e : MapEntry) k v, Es'[i]? = some e → es'[i]? = some (k, v) → RV r k e.key ∧ RV r v e.val) :
    RH P base r (h.set b (.map es')) { w with heap := w.heap.setIfInBounds x.c (.map Es' clock') } := by
  obtain ⟨h0, Es, clock, h1, h2, h3⟩ := hr.maps b x es hx hb
  have hlt : x.c < w.heap.size := (Array.getElem?_eq_some_iff.1 h1).1
  have other : ∀ n y, r n = some y → n ≠ b → (h.get n).live = true → y.c ≠ x.c := fun n y hy hn hlv => (hr.sep b n x y hx hy (Ne.symm hn) (by rw [hb]; rfl) hlv (by rw [hb]; rfl)).symm
  have at_ne : ∀ k, k ≠ x.c → (w.heap.setIfInBounds x.c (.map Es' clock'))[k]? = w.heap[k]? := fun k hk => by rw [Array.getElem?_setIfInBounds, if_neg (Ne.symm hk)]
  have lv : ∀ n, ((h.set b (.map es')).get n).live = (h.get n).live := fun n => by
    by_cases hn : n = b
    · subst hn; rw [set_get_self, hb]; rfl
    · rw [set_get_ne _ _ hn]
  have wr : ∀ n, ((h.set b (.map es')).get n).writable = (h.get n).writable := fun n => by
    by_cases hn : n = b
    · subst hn; rw [set_get_self, hb]; rfl
    · rw [set_get_ne _ _ hn]
  refine ⟨by simpa using hr.base_le, hr.dom, fun n hn hlv => hr.tot n hn (by rw [← lv]; exact hlv), fun n y ds e g' ro' hy hn => ?_, fun n y ds hy hn => ?_, fun n n' y y' hy hy' hne k1 k2 k3 => ?_, hr.globs⟩
  · have hnb : n ≠ b := by rintro rfl; rw [set_get_self] at hn; cases hn
    rw [set_get_ne _ _ hnb] at hn
    obtain ⟨k1, k2, k3, k4, Cs1, ty1, fz1, k5, k6, k7, k8⟩ := hr.cells n y ds e g' ro' hy hn
    have hne := other n y hy hnb (by rw [hn]; rfl)
    refine ⟨k1, k2, k3, k4, Cs1, ty1, fz1, (at_ne _ hne).trans k5, k6, k7, fun k => ⟨(k8 k).1, fun i hi => ?_⟩⟩
    rw [frozen_block (w := w) (at_ne _ hne)]
    exact (k8 k).2 i hi
  · by_cases hnb : n = b
    · subst hnb
      rw [set_get_self] at hn; cases hn
      rw [hx] at hy; cases hy
      exact ⟨h0, Es', clock', by rw [Array.getElem?_setIfInBounds, if_pos rfl, if_pos hlt], hl, hes⟩
    · rw [set_get_ne _ _ hnb] at hn
      obtain ⟨k0, Es1, cl, k1, k2⟩ := hr.maps n y ds hy hn
      exact ⟨k0, Es1, cl, (at_ne _ (other n y hy hnb (by rw [hn]; rfl))).trans k1, k2⟩
  · rw [lv] at k1 k2; rw [wr] at k3
    exact hr.sep n n' y y' hy hy' hne k1 k2 k3
end
end Go.Proofs.Ytlihmncbhaimkaa.Am
