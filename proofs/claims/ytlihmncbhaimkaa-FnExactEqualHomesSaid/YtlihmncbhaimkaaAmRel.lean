/- The tie between the abstract machine's heap and the model's world: a renaming of blocks. -/
import Derived.Test.YtlihmncbhaimkaaAmDen
import Derived.Below
import Derived.Laws.CopyRow
namespace Go.Proofs.Ytlihmncbhaimkaa.Am
open Go Go.RowKit

/-- Where a block lies in the model: its block there, where it begins in it, how many cells that one has; of the abstract block: an element's cells, its length, does it stem from an append. -/
structure RB where
  c : Nat
  o : Nat
  sz : Nat
  esz : Nat
  len : Nat
  grow : Bool
abbrev Ren := Nat → Option RB
def Ren.le (r r' : Ren) : Prop := ∀ b x, r b = some x → r' b = some x
theorem Ren.le.refl (r : Ren) : Ren.le r r := fun _ _ h => h
theorem Ren.le.trans {a b c : Ren} (h : Ren.le a b) (k : Ren.le b c) : Ren.le a c := fun x y hx => k x y (h x y hx)
def Ren.put (r : Ren) (b : Nat) (x : RB) : Ren := fun n => if n = b then some x else r n
theorem Ren.le_put {r : Ren} {b : Nat} (h : r b = none) (x : RB) : Ren.le r (r.put b x) := fun n y hy => by
  unfold Ren.put
  split
  · rename_i e; subst e; rw [h] at hy; cases hy
  · exact hy
theorem Ren.put_self (r : Ren) (b : Nat) (x : RB) : (r.put b x) b = some x := by simp [Ren.put]

inductive RV (r : Ren) : Value → Value → Prop
  | bool (b : Bool) : RV r (.bool b) (.bool b)
  | int (k : IntKind) (n : Int) : RV r (.int k n) (.int k n)
  | string (s : ByteArray) : RV r (.string s) (.string s)
  | nilPtr : RV r (.pointer none) (.pointer none)
  | ptr (b i : Nat) (x : RB) : r b = some x → RV r (.pointer (some ⟨b, i, none⟩)) (.pointer (some ⟨x.c, x.o + i, none⟩))
  | nilSlice : RV r (.slice none 0 0) (.slice none 0 0)
  | slice (b o n c1 c2 : Nat) (a : Addr) (x : RB) : r b = some x → n ≤ c1 → c1 ≤ c2 → (c2 ≠ 0 → a = ⟨x.c, x.o + o, none⟩) →
      (c1 = c2 ∨ (x.grow = true ∧ o + c1 * x.esz = x.len ∧ x.o + o + c2 * x.esz ≤ x.sz)) →
      RV r (.slice (some ⟨b, o, none⟩) n c1) (.slice (some a) n c2)
  | nilMap : RV r (.map none) (.map none)
  | map (b : Nat) (x : RB) : r b = some x → RV r (.map (some b)) (.map (some x.c))
  | func (fn : Fn) (xs ys xs' ys' : Array Value) : xs.size = xs'.size → ys.size = ys'.size → (∀ (i : Nat) v v', xs[i]? = some v → xs'[i]? = some v' → RV r v v') → (∀ (i : Nat) v v', ys[i]? = some v → ys'[i]? = some v' → RV r v v') →
      RV r (.func fn xs ys) (.func fn xs' ys')
  | nilFunc : RV r .nilFunc .nilFunc
  | iface (t : TypeId) (v v' : Value) : RV r v v' → RV r (.iface t v) (.iface t v')
  | nilIface : RV r .nilIface .nilIface
  | agg (xs ys : Array Value) : xs.size = ys.size → (∀ (i : Nat) v v', xs[i]? = some v → ys[i]? = some v' → RV r v v') → RV r (.agg xs) (.agg ys)
  | tuple (xs ys : Array Value) : xs.size = ys.size → (∀ (i : Nat) v v', xs[i]? = some v → ys[i]? = some v' → RV r v v') → RV r (.tuple xs) (.tuple ys)

/-- Lists of related values. -/
def RL (r : Ren) (l l' : List Value) : Prop := l.length = l'.length ∧ ∀ (i : Nat) v v', l[i]? = some v → l'[i]? = some v' → RV r v v'
theorem RL.nil (r : Ren) : RL r [] [] := ⟨rfl, by simp⟩
theorem RL.cons {r : Ren} {v v' : Value} {l l' : List Value} (h : RV r v v') (k : RL r l l') : RL r (v :: l) (v' :: l') := by
  refine ⟨by simp [k.1], fun i u u' hu hu' => ?_⟩
  cases i with
  | zero => simp at hu hu'; subst hu; subst hu'; exact h
  | succ i => simp at hu hu'; exact k.2 i u u' hu hu'
theorem RL.head {r : Ren} {v v' : Value} {l l' : List Value} (h : RL r (v :: l) (v' :: l')) : RV r v v' := h.2 0 _ _ rfl rfl
theorem RL.tail {r : Ren} {v v' : Value} {l l' : List Value} (h : RL r (v :: l) (v' :: l')) : RL r l l' := ⟨by simpa using h.1, fun i u u' hu hu' => h.2 (i + 1) u u' (by simpa using hu) (by simpa using hu')⟩
theorem RL.cons_inv {r : Ren} {v : Value} {l k : List Value} (h : RL r (v :: l) k) : ∃ v' l', k = v' :: l' ∧ RV r v v' ∧ RL r l l' := by
  cases k with
  | nil => have := h.1; simp at this
  | cons v' l' => exact ⟨v', l', rfl, h.head, h.tail⟩
theorem RL.nil_inv {r : Ren} {k : List Value} (h : RL r [] k) : k = [] := by
  have := h.1
  simp at this
  exact List.eq_nil_of_length_eq_zero this.symm
theorem RL.append {r : Ren} {l l' k k' : List Value} (h : RL r l l') (g : RL r k k') : RL r (l ++ k) (l' ++ k') := by
  refine ⟨by simp [h.1, g.1], fun i u u' hu hu' => ?_⟩
  rw [List.getElem?_append] at hu hu'
  rw [← h.1] at hu'
  split at hu
  · rename_i hi; rw [if_pos hi] at hu'; exact h.2 _ _ _ hu hu'
  · rename_i hi; rw [if_neg hi] at hu'; exact g.2 _ _ _ hu hu'
theorem RL.get {r : Ren} {l l' : List Value} (h : RL r l l') {i : Nat} {v : Value} (hv : l[i]? = some v) : ∃ v', l'[i]? = some v' ∧ RV r v v' := by
  have hi : i < l.length := (List.getElem?_eq_some_iff.1 hv).1
  refine ⟨l'[i]'(by rw [← h.1]; exact hi), by simp [h.1 ▸ hi], h.2 i v _ hv (by simp [h.1 ▸ hi])⟩
theorem RL.drop {r : Ren} {l l' : List Value} (h : RL r l l') (n : Nat) : RL r (l.drop n) (l'.drop n) :=
  ⟨by simp [h.1], fun i u u' hu hu' => h.2 (n + i) u u' (by simpa using hu) (by simpa using hu')⟩
theorem RL.take {r : Ren} {l l' : List Value} (h : RL r l l') (n : Nat) : RL r (l.take n) (l'.take n) := by
  refine ⟨by simp [h.1], fun i u u' hu hu' => ?_⟩
  rw [List.getElem?_take] at hu hu'
  split at hu
  · rename_i hi; rw [if_pos hi] at hu'; exact h.2 _ _ _ hu hu'
  · cases hu
theorem RL.set {r : Ren} {l l' : List Value} (h : RL r l l') (i : Nat) {v v' : Value} (hv : RV r v v') : RL r (l.set i v) (l'.set i v') := by
  refine ⟨by simp [h.1], fun j u u' hu hu' => ?_⟩
  rw [List.getElem?_set] at hu hu'
  split at hu
  · rename_i e
    rw [if_pos e] at hu'
    split at hu
    · split at hu'
      · cases hu; cases hu'; exact hv
      · cases hu'
    · cases hu
  · rename_i e
    rw [if_neg e] at hu'
    exact h.2 _ _ _ hu hu'
theorem RL.of_array {r : Ren} {xs ys : Array Value} (hs : xs.size = ys.size) (h : ∀ (i : Nat) v v', xs[i]? = some v → ys[i]? = some v' → RV r v v') : RL r xs.toList ys.toList :=
  ⟨by simpa using hs, fun i v v' hv hv' => h i v v' (by simpa using hv) (by simpa using hv')⟩
theorem RL.size {r : Ren} {xs ys : Array Value} (h : RL r xs.toList ys.toList) : xs.size = ys.size := by simpa using h.1
theorem RL.arr {r : Ren} {xs ys : Array Value} (h : RL r xs.toList ys.toList) (i : Nat) (v v' : Value) (hv : xs[i]? = some v) (hv' : ys[i]? = some v') : RV r v v' := h.2 i v v' (by simpa using hv) (by simpa using hv')
theorem RV.of_agg {r : Ren} {l l' : List Value} (h : RL r l l') : RV r (.agg l.toArray) (.agg l'.toArray) := .agg _ _ (by simpa using h.1) fun i v v' hv hv' => h.2 i v v' (by simpa using hv) (by simpa using hv')
theorem RV.of_tuple {r : Ren} {l l' : List Value} (h : RL r l l') : RV r (.tuple l.toArray) (.tuple l'.toArray) := .tuple _ _ (by simpa using h.1) fun i v v' hv hv' => h.2 i v v' (by simpa using hv) (by simpa using hv')

theorem RV.mono {r r' : Ren} (h : Ren.le r r') {v v' : Value} (k : RV r v v') : RV r' v v' := by
  induction k with
  | bool b => exact .bool b
  | int k n => exact .int k n
  | string s => exact .string s
  | nilPtr => exact .nilPtr
  | ptr b i x hx => exact .ptr b i x (h _ _ hx)
  | nilSlice => exact .nilSlice
  | slice b o n c1 c2 a x hx h1 h2 h3 h4 => exact .slice b o n c1 c2 a x (h _ _ hx) h1 h2 h3 h4
  | nilMap => exact .nilMap
  | map b x hx => exact .map b x (h _ _ hx)
  | func fn xs ys xs' ys' h1 h2 _ _ i1 i2 => exact .func fn xs ys xs' ys' h1 h2 i1 i2
  | nilFunc => exact .nilFunc
  | iface t v v' _ ih => exact .iface t v v' ih
  | nilIface => exact .nilIface
  | agg xs ys h1 _ ih => exact .agg xs ys h1 ih
  | tuple xs ys h1 _ ih => exact .tuple xs ys h1 ih
theorem RL.mono {r r' : Ren} (h : Ren.le r r') {l l' : List Value} (k : RL r l l') : RL r' l l' := ⟨k.1, fun i v v' hv hv' => (k.2 i v v' hv hv').mono h⟩

/-- A value that names no place is related to itself. -/
theorem RV.closed {r : Ren} : ∀ (n : Nat) (v : Value), closedV n v = true → RV r v v
  | n, v, h => by
    unfold closedV at h
    split at h
    · exact .bool _
    · exact .int _ _
    · exact .string _
    · exact .nilPtr
    · exact .nilSlice
    · exact .nilMap
    · exact .nilFunc
    · exact .nilIface
    · rename_i m cs
      refine .agg cs cs rfl fun i u u' hu hu' => ?_
      rw [hu] at hu'
      cases hu'
      rw [List.all_eq_true] at h
      exact RV.closed m u (h u (by rw [← Array.getElem?_toList] at hu; exact List.mem_of_getElem? hu))
    · rename_i f fs cs
      simp only [Bool.and_eq_true, List.isEmpty_iff] at h
      obtain ⟨h1, h2⟩ := h
      refine .func _ _ _ _ _ rfl rfl (fun i u u' hu _ => ?_) (fun i u u' hu _ => ?_)
      · rw [← Array.getElem?_toList, h1] at hu; cases hu
      · rw [← Array.getElem?_toList, h2] at hu; cases hu
    · cases h
theorem RV.agg_inv {r : Ren} {xs : Array Value} {v : Value} (h : RV r (.agg xs) v) : ∃ ys, v = .agg ys ∧ RL r xs.toList ys.toList := by
  cases h with
  | agg _ ys h1 h2 => exact ⟨ys, rfl, RL.of_array h1 h2⟩
theorem RL.closed {r : Ren} {v : Value} {n : Nat} (h : closedV n v = true) : RL r v.cells.toList v.cells.toList := by
  have hr := RV.closed (r := r) n v h
  cases v <;> first
    | (obtain ⟨ys, e, hl⟩ := RV.agg_inv hr; cases e; exact hl)
    | exact RL.cons hr (RL.nil r)

/-! ### The heap -/
def Blk.live : Blk → Bool
  | .dead => false
  | _ => true
def Blk.writable : Blk → Bool
  | .cells _ _ _ ro => !ro
  | .map _ => true
  | .dead => false

structure RH (P : Program) (base : Nat) (r : Ren) (h : Heap) (w : World) : Prop where
  base_le : base ≤ w.heap.size
  dom : ∀ b x, r b = some x → b < h.next
  tot : ∀ b, b < h.next → (h.get b).live = true → ∃ x, r b = some x
  cells : ∀ b x cs esz g ro, r b = some x → h.get b = .cells cs esz g ro → x.esz = esz ∧ x.len = cs.length ∧ x.grow = g ∧ x.o + x.len ≤ x.sz ∧
    ∃ Cs ty fz, w.heap[x.c]? = some (.cells Cs ty fz) ∧ Cs.size = x.sz ∧ (∀ i v, cs[i]? = some v → ∃ v', Cs[x.o + i]? = some v' ∧ RV r v v') ∧
      (ro = false → base ≤ x.c ∧ ∀ i, i < Cs.size → w.frozen? ⟨x.c, i, none⟩ = false)
  maps : ∀ b x es, r b = some x → h.get b = .map es → base ≤ x.c ∧ ∃ Es clock, w.heap[x.c]? = some (.map Es clock) ∧ Es.size = es.length ∧
    ∀ (i : Nat) (e : MapEntry) k v, Es[i]? = some e → es[i]? = some (k, v) → RV r k e.key ∧ RV r v e.val
  sep : ∀ b b' x x', r b = some x → r b' = some x' → b ≠ b' → (h.get b).live = true → (h.get b').live = true → (h.get b).writable = true → x.c ≠ x'.c
  globs : ∀ g, g < P.globals.size → ∃ x, r g = some x ∧ x.c = g ∧ x.o = 0
end Go.Proofs.Ytlihmncbhaimkaa.Am
