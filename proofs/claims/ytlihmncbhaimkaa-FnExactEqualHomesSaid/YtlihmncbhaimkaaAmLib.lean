/- Laws for proofs about bodies: words, heaps, slices. -/
import Derived.Test.YtlihmncbhaimkaaAmWp
namespace Go.Proofs.Ytlihmncbhaimkaa.Am
open Go Go.RowKit

/-! ### Words -/
theorem Bnd_some {α : Type} (v : α) (K : α → Prop) : Bnd (some v) K = K v := propext ⟨fun ⟨_, e, k⟩ => by cases e; exact k, fun k => ⟨v, rfl, k⟩⟩
theorem Res_some (v : Value) (h : Heap) (K : Value → Heap → Prop) : Res (some (v, h)) K = K v h := propext ⟨fun ⟨_, _, e, k⟩ => by cases e; exact k, fun k => ⟨v, h, rfl, k⟩⟩
theorem OnB_bool (t : Bool) (K : Bool → Prop) : OnB (.bool t) K = K t := propext ⟨fun ⟨_, e, k⟩ => by cases e; exact k, fun k => ⟨t, rfl, k⟩⟩
theorem Br_dec (p : Prop) [Decidable p] (A B : Prop) : Br (decide p) A B = ((p → A) ∧ (¬p → B)) := by
  unfold Br
  simp only [decide_eq_true_eq, decide_eq_false_iff_not]
theorem Br_not (t : Bool) (A B : Prop) : Br (!t) A B = Br t B A := by
  unfold Br
  cases t <;> simp
theorem Br_true (A B : Prop) : Br true A B = A := by simp [Br]
theorem Br_false (A B : Prop) : Br false A B = B := by simp [Br]
theorem Res.mono {o : Option (Value × Heap)} {K K' : Value → Heap → Prop} (r : Res o K) (h : ∀ v h, K v h → K' v h) : Res o K' := by
  obtain ⟨v, h1, e, k⟩ := r
  exact ⟨v, h1, e, h v h1 k⟩
theorem Bnd.of {α : Type} {o : Option α} {v : α} {K : α → Prop} (e : o = some v) (k : K v) : Bnd o K := ⟨v, e, k⟩

/-! ### Numbers -/
theorem wrap_in {n : Int} (h0 : -9223372036854775808 ≤ n) (h1 : n < 9223372036854775808) : IntKind.i64.wrap n = n := by
  have e : IntKind.i64.wrap n = if n % 18446744073709551616 ≥ 9223372036854775808 then n % 18446744073709551616 - 18446744073709551616 else n % 18446744073709551616 := by
    simp [IntKind.wrap, IntKind.signed, IntKind.bits]
  rw [e]
  split <;> omega
section
variable {P : Program}
theorem b_add (t : TypeId) (k : IntKind) (a b : Int) : binA P .add t (.int k a) (.int k b) = some (.int k (k.wrap (a + b))) := by simp [binA, intOp]
theorem b_sub (t : TypeId) (k : IntKind) (a b : Int) : binA P .sub t (.int k a) (.int k b) = some (.int k (k.wrap (a - b))) := by simp [binA, intOp]
theorem b_lss (t : TypeId) (k : IntKind) (a b : Int) : binA P .lss t (.int k a) (.int k b) = some (.bool (decide (a < b))) := by simp [binA, intOp]
theorem b_leq (t : TypeId) (k : IntKind) (a b : Int) : binA P .leq t (.int k a) (.int k b) = some (.bool (decide (a ≤ b))) := by simp [binA, intOp]
theorem b_gtr (t : TypeId) (k : IntKind) (a b : Int) : binA P .gtr t (.int k a) (.int k b) = some (.bool (decide (b < a))) := by simp [binA, intOp]
theorem b_geq (t : TypeId) (k : IntKind) (a b : Int) : binA P .geq t (.int k a) (.int k b) = some (.bool (decide (b ≤ a))) := by simp [binA, intOp]
theorem b_eql (t : TypeId) (k : IntKind) (a b : Int) : binA P .eql t (.int k a) (.int k b) = some (.bool (decide (a = b))) := by simp [binA, intOp]; rfl
theorem b_neq (t : TypeId) (k : IntKind) (a b : Int) : binA P .neq t (.int k a) (.int k b) = some (.bool (!decide (a = b))) := by simp [binA, intOp]; rfl
theorem u_not (b : Bool) : unA .not (.bool b) = some (.bool (!b)) := rfl
end

/-! ### Heaps -/
theorem get_push_self (h : Heap) (x : Blk) : (h.push x).get h.next = x := by simp [Heap.push]
theorem get_push_lt {h : Heap} {x : Blk} {b : Nat} (hb : b < h.next) : (h.push x).get b = h.get b := by
  show (if b = h.next then x else h.get b) = _
  rw [if_neg (by omega)]
theorem next_push (h : Heap) (x : Blk) : (h.push x).next = h.next + 1 := rfl
theorem get_set_self (h : Heap) (b : Nat) (x : Blk) : (h.set b x).get b = x := by simp [Heap.set]
theorem get_set_ne {h : Heap} {b c : Nat} {x : Blk} (hb : c ≠ b) : (h.set b x).get c = h.get c := by
  show (if c = b then x else h.get c) = _
  rw [if_neg hb]
theorem next_set (h : Heap) (b : Nat) (x : Blk) : (h.set b x).next = h.next := rfl
/-- Nothing older has turned. -/
structure Ext (h h' : Heap) : Prop where
  le : h.next ≤ h'.next
  same : ∀ b, b < h.next → h'.get b = h.get b
theorem Ext.refl (h : Heap) : Ext h h := ⟨Nat.le_refl _, fun _ _ => rfl⟩
theorem Ext.trans {a b c : Heap} (x : Ext a b) (y : Ext b c) : Ext a c := ⟨Nat.le_trans x.le y.le, fun n hn => (y.same n (Nat.lt_of_lt_of_le hn x.le)).trans (x.same n hn)⟩
theorem Ext.push {a h : Heap} (x : Ext a h) (o : Blk) : Ext a (h.push o) := x.trans ⟨by simp [next_push], fun _ hb => get_push_lt hb⟩
theorem Ext.set {a h : Heap} (x : Ext a h) {b : Nat} (hb : a.next ≤ b) (o : Blk) : Ext a (h.set b o) := ⟨x.le, fun n hn => (get_set_ne (by omega)).trans (x.same n hn)⟩

/-! ### Slices -/
/-- A slice that reads as a list; 'R' tells what an element's cells read as. -/
def RdSl {α : Type} (n : Nat) (R : Heap → List Value → α → Prop) (h : Heap) (v : Value) (l : List α) : Prop :=
  (∃ a, v = .slice a 0 0 ∧ l = []) ∨ ∃ b o c cs s g ro, v = .slice (some ⟨b, o, none⟩) l.length c ∧ b < h.next ∧ h.get b = .cells cs s g ro ∧ l.length ≤ c ∧ c ≤ 140737488355328 ∧ o + c * n ≤ cs.length ∧
    ∀ (i : Nat) x, l[i]? = some x → R h ((cs.drop (o + i * n)).take n) x
theorem RdSl.ext {α : Type} {n : Nat} {R : Heap → List Value → α → Prop} (hR : ∀ h h' cs x, Ext h h' → R h cs x → R h' cs x) {h h' : Heap} (e : Ext h h') {v : Value} {l : List α} (r : RdSl n R h v l) : RdSl n R h' v l := by
  rcases r with r | ⟨b, o, c, cs, s, g, ro, h1, h2, h3, h4, h5, h6, h7⟩
  · exact .inl r
  · exact .inr ⟨b, o, c, cs, s, g, ro, h1, Nat.lt_of_lt_of_le h2 e.le, by rw [e.same b h2]; exact h3, h4, h5, h6, fun i x hx => hR h h' _ _ e (h7 i x hx)⟩
section
variable {P : Program} {α : Type} {n : Nat} {R : Heap → List Value → α → Prop} {h : Heap} {v : Value} {l : List α} {t e : TypeId}
theorem RdSl.len (ht : P.underlying t = some (.slice e)) (r : RdSl n R h v l) (h' : Heap) : lenA P t v h' = some (.int .i64 l.length) := by
  rcases r with ⟨a, rfl, rfl⟩ | ⟨b, o, c, cs, s, g, ro, rfl, h2, h3, h4, h5, h6, h7⟩
  · simp [lenA, ht]
  · simp [lenA, ht]
theorem RdSl.bound (r : RdSl n R h v l) : l.length ≤ 140737488355328 := by
  rcases r with ⟨a, rfl, rfl⟩ | ⟨b, o, c, cs, s, g, ro, rfl, h2, h3, h4, h5, h6, h7⟩
  · simp
  · omega
/-- An element: its place and its cells. -/
theorem RdSl.at (ht : P.underlying t = some (.slice e)) (he : (P.info? e).isSome = true) (hs : sz P e = n) (r : RdSl n R h v l) {i : Int} {k : IntKind} (h0 : 0 ≤ i) {x : α} (hx : l[i.toNat]? = some x) :
    ∃ b o cs, indexAddrA P t v (.int k i) = some (ptr b o) ∧ b < h.next ∧ loadC h b o n = some cs ∧ R h cs x := by
  rcases r with ⟨a, rfl, rfl⟩ | ⟨b, o, c, cs, s, g, ro, rfl, h2, h3, h4, h5, h6, h7⟩
  · simp at hx
  · have hlt : i.toNat < l.length := (List.getElem?_eq_some_iff.1 hx).1
    have hm : i.toNat * n + n ≤ c * n := by
      have := Nat.mul_le_mul_right n (show i.toNat + 1 ≤ c by omega)
      rwa [Nat.add_mul, Nat.one_mul] at this
    refine ⟨b, o + i.toNat * n, (cs.drop (o + i.toNat * n)).take n, ?_, h2, ?_, h7 _ _ hx⟩
    · simp only [indexAddrA, ht, he, hs, true_and]
      rw [if_pos ⟨h0, by omega⟩]
      rfl
    · unfold loadC
      rw [h3]
      simp only [rdCells]
      rw [if_pos (by omega)]
end

/-! ### Rows of cells -/
theorem wrCells_eq : ∀ (vs cs : List Value) (i : Nat), i + vs.length ≤ cs.length → wrCells cs i vs = cs.take i ++ vs ++ cs.drop (i + vs.length)
  | [], cs, i, _ => by simp [wrCells]
  | v :: vs, cs, i, h => by
    simp only [List.length_cons] at h
    unfold wrCells
    rw [wrCells_eq vs (cs.set i v) (i + 1) (by simp; omega)]
    have e1 : (cs.set i v).take (i + 1) = cs.take i ++ [v] := by
      rw [List.take_add_one, List.take_set_of_le (Nat.le_refl i)]
      simp [show i < cs.length by omega]
    have e2 : (cs.set i v).drop (i + 1 + vs.length) = cs.drop (i + (v :: vs).length) := by
      rw [List.drop_set_of_lt (by omega)]
      simp only [List.length_cons]
      congr 1
      omega
    rw [e1, e2]
    simp
theorem wrCells_app {xs ys vs : List Value} {i : Nat} (hi : i = xs.length) (h : vs.length ≤ ys.length) : wrCells (xs ++ ys) i vs = xs ++ vs ++ ys.drop vs.length := by
  subst hi
  rw [wrCells_eq _ _ _ (by simp; omega)]
  simp [List.drop_append]
section
variable {α : Type} {f : α → List Value} {n : Nat}
theorem flat_len (hf : ∀ x, (f x).length = n) : ∀ (l : List α), (l.flatMap f).length = l.length * n
  | [] => by simp
  | x :: l => by simp only [List.flatMap_cons, List.length_append, hf, flat_len hf l, List.length_cons, Nat.add_mul, Nat.one_mul]; omega
theorem flat_at (hf : ∀ x, (f x).length = n) : ∀ (l : List α) (i : Nat) (x : α) (rest : List Value), l[i]? = some x → ((l.flatMap f ++ rest).drop (i * n)).take n = f x
  | [], i, x, _, h => by simp at h
  | y :: l, 0, x, rest, h => by
    simp at h
    subst h
    simp only [List.flatMap_cons, Nat.zero_mul, List.drop_zero, List.append_assoc]
    rw [List.take_append_of_le_length (by rw [hf]; omega), List.take_of_length_le (by rw [hf]; omega)]
  | y :: l, i + 1, x, rest, h => by
    simp only [List.getElem?_cons_succ] at h
    rw [← flat_at hf l i x rest h]
    simp only [List.flatMap_cons, List.append_assoc]
    have e : (i + 1) * n = (f y).length + i * n := by rw [hf, Nat.add_mul, Nat.one_mul]; omega
    rw [e, List.drop_append, Nat.add_sub_cancel_left, List.drop_eq_nil_of_le (by omega)]
    simp
theorem reps_len (m : Nat) (z : List Value) : (reps m z).length = m * z.length := by
  unfold reps
  simp [List.length_flatten]
theorem reps_drop (m : Nat) (z : List Value) : (reps (m + 1) z).drop z.length = reps m z := by
  unfold reps
  rw [List.replicate_succ, List.flatten_cons, List.drop_append]
  simp
end

/-! ### Places -/
theorem at_slice {P : Program} {t e : TypeId} {n : Nat} (ht : P.underlying t = some (.slice e)) (he : (P.info? e).isSome = true) (hs : sz P e = n) {k : IntKind} {i : Int} {b o len c : Nat} (h0 : 0 ≤ i) (h1 : i < len) :
    indexAddrA P t (.slice (some ⟨b, o, none⟩) len c) (.int k i) = some (ptr b (o + i.toNat * n)) := by
  simp only [indexAddrA, ht, he, hs, true_and]
  rw [if_pos ⟨h0, h1⟩]
  rfl
theorem st_cells {h : Heap} {b i s : Nat} {g : Bool} {cs vs : List Value} (e : h.get b = .cells cs s g false) (hi : i + vs.length ≤ cs.length) (hv : vs.all isOne = true) : storeC h b i vs = some (h.set b (.cells (wrCells cs i vs) s g false)) := by
  unfold storeC
  rw [e]
  simp only [Bool.false_eq_true, if_false]
  rw [if_pos hi, if_pos hv]
end Go.Proofs.Ytlihmncbhaimkaa.Am
