/- A region that draws its order, second part: the orders. -/
import Derived.Test.YtlihmncbhaimkaaAmDraw
namespace Go.Proofs.Ytlihmncbhaimkaa.Am
open Go Go.RowKit

/-! ### What stands before what -/
def befStep (acc : Array Nat) (o : Oper) : Nat := o.after.foldl (fun s e => if Region.binds .any e then s ||| 2 ^ e.on ||| acc.getD e.on 0 else s) 0
theorem befStep_bit (acc : Array Nat) (o : Oper) (i : Nat) : (befStep acc o).testBit i = true → ∃ ed ∈ o.after.toList, Region.binds .any ed = true ∧ (i = ed.on ∨ (acc.getD ed.on 0).testBit i = true) := by
  unfold befStep
  rw [← Array.foldl_toList]
  have key : ∀ (l : List Edge) (s : Nat), (l.foldl (fun s e => if Region.binds .any e then s ||| 2 ^ e.on ||| acc.getD e.on 0 else s) s).testBit i = true → s.testBit i = true ∨ ∃ ed ∈ l, Region.binds .any ed = true ∧ (i = ed.on ∨ (acc.getD ed.on 0).testBit i = true) := by
    intro l
    induction l with
    | nil => intro s h; exact .inl h
    | cons x l ih =>
      intro s h
      simp only [List.foldl_cons] at h
      rcases ih _ h with h | ⟨ed, h1, h2⟩
      · split at h
        · rename_i hb
          simp only [Nat.testBit_or, Bool.or_eq_true] at h
          rcases h with (h | h) | h
          · exact .inl h
          · refine .inr ⟨x, by simp, hb, .inl ?_⟩
            rw [Nat.testBit_two_pow] at h
            have : x.on = i := by simpa using h
            exact this.symm
          · exact .inr ⟨x, by simp, hb, .inr h⟩
        · exact .inl h
      · exact .inr ⟨ed, by simp [h1], h2⟩
  intro h
  rcases key _ _ h with h | h
  · simp at h
  · exact h
theorem before_go (ops : List Oper) : ∀ (acc : Array Nat), ∃ l : List Nat, (ops.foldl (fun acc o => acc.push (befStep acc o)) acc).toList = acc.toList ++ l ∧ l.length = ops.length ∧
    ∀ (j : Nat) o, ops[j]? = some o → ∃ acc', (∃ m, acc'.toList = acc.toList ++ l.take m ∧ m = j) ∧ l[j]? = some (befStep acc' o) := by
  induction ops with
  | nil => intro acc; exact ⟨[], by simp, rfl, fun j o h => by simp at h⟩
  | cons x ops ih =>
    intro acc
    obtain ⟨l, h1, h2, h3⟩ := ih (acc.push (befStep acc x))
    refine ⟨befStep acc x :: l, by simpa using h1, by simp [h2], fun j o ho => ?_⟩
    cases j with
    | zero => simp at ho; subst ho; exact ⟨acc, ⟨0, by simp, rfl⟩, rfl⟩
    | succ j =>
      simp at ho
      obtain ⟨acc', ⟨m, e1, e2⟩, e3⟩ := h3 j o ho
      exact ⟨acc', ⟨m + 1, by simp [e1], by omega⟩, by simpa using e3⟩
theorem before_eq (ops : Array Oper) : Region.before ops = ops.toList.foldl (fun acc o => acc.push (befStep acc o)) #[] := by
  unfold Region.before
  rw [← Array.foldl_toList]
  rfl
/-- One operation stands before another one only over edges. -/
theorem ordered_edge {ops : List Oper} {b : List Nat} (hb : b = (Region.before ops.toArray).toList) {i j : Nat} {o : Oper} (ho : ops[j]? = some o) (hlt : ∀ ed ∈ o.after.toList, Region.binds .any ed = true → ed.on < j) (h : ordered b i j = true) :
    ∃ ed ∈ o.after.toList, Region.binds .any ed = true ∧ (i = ed.on ∨ ordered b i ed.on = true) := by
  rw [before_eq] at hb
  obtain ⟨l, h1, h2, h3⟩ := before_go ops #[]
  have e0 : (ops.toArray).toList = ops := rfl
  rw [e0] at hb
  have hbl : b = l := by rw [hb]; simpa using h1
  subst hbl
  obtain ⟨acc', ⟨m, e1, e2⟩, e3⟩ := h3 j o ho
  subst e2
  unfold ordered at h ⊢
  have : b.getD m 0 = befStep acc' o := by simp [List.getD, e3]
  rw [this] at h
  obtain ⟨ed, k1, k2, k3⟩ := befStep_bit acc' o i h
  refine ⟨ed, k1, k2, ?_⟩
  rcases k3 with k3 | k3
  · exact .inl k3
  · right
    have hed := hlt ed k1 k2
    have e4 : acc'.getD ed.on 0 = b.getD ed.on 0 := by
      have : acc'.toList = b.take m := by simpa using e1
      rw [Array.getD_eq_getD_getElem?, ← Array.getElem?_toList, this, List.getElem?_take, if_pos hed]
      rfl
    rw [← e4]
    exact k3
/-- What is closed under the edges is closed under 'before'. -/
theorem closed_ordered {ops : List Oper} {b : List Nat} (hb : b = (Region.before ops.toArray).toList) (hlt : ∀ (j : Nat) o, ops[j]? = some o → ∀ ed ∈ o.after.toList, Region.binds .any ed = true → ed.on < j) {L : Nat → Prop} (hL : ∀ (j : Nat) o, L j → ops[j]? = some o → ∀ ed ∈ o.after.toList, Region.binds .any ed = true → L ed.on) (hin : ∀ j, L j → j < ops.length) :
    ∀ (j : Nat), L j → ∀ i, ordered b i j = true → L i := by
  intro j
  induction j using Nat.strongRecOn with
  | _ j ih =>
    intro hj i hij
    have hjl := hin j hj
    have ho : ops[j]? = some ops[j] := by simp [hjl]
    obtain ⟨ed, k1, k2, k3⟩ := ordered_edge hb ho (hlt j _ ho) hij
    have hLe := hL j _ hj ho ed k1 k2
    rcases k3 with k3 | k3
    · subst k3; exact hLe
    · exact ih ed.on (hlt j _ ho ed k1 k2) hLe i k3

/-! ### The state behind a set of operations -/
section
variable (ops : List Oper) (V : Nat → Value) (Hh : Nat → Heap)
def envU (e0 : Env) (L : Nat → Bool) : Nat → Env
  | 0 => e0
  | k + 1 => if L k then upd (envU e0 L k) ((ops[k]?).bind (·.dst)) (some (V k)) else envU e0 L k
def heapU (L : Nat → Bool) : Nat → Heap
  | 0 => Hh 0
  | k + 1 => if L k && ((ops[k]?).map isChain).getD false then Hh (k + 1) else heapU L k
end
section
variable {ops : List Oper} {V : Nat → Value} {Hh : Nat → Heap} {e0 : Env}
theorem upd_ne {e : Env} {d : Option Nat} {v : Option Value} {t : Nat} (h : d ≠ some t) : upd e d v t = e t := by
  unfold upd
  split
  · rfl
  · rename_i d
    show (if t = d then v else e t) = e t
    rw [if_neg (fun e => h (by rw [e]))]
theorem upd_eq {e : Env} {v : Option Value} {t : Nat} : upd e (some t) v t = v := by simp [upd]
theorem envU_congr {L L' : Nat → Bool} {t : Nat} : ∀ n, (∀ j, j < n → (ops[j]?).bind (·.dst) = some t → L j = L' j) → envU ops V e0 L n t = envU ops V e0 L' n t
  | 0, _ => rfl
  | n + 1, h => by
    have ih := envU_congr (L := L) (L' := L') (t := t) n fun j hj => h j (by omega)
    unfold envU
    by_cases hd : (ops[n]?).bind (·.dst) = some t
    · rw [h n (by omega) hd]
      split
      · rw [hd, upd_eq, upd_eq]
      · exact ih
    · have e1 : ∀ (x : Bool) (e : Env), (if x then upd e ((ops[n]?).bind (·.dst)) (some (V n)) else e) t = e t := fun x e => by
        split
        · exact upd_ne hd
        · rfl
      rw [e1, e1]
      exact ih
theorem envU_stop {ops : List Oper} {V : Nat → Value} {e0 : Env} {L : Nat → Bool} {t : Nat} {i : Nat} : ∀ n, i ≤ n → (∀ j, i ≤ j → j < n → (ops[j]?).bind (·.dst) = some t → L j = false) → envU ops V e0 L n t = envU ops V e0 L i t
  | 0, h, _ => by
    obtain rfl : i = 0 := Nat.le_zero.1 h
    rfl
  | n + 1, h, k => by
    rcases Nat.lt_or_ge n i with h1 | h1
    · obtain rfl : i = n + 1 := by omega
      rfl
    · have ih := envU_stop (V := V) (e0 := e0) (L := L) n h1 fun j hj hj2 => k j hj (by omega)
      rw [← ih]
      conv => lhs; unfold envU
      by_cases hd : (ops[n]?).bind (·.dst) = some t
      · rw [k n h1 (by omega) hd]; rfl
      · split
        · exact upd_ne hd
        · rfl
theorem heapU_stop {L : Nat → Bool} {i : Nat} : ∀ n, i ≤ n → (∀ j, i ≤ j → j < n → ((ops[j]?).map isChain).getD false = true → L j = false) → heapU ops Hh L n = heapU ops Hh L i
  | 0, h, _ => by
    obtain rfl : i = 0 := Nat.le_zero.1 h
    rfl
  | n + 1, h, k => by
    rcases Nat.lt_or_ge n i with h1 | h1
    · obtain rfl : i = n + 1 := by omega
      rfl
    · have ih := heapU_stop (L := L) n h1 fun j hj hj2 => k j hj (by omega)
      rw [← ih]
      conv => lhs; unfold heapU
      by_cases hd : ((ops[n]?).map isChain).getD false = true
      · rw [k n h1 (by omega) hd]; rfl
      · rw [if_neg (by simp [hd])]
theorem heapU_all {L : Nat → Bool} (hq : ∀ (j : Nat), j < ops.length → ((ops[j]?).map isChain).getD false = false → Hh (j + 1) = Hh j) : ∀ i, i ≤ ops.length → (∀ j, j < i → ((ops[j]?).map isChain).getD false = true → L j = true) → heapU ops Hh L i = Hh i
  | 0, _, _ => rfl
  | i + 1, hi, h => by
    have ih := heapU_all (L := L) hq i (by omega) fun j hj => h j (by omega)
    unfold heapU
    by_cases hd : ((ops[i]?).map isChain).getD false = true
    · rw [h i (by omega) hd, hd]; rfl
    · rw [if_neg (by simp [hd]), ih, hq i (by omega) (by simpa using hd)]
/-- The heap behind a set: at the beginning, or behind a link of the chain that is in the set and behind which none is. -/
theorem heapU_last (L : Nat → Bool) : ∀ n, heapU ops Hh L n = Hh 0 ∧ (∀ j, j < n → ((ops[j]?).map isChain).getD false = true → L j = false) ∨
    ∃ m, m < n ∧ L m = true ∧ ((ops[m]?).map isChain).getD false = true ∧ heapU ops Hh L n = Hh (m + 1) ∧ ∀ j, m < j → j < n → ((ops[j]?).map isChain).getD false = true → L j = false
  | 0 => .inl ⟨rfl, fun j hj => by omega⟩
  | n + 1 => by
    by_cases hc : ((ops[n]?).map isChain).getD false = true ∧ L n = true
    · right
      refine ⟨n, by omega, hc.2, hc.1, by unfold heapU; rw [hc.2, hc.1]; rfl, fun j h1 h2 => by omega⟩
    · have e1 : heapU ops Hh L (n + 1) = heapU ops Hh L n := by
        conv => lhs; unfold heapU
        rw [if_neg (by simp only [Bool.and_eq_true]; rintro ⟨h1, h2⟩; exact hc ⟨h2, h1⟩)]
      have last : ((ops[n]?).map isChain).getD false = true → L n = false := fun h => by
        cases hL : L n with
        | false => rfl
        | true => exact absurd ⟨h, hL⟩ hc
      rw [e1]
      rcases heapU_last L n with ⟨h1, h2⟩ | ⟨m, h1, h2, h3, h4, h5⟩
      · refine .inl ⟨h1, fun j hj hch => ?_⟩
        rcases Nat.lt_or_ge j n with h | h
        · exact h2 j h hch
        · obtain rfl : j = n := by omega
          exact last hch
      · refine .inr ⟨m, by omega, h2, h3, h4, fun j k1 k2 hch => ?_⟩
        rcases Nat.lt_or_ge j n with h | h
        · exact h5 j k1 h hch
        · obtain rfl : j = n := by omega
          exact last hch
end
end Go.Proofs.Ytlihmncbhaimkaa.Am
