/- A region that draws its order: every order comes to what the text's order comes to. -/
import Derived.Test.YtlihmncbhaimkaaAmRegion
namespace Go.Proofs.Ytlihmncbhaimkaa.Am
open Go Go.RowKit

/-! ### What an operation looks at -/
section
variable {P : Program} {C : Oracle}
theorem evs_congr {e e' : Env} : ∀ {l : List Operand}, (∀ x ∈ l, ev P e x = ev P e' x) → evs P e l = evs P e' l
  | [], _ => rfl
  | x :: l, h => by unfold evs; rw [h x (by simp), evs_congr fun y hy => h y (by simp [hy])]
theorem partsE_congr {e e' : Env} : ∀ {l : List (Nat × Operand)}, (∀ x ∈ l.map (·.2), ev P e x = ev P e' x) → partsE P e l = partsE P e' l
  | [], _ => rfl
  | x :: l, h => by unfold partsE; rw [h x.2 (by simp), partsE_congr fun y hy => h y (by simp at hy ⊢; exact .inr hy)]
theorem optE_congr {e e' : Env} {x : Option Operand} (h : ∀ y ∈ x.toArray.toList, ev P e y = ev P e' y) : optE P e x = optE P e' x := by
  cases x with
  | none => rfl
  | some x => simp only [optE]; rw [h x (by simp)]
theorem opA_congr {e e' : Env} {op : Op} (hh : Heap) (h : ∀ x ∈ op.operands.toList, ev P e x = ev P e' x) : opA P C op e hh = opA P C op e' hh := by
  unfold opA
  split
  all_goals first
    | rfl
    | (rename_i x; rw [h x (by simp [Op.operands])]; done)
    | (rename_i t x; rw [h x (by simp [Op.operands])]; done)
    | (rename_i c x y; rw [h c (by simp [Op.operands]), h x (by simp [Op.operands]), h y (by simp [Op.operands])]; done)
    | (rename_i t x y; rw [h x (by simp [Op.operands]), h y (by simp [Op.operands])]; done)
    | (rename_i op t x y t'; rw [h x (by simp [Op.operands]), h y (by simp [Op.operands])]; done)
    | (rename_i op t x; rw [h x (by simp [Op.operands])]; done)
    | (rename_i t ps; rw [partsE_congr (e := e) (e' := e') fun x hx => h x (by simpa [Op.operands] using hx)]; done)
    | (rename_i t n ps; rw [partsE_congr (e := e) (e' := e') fun x hx => h x (by simpa [Op.operands] using hx)]; done)
    | (rename_i f xs ys; rw [evs_congr (e := e) (e' := e') (l := xs.toList) fun x hx => h x (by simp [Op.operands] at hx ⊢; exact .inl hx), evs_congr (e := e) (e' := e') (l := ys.toList) fun x hx => h x (by simp [Op.operands] at hx ⊢; exact .inr hx)]; done)
    | (rename_i t x lo hi mx
       rw [h x (by simp [Op.operands]), optE_congr (e := e) (e' := e') (x := lo) fun y hy => h y (by simp [Op.operands] at hy ⊢; simp [hy]), optE_congr (e := e) (e' := e') (x := hi) fun y hy => h y (by simp [Op.operands] at hy ⊢; simp [hy]),
         optE_congr (e := e) (e' := e') (x := mx) fun y hy => h y (by simp [Op.operands] at hy ⊢; simp [hy])]; done)
    | (rename_i s x f; rw [h x (by simp [Op.operands])]; done)
    | (rename_i x i; rw [h x (by simp [Op.operands])]; done)
    | (rename_i f args argTypes; rw [h f (by simp [Op.operands, Call.operands]), evs_congr (e := e) (e' := e') fun x hx => h x (by simp [Op.operands, Call.operands] at hx ⊢; exact .inr hx)]; done)
    | (rename_i b args argTypes; rw [evs_congr (e := e) (e' := e') fun x hx => h x (by simpa [Op.operands, Call.operands] using hx)]; done)
theorem stepA_congr {ops : List Oper} {o : Oper} {e e' : Env} (hh : Heap) (h : ∀ t ∈ o.looksAt ops.toArray, e t = e' t) : stepA P C ops o e hh = stepA P C ops o e' hh := by
  have h1 : wantA ops e o = wantA ops e' o := by
    unfold wantA
    split
    · rfl
    · rename_i j wnt hg
      cases hd : (ops[j]?).bind (·.dst) with
      | none => rfl
      | some d =>
        simp only [Option.bind_some]
        rw [h d (by simp [Oper.looksAt, hg, hd])]
  have h2 : opA P C o.op e hh = opA P C o.op e' hh := opA_congr hh fun x hx => by
    cases x with
    | tmp t => exact h t (by
        simp only [Oper.looksAt, List.mem_append, List.mem_filterMap]
        exact .inl ⟨.tmp t, hx, rfl⟩)
    | const v => rfl
    | global g => rfl
    | func f => rfl
  unfold stepA
  rw [h1, h2]

/-! ### Quiet operations and reads -/
theorem opA_quiet {op : Op} {e : Env} {h h1 : Heap} {v : Value} (hc : clsOf op = .quiet) (k : opA P C op e h = some (v, h1)) : h1 = h ∧ ∀ h2, opA P C op e h2 = some (v, h2) := by
  unfold clsOf at hc
  split at hc
  all_goals first
    | (exfalso; cases hc; done)
    | (unfold opA at k ⊢
       simp only at k ⊢
       first
        | (obtain ⟨u, hu, hk⟩ := map_inv k; cases hk; exact ⟨rfl, fun h2 => by rw [hu]; rfl⟩)
        | (obtain ⟨x1, hx1, k⟩ := bind_inv k
           obtain ⟨u, hu, hk⟩ := map_inv k
           cases hk
           exact ⟨rfl, fun h2 => by rw [hx1, Option.bind_some, hu]; rfl⟩)
        | (obtain ⟨x1, hx1, k⟩ := bind_inv k
           obtain ⟨x2, hx2, k⟩ := bind_inv k
           obtain ⟨u, hu, hk⟩ := map_inv k
           cases hk
           exact ⟨rfl, fun h2 => by rw [hx1, Option.bind_some, hx2, Option.bind_some, hu]; rfl⟩)
        | (obtain ⟨x1, hx1, k⟩ := bind_inv k
           split at k
           · obtain ⟨u, hu, hk⟩ := map_inv k
             cases hk
             exact ⟨rfl, fun h2 => by rw [hx1, Option.bind_some]; simp only [hu]; rfl⟩
           · cases k))
    | skip
  · rename_i fn xs ys
    cases fn with
    | func f =>
      unfold opA at k ⊢
      simp only at k ⊢
      obtain ⟨x1, hx1, k⟩ := bind_inv k
      obtain ⟨u, hu, hk⟩ := map_inv k
      cases hk
      exact ⟨rfl, fun h2 => by rw [hx1, Option.bind_some, hu]; rfl⟩
    | _ => unfold opA at k; cases k
  · rename_i b args argTypes
    unfold opA at k ⊢
    simp only at k ⊢
    obtain ⟨x1, hx1, k⟩ := bind_inv k
    cases b <;> first
      | (exfalso; cases hc; done)
      | (unfold builtinA at k ⊢
         simp only at k ⊢
         obtain ⟨u, hu, hk⟩ := map_inv k
         cases hk
         exact ⟨rfl, fun h2 => by rw [hx1, Option.bind_some]; simp only [hu]; rfl⟩)
theorem opA_read {op : Op} {e : Env} {h h1 : Heap} {v : Value} (hc : clsOf op = .read) (k : opA P C op e h = some (v, h1)) : h1 = h := by
  unfold clsOf at hc
  split at hc
  all_goals first
    | (exfalso; cases hc; done)
    | (unfold opA at k
       simp only at k
       first
        | (obtain ⟨x1, hx1, k⟩ := bind_inv k
           obtain ⟨u, hu, hk⟩ := map_inv k
           cases hk
           rfl)
        | (obtain ⟨x1, hx1, k⟩ := bind_inv k
           obtain ⟨x2, hx2, k⟩ := bind_inv k
           obtain ⟨x3, hx3, k⟩ := bind_inv k
           obtain ⟨x4, hx4, k⟩ := bind_inv k
           obtain ⟨u, hu, hk⟩ := map_inv k
           cases hk
           rfl)
        | cases k)
    | skip
  · rename_i b args argTypes
    unfold opA at k
    simp only at k
    obtain ⟨x1, hx1, k⟩ := bind_inv k
    cases b <;> first
      | (exfalso; cases hc; done)
      | (unfold builtinA at k
         split at k <;> first
          | (exfalso; contradiction)
          | (cases k; done)
          | (obtain ⟨u, hu, hk⟩ := map_inv k; cases hk; rfl))
theorem stepA_quiet {ops : List Oper} {o : Oper} {e : Env} {h h1 : Heap} {v : Value} (hc : clsOf o.op = .quiet) (k : stepA P C ops o e h = some (v, h1)) : h1 = h ∧ ∀ h2, stepA P C ops o e h2 = some (v, h2) := by
  unfold stepA at k ⊢
  obtain ⟨b, hb, k⟩ := bind_inv k
  cases b with
  | true =>
    simp only [if_true] at k
    obtain ⟨e1, e2⟩ := opA_quiet hc k
    exact ⟨e1, fun h2 => by rw [hb]; exact e2 h2⟩
  | false =>
    simp only [Bool.false_eq_true, if_false] at k
    cases k
    exact ⟨rfl, fun h2 => by rw [hb]; rfl⟩
theorem stepA_read {ops : List Oper} {o : Oper} {e : Env} {h h1 : Heap} {v : Value} (hc : clsOf o.op = .read) (k : stepA P C ops o e h = some (v, h1)) : h1 = h := by
  unfold stepA at k
  obtain ⟨b, hb, k⟩ := bind_inv k
  cases b with
  | true => simp only [if_true] at k; exact opA_read hc k
  | false => simp only [Bool.false_eq_true, if_false] at k; cases k; rfl

/-! ### The run in the text's order, laid out -/
/-- What the text's order comes to: the variables and the heap ahead of each operation, what each one yields. -/
structure Trace (P : Program) (C : Oracle) (ops : List Oper) (b : List Nat) (E : Nat → Env) (Hh : Nat → Heap) (V : Nat → Value) : Prop where
  step : ∀ (i : Nat) o, ops[i]? = some o → stepA P C ops o (E i) (Hh i) = some (V i, Hh (i + 1))
  env : ∀ (i : Nat) o, ops[i]? = some o → E (i + 1) = upd (E i) o.dst (some (V i))
  early : ∀ (i j : Nat) o o', ops[i]? = some o → ops[j]? = some o' → clsOf o.op = .read → clsOf o'.op = .chain → j < i → ordered b j i = false → stepA P C ops o (E i) (Hh j) = some (V i, Hh j)
  late : ∀ (i j : Nat) o o', ops[i]? = some o → ops[j]? = some o' → clsOf o.op = .read → clsOf o'.op = .chain → i < j → ordered b i j = false → stepA P C ops o (E i) (Hh (j + 1)) = some (V i, Hh (j + 1))
theorem drawA_trace {ops : List Oper} {b : List Nat} : ∀ (l : List (Oper × Nat)) (n : Nat) (e : Env) (h : Heap) (rs : List (Nat × Oper × Env × Value)) (hs : List (Nat × Heap)) (e' : Env) (h' : Heap), l = (ops.drop n).zipIdx n → n ≤ ops.length → drawA P C ops b l e h rs hs = some (e', h') →
    ∀ (E : Nat → Env) (Hh : Nat → Heap) (V : Nat → Value), E n = e → Hh n = h →
    (∀ (i : Nat) o, i < n → ops[i]? = some o → stepA P C ops o (E i) (Hh i) = some (V i, Hh (i + 1)) ∧ E (i + 1) = upd (E i) o.dst (some (V i))) →
    (∀ (i j : Nat) o o', i < n → ops[i]? = some o → ops[j]? = some o' → clsOf o.op = .read → clsOf o'.op = .chain → j < i → ordered b j i = false → stepA P C ops o (E i) (Hh j) = some (V i, Hh j)) →
    (∀ (i j : Nat) o o', j < n → ops[i]? = some o → ops[j]? = some o' → clsOf o.op = .read → clsOf o'.op = .chain → i < j → ordered b i j = false → stepA P C ops o (E i) (Hh (j + 1)) = some (V i, Hh (j + 1))) →
    (∀ x, x ∈ rs ↔ ∃ o, x.1 < n ∧ ops[x.1]? = some o ∧ clsOf o.op = .read ∧ x.2 = (o, E x.1, V x.1)) →
    (∀ x, x ∈ hs ↔ ∃ o, x.1 < n ∧ ops[x.1]? = some o ∧ clsOf o.op = .chain ∧ x.2 = Hh x.1) →
    ∃ E' Hh' V', Trace P C ops b E' Hh' V' ∧ E' 0 = E 0 ∧ Hh' 0 = Hh 0 ∧ E' ops.length = e' ∧ Hh' ops.length = h' := by
  intro l
  induction l with
  | nil =>
    intro n e h rs hs e' h' hl hn k E Hh V hE hH p1 p2 p3 p4 p5
    simp only [drawA] at k; cases k
    have hnl : n = ops.length := by
      have := congrArg List.length hl
      simp at this
      omega
    subst hnl
    have lt : ∀ (i : Nat) o, ops[i]? = some o → i < ops.length := fun i o ho => (List.getElem?_eq_some_iff.1 ho).1
    exact ⟨E, Hh, V, ⟨fun i o ho => (p1 i o (lt i o ho) ho).1, fun i o ho => (p1 i o (lt i o ho) ho).2, fun i j o o' ho ho' => p2 i j o o' (lt i o ho) ho ho', fun i j o o' ho ho' => p3 i j o o' (lt j o' ho') ho ho'⟩, rfl, rfl, hE, hH⟩
  | cons x l ih =>
    intro n e h rs hs e' h' hl hn k E Hh V hE hH p1 p2 p3 p4 p5
    obtain ⟨o, i⟩ := x
    have hlt : n < ops.length := by
      rcases Nat.lt_or_ge n ops.length with h1 | h1
      · exact h1
      · rw [List.drop_eq_nil_of_le h1] at hl; simp at hl
    rw [List.drop_eq_getElem_cons hlt, List.zipIdx_cons] at hl
    simp only [List.cons.injEq, Prod.mk.injEq] at hl
    obtain ⟨⟨ho, hi⟩, hl⟩ := hl
    subst hi
    have hon : ops[i]? = some o := by rw [ho]; simp [hlt]
    unfold drawA at k
    obtain ⟨⟨v, h1⟩, hst, k⟩ := bind_inv k
    simp only at k
    -- the next place
    let E2 : Nat → Env := fun m => if m ≤ i then E m else upd e o.dst (some v)
    let V2 : Nat → Value := fun m => if m < i then V m else v
    have go : ∀ (hx : Heap) (rs2 : List (Nat × Oper × Env × Value)) (hs2 : List (Nat × Heap)), stepA P C ops o e h = some (v, hx) → drawA P C ops b l (upd e o.dst (some v)) hx rs2 hs2 = some (e', h') →
        (clsOf o.op = .read → ∀ (j : Nat) o', ops[j]? = some o' → clsOf o'.op = .chain → j < i → ordered b j i = false → stepA P C ops o e (Hh j) = some (v, Hh j)) →
        (clsOf o.op = .chain → ∀ (m : Nat) o', ops[m]? = some o' → clsOf o'.op = .read → m < i → ordered b m i = false → stepA P C ops o' (E m) hx = some (V m, hx)) →
        (∀ x, x ∈ rs2 ↔ x ∈ rs ∨ (clsOf o.op = .read ∧ x = (i, o, e, v))) → (∀ x, x ∈ hs2 ↔ x ∈ hs ∨ (clsOf o.op = .chain ∧ x = (i, h))) →
        ∃ E' Hh' V', Trace P C ops b E' Hh' V' ∧ E' 0 = E 0 ∧ Hh' 0 = Hh 0 ∧ E' ops.length = e' ∧ Hh' ops.length = h' := by
      intro hx rs2 hs2 hst' k2 q1 q2 q3 q4
      let H2 : Nat → Heap := fun m => if m ≤ i then Hh m else hx
      have e1 : ∀ m, m ≤ i → E2 m = E m := fun m hm => if_pos hm
      have e2 : ∀ m, m < i → V2 m = V m := fun m hm => if_pos hm
      have e3 : ∀ m, m ≤ i → H2 m = Hh m := fun m hm => if_pos hm
      have e4 : E2 (i + 1) = upd e o.dst (some v) := if_neg (by omega)
      have e5 : V2 i = v := if_neg (by omega)
      have e6 : H2 (i + 1) = hx := if_neg (by omega)
      have res := ih (i + 1) _ hx rs2 hs2 e' h' hl (by omega) k2 E2 H2 V2 e4 e6 ?_ ?_ ?_ ?_ ?_
      · obtain ⟨E', Hh', V', r1, r2, r3, r4, r5⟩ := res
        exact ⟨E', Hh', V', r1, by rw [r2, e1 0 (by omega)], by rw [r3, e3 0 (by omega)], r4, r5⟩
      · intro m om hm hom
        rcases Nat.lt_or_ge m i with h2 | h2
        · rw [e1 m (by omega), e3 m (by omega), e2 m h2, e3 (m + 1) (by omega), e1 (m + 1) (by omega)]
          exact p1 m om h2 hom
        · obtain rfl : m = i := by omega
          rw [hon] at hom; cases hom
          rw [e1 m (by omega), e3 m (by omega), e5, e6, e4, hE, hH]
          exact ⟨hst', rfl⟩
      · intro m j om oj hm hom hoj c1 c2 hjm hord
        rcases Nat.lt_or_ge m i with h2 | h2
        · rw [e1 m (by omega), e3 j (by omega), e2 m h2]
          exact p2 m j om oj h2 hom hoj c1 c2 hjm hord
        · obtain rfl : m = i := by omega
          rw [hon] at hom; cases hom
          rw [e1 m (by omega), e3 j (by omega), e5, hE]
          exact q1 c1 j oj hoj c2 hjm hord
      · intro m j om oj hj hom hoj c1 c2 hmj hord
        rcases Nat.lt_or_ge j i with h2 | h2
        · rw [e1 m (by omega), e3 (j + 1) (by omega), e2 m (by omega)]
          exact p3 m j om oj h2 hom hoj c1 c2 hmj hord
        · obtain rfl : j = i := by omega
          rw [hon] at hoj; cases hoj
          rw [e1 m (by omega), e6, e2 m (by omega)]
          exact q2 c2 m om hom c1 hmj hord
      · intro x
        rw [q3, p4]
        constructor
        · rintro (⟨ox, x1, x2, x3, x4⟩ | ⟨x1, x2⟩)
          · exact ⟨ox, by omega, x2, x3, by rw [x4, e1 _ (by omega), e2 _ x1]⟩
          · subst x2
            exact ⟨o, by simp, hon, x1, by simp [e1 i (Nat.le_refl _), e5, hE]⟩
        · rintro ⟨ox, x1, x2, x3, x4⟩
          rcases Nat.lt_or_ge x.1 i with h2 | h2
          · exact .inl ⟨ox, h2, x2, x3, by rw [x4, e1 _ (by omega), e2 _ h2]⟩
          · have hxi : x.1 = i := by omega
            rw [hxi, hon] at x2
            cases x2
            refine .inr ⟨x3, Prod.ext hxi ?_⟩
            rw [x4, hxi, e1 i (Nat.le_refl _), e5, hE]
      · intro x
        rw [q4, p5]
        constructor
        · rintro (⟨ox, x1, x2, x3, x4⟩ | ⟨x1, x2⟩)
          · exact ⟨ox, by omega, x2, x3, by rw [x4, e3 _ (by omega)]⟩
          · subst x2
            exact ⟨o, by simp, hon, x1, by simp [e3 i (Nat.le_refl _), hH]⟩
        · rintro ⟨ox, x1, x2, x3, x4⟩
          rcases Nat.lt_or_ge x.1 i with h2 | h2
          · exact .inl ⟨ox, h2, x2, x3, by rw [x4, e3 _ (by omega)]⟩
          · have hxi : x.1 = i := by omega
            rw [hxi, hon] at x2
            cases x2
            refine .inr ⟨x3, Prod.ext hxi ?_⟩
            rw [x4, hxi, e3 i (Nat.le_refl _), hH]
    cases hc : clsOf o.op with
    | quiet =>
      rw [hc] at k
      have hq := (stepA_quiet hc hst).1
      subst hq
      exact go h1 rs hs hst k (fun c => by rw [hc] at c; cases c) (fun c => by rw [hc] at c; cases c) (fun x => by simp [hc]) (fun x => by simp [hc])
    | read =>
      rw [hc] at k
      have hq := stepA_read hc hst
      subst hq
      simp only at k
      split at k
      case isFalse => cases k
      rename_i hall
      refine go h1 _ hs hst k (fun _ j o' hoj c2 hj hord => ?_) (fun c => by rw [hc] at c; cases c) (fun x => by simp only [List.mem_cons, hc, true_and]; exact or_comm) (fun x => by simp [hc])
      exact hall (j, Hh j) ((p5 _).2 ⟨o', hj, hoj, c2, rfl⟩) hord
    | chain =>
      rw [hc] at k
      simp only at k
      split at k
      case isFalse => cases k
      rename_i hall
      refine go h1 rs _ hst k (fun c => by rw [hc] at c; cases c) (fun _ m o' hom c2 hm hord => ?_) (fun x => by simp [hc]) (fun x => by simp only [List.mem_cons, hc, true_and]; exact or_comm)
      exact hall (m, o', E m, V m) ((p4 _).2 ⟨o', hm, hom, c2, rfl⟩) hord
end
end Go.Proofs.Ytlihmncbhaimkaa.Am
