/- A region that draws its order, third part: whatever order is drawn, the region comes to the same. -/
import Derived.Test.YtlihmncbhaimkaaAmOrder
namespace Go.Proofs.Ytlihmncbhaimkaa.Am
open Go Go.RowKit

section
variable {P : Program} {C : Oracle} {ops : List Oper} {b : List Nat} {E : Nat → Env} {Hh : Nat → Heap} {V : Nat → Value}
theorem drawOk_all (ok : drawOk ops b = true) {j : Nat} {o : Oper} (ho : ops[j]? = some o) : (∀ ed ∈ o.after.toList, Region.binds .any ed = true → ed.on < j) ∧ ∀ (i : Nat) o', ops[i]? = some o' → i < j → ordered b i j = true ∨ (o'.apart ops.toArray o = true ∧ (isChain o && isChain o') = false) := by
  unfold drawOk at ok
  simp only [List.all_eq_true, Bool.and_eq_true, Bool.or_eq_true, decide_eq_true_eq, Bool.not_eq_true'] at ok
  have hm : (o, j) ∈ ops.zipIdx := List.mk_mem_zipIdx_iff_getElem?.2 ho
  obtain ⟨⟨h1, h2⟩, h3⟩ := ok (o, j) hm
  refine ⟨fun ed hed hb => (h1 ed hed).resolve_left (by simp [hb]), fun i o' ho' hij => ?_⟩
  have hm' : (o', i) ∈ ops.zipIdx := List.mk_mem_zipIdx_iff_getElem?.2 ho'
  rcases h3 (o', i) hm' with (h | h) | h
  · omega
  · exact .inl h
  · exact .inr h
theorem least (p : Nat → Prop) (h : ∃ n, p n) : ∃ n, p n ∧ ∀ k, k < n → ¬ p k := by
  obtain ⟨n, hn⟩ := h
  induction n using Nat.strongRecOn with
  | ind n ih =>
    by_cases hk : ∃ k, k < n ∧ p k
    · obtain ⟨k, h1, h2⟩ := hk
      exact ih k h1 h2
    · exact ⟨n, hn, fun k h1 h2 => hk ⟨k, h1, h2⟩⟩
theorem isChain_cls {o : Oper} : isChain o = true ↔ clsOf o.op = .chain := by
  unfold isChain
  cases clsOf o.op <;> simp
theorem cls_quietread {o : Oper} (h : isChain o = false) : clsOf o.op = .quiet ∨ clsOf o.op = .read := by
  unfold isChain at h
  cases hc : clsOf o.op <;> simp [hc] at h ⊢
theorem Trace.keep (T : Trace P C ops b E Hh V) (j : Nat) (hj : j < ops.length) (h : ((ops[j]?).map isChain).getD false = false) : Hh (j + 1) = Hh j := by
  have ho : ops[j]? = some ops[j] := by simp [hj]
  have hst := T.step j _ ho
  simp only [ho, Option.map_some, Option.getD_some] at h
  rcases cls_quietread h with hc | hc
  · exact (stepA_quiet hc hst).1
  · exact stepA_read hc hst
theorem Trace.envAll (T : Trace P C ops b E Hh V) (L : Nat → Bool) : ∀ i, i ≤ ops.length → (∀ j, j < i → L j = true) → envU ops V (E 0) L i = E i
  | 0, _, _ => rfl
  | i + 1, hi, h => by
    have ih := T.envAll L i (by omega) fun j hj => h j (by omega)
    have ho : ops[i]? = some (ops[i]'(by omega)) := List.getElem?_eq_getElem (by omega)
    unfold envU
    rw [h i (by omega), ih, T.env i _ ho]
    simp [ho]
/-- One operation more. -/
theorem Trace.next (T : Trace P C ops b E Hh V) (ok : drawOk ops b = true) {L : Nat → Bool} (hcl : ∀ j, L j = true → ∀ i, ordered b i j = true → L i = true) {i : Nat} {o : Oper} (ho : ops[i]? = some o) (hni : L i = false) (hready : ∀ j, ordered b j i = true → L j = true) :
    stepA P C ops o (envU ops V (E 0) L ops.length) (heapU ops Hh L ops.length) = some (V i, heapU ops Hh (fun n => L n || n == i) ops.length) ∧
    envU ops V (E 0) (fun n => L n || n == i) ops.length = upd (envU ops V (E 0) L ops.length) o.dst (some (V i)) := by
  have hil : i < ops.length := (List.getElem?_eq_some_iff.1 ho).1
  -- what is ordered
  have before : ∀ (j : Nat) o', ops[j]? = some o' → j < i → (o'.apart ops.toArray o = true ∧ (isChain o && isChain o') = false) ∨ L j = true := fun j o' hj hlt => by
    rcases (drawOk_all ok ho).2 j o' hj hlt with h | h
    · exact .inr (hready j h)
    · exact .inl h
  have behind : ∀ (j : Nat) o', ops[j]? = some o' → i < j → (o.apart ops.toArray o' = true ∧ (isChain o' && isChain o) = false) ∨ L j = false := fun j o' hj hlt => by
    rcases (drawOk_all ok hj).2 i o ho hlt with h | h
    · right
      cases hL : L j with
      | false => rfl
      | true => rw [hcl j hL i h] at hni; cases hni
    · exact .inl h
  -- the variables that the operation looks at
  have hlook : ∀ t ∈ o.looksAt ops.toArray, envU ops V (E 0) L ops.length t = E i t := by
    intro t ht
    have h1 : envU ops V (E 0) L ops.length t = envU ops V (E 0) L i t := envU_stop _ (by omega) fun j hij hjl hd => by
      by_cases hji : j = i
      · subst hji; exact hni
      · have hoj : ops[j]? = some ops[j] := by simp [hjl]
        rcases behind j _ hoj (by omega) with h | h
        · rw [hoj] at hd
          exact absurd ht ((Oper.apart_spec h.1).2.2 t hd)
        · exact h
    rw [h1, ← T.envAll (fun _ => true) i (by omega) fun _ _ => rfl]
    refine envU_congr _ fun j hj hd => ?_
    have hjl : j < ops.length := by omega
    have hoj : ops[j]? = some ops[j] := by simp [hjl]
    rcases before j _ hoj hj with h | h
    · rw [hoj] at hd
      exact absurd ht ((Oper.apart_spec h.1).1 t hd)
    · exact h
  have hstep : stepA P C ops o (E i) (Hh i) = some (V i, Hh (i + 1)) := T.step i o ho
  constructor
  · rw [stepA_congr _ hlook]
    by_cases hch : isChain o = true
    · -- a link of the chain
      have e1 : heapU ops Hh L ops.length = Hh i := by
        rw [heapU_stop (i := i) _ (by omega) fun j hij hjl hc => ?_]
        · exact heapU_all T.keep i (by omega) fun j hj hc => by
            have hjl : j < ops.length := by omega
            have hoj : ops[j]? = some ops[j] := by simp [hjl]
            rcases before j _ hoj hj with h | h
            · simp only [hoj, Option.map_some, Option.getD_some] at hc
              rw [hch, hc] at h; simp at h
            · exact h
        · by_cases hji : j = i
          · subst hji; exact hni
          · have hoj : ops[j]? = some ops[j] := by simp [hjl]
            rcases behind j _ hoj (by omega) with h | h
            · simp only [hoj, Option.map_some, Option.getD_some] at hc
              rw [hch, hc] at h; simp at h
            · exact h
      have e2 : heapU ops Hh (fun n => L n || n == i) ops.length = Hh (i + 1) := by
        rw [heapU_stop (i := i + 1) _ (by omega) fun j hij hjl hc => ?_]
        · exact heapU_all T.keep (i + 1) (by omega) fun j hj hc => by
            by_cases hji : j = i
            · subst hji; simp
            · have hjl : j < ops.length := by omega
              have hoj : ops[j]? = some ops[j] := by simp [hjl]
              rcases before j _ hoj (by omega) with h | h
              · simp only [hoj, Option.map_some, Option.getD_some] at hc
                rw [hch, hc] at h; simp at h
              · rw [h]; rfl
        · have hoj : ops[j]? = some ops[j] := by simp [hjl]
          have hne : (j == i) = false := by simp; omega
          rcases behind j _ hoj (by omega) with h | h
          · simp only [hoj, Option.map_some, Option.getD_some] at hc
            rw [hch, hc] at h; simp at h
          · rw [h, hne]; rfl
      rw [e1, e2]
      exact hstep
    · -- no link: the heap behind the set stays
      have hch : isChain o = false := by simpa using hch
      have e2 : heapU ops Hh (fun n => L n || n == i) ops.length = heapU ops Hh L ops.length := by
        have key : ∀ n, heapU ops Hh (fun n => L n || n == i) n = heapU ops Hh L n := by
          intro n
          induction n with
          | zero => rfl
          | succ n ih =>
            unfold heapU
            rw [ih]
            by_cases hn : n = i
            · subst hn
              simp [ho, hch]
            · have : (n == i) = false := by simpa using hn
              simp [this]
        exact key _
      rw [e2]
      rcases cls_quietread hch with hc | hc
      · exact (stepA_quiet hc hstep).2 _
      · -- a read
        have hi1 : Hh (i + 1) = Hh i := stepA_read hc hstep
        rw [hi1] at hstep
        -- the heap ahead of place i, from place m on, where no chain link lies between
        have still : ∀ m k, m ≤ k → k ≤ ops.length → (∀ j, m ≤ j → j < k → ((ops[j]?).map isChain).getD false = false) → Hh k = Hh m := by
          intro m k hmk hk hno
          obtain ⟨d, rfl⟩ : ∃ d, k = m + d := ⟨k - m, by omega⟩
          clear hmk
          induction d with
          | zero => rfl
          | succ d ih =>
            rw [← ih (by omega) fun j h1 h2 => hno j h1 (by omega)]
            exact T.keep (m + d) (by omega) (hno (m + d) (by omega) (by omega))
        -- from place m on, all links before i being not in the set
        have fromPlace : ∀ m, m ≤ i → (∀ j, m ≤ j → j < i → ((ops[j]?).map isChain).getD false = true → L j = false) → stepA P C ops o (E i) (Hh m) = some (V i, Hh m) := by
          intro m hm hno
          by_cases hex : ∃ j, m ≤ j ∧ j < i ∧ ((ops[j]?).map isChain).getD false = true
          · -- the first one
            obtain ⟨j, ⟨j1, j2, j3⟩, hmin⟩ : ∃ j, (m ≤ j ∧ j < i ∧ ((ops[j]?).map isChain).getD false = true) ∧ ∀ k, k < j → ¬ (m ≤ k ∧ k < i ∧ ((ops[k]?).map isChain).getD false = true) := by
              exact least _ hex
            have e3 : Hh j = Hh m := still m j j1 (by omega) fun k k1 k2 => by
              cases hck : ((ops[k]?).map isChain).getD false with
              | false => rfl
              | true => exact absurd ⟨k1, by omega, hck⟩ (hmin k k2)
            rw [← e3]
            have hjl : j < ops.length := by omega
            have hoj : ops[j]? = some ops[j] := by simp [hjl]
            have hcj : clsOf ops[j].op = .chain := isChain_cls.1 (by simpa [hoj] using j3)
            refine T.early i j o _ ho hoj hc hcj j2 ?_
            cases hord : ordered b j i with
            | false => rfl
            | true => have := hready j hord; rw [hno j j1 j2 j3] at this; cases this
          · have e3 : Hh i = Hh m := still m i hm (by omega) fun k k1 k2 => by
              cases hck : ((ops[k]?).map isChain).getD false with
              | false => rfl
              | true => exact absurd ⟨k, k1, k2, hck⟩ hex
            rw [← e3]
            exact hstep
        rcases heapU_last (ops := ops) (Hh := Hh) L ops.length with ⟨h1, h2⟩ | ⟨m, h1, h2, h3, h4, h5⟩
        · rw [h1]
          exact fromPlace 0 (by omega) fun j _ hj hcj => h2 j (by omega) hcj
        · rw [h4]
          have hmi : m ≠ i := by rintro rfl; rw [hni] at h2; cases h2
          rcases Nat.lt_or_ge m i with hlt | hge
          · exact fromPlace (m + 1) (by omega) fun j h6 h7 hcj => h5 j (by omega) (by omega) hcj
          · have hom : ops[m]? = some ops[m] := by simp [h1]
            have hcm : clsOf ops[m].op = .chain := isChain_cls.1 (by simpa [hom] using h3)
            refine T.late i m o _ ho hom hc hcm (by omega) ?_
            cases hord : ordered b i m with
            | false => rfl
            | true => have := hcl m h2 i hord; rw [hni] at this; cases this
  · -- the variables
    funext t
    by_cases hd : o.dst = some t
    · rw [hd, upd_eq]
      rw [envU_stop (i := i + 1) _ (by omega) fun j hij hjl hdj => ?_]
      · unfold envU
        have : (L i || i == i) = true := by simp
        rw [this]
        simp [ho, hd, upd_eq]
      · have hoj : ops[j]? = some ops[j] := by simp [hjl]
        have hne : (j == i) = false := by simp; omega
        rcases behind j _ hoj (by omega) with h | h
        · rw [hoj] at hdj
          exact absurd hdj ((Oper.apart_spec h.1).2.1 t hd)
        · rw [h, hne]; rfl
    · rw [upd_ne hd]
      refine envU_congr _ fun j hj hdj => ?_
      by_cases hji : j = i
      · subst hji; rw [ho] at hdj; exact absurd hdj hd
      · have hne : (j == i) = false := by simpa using hji
        simp [hne]
end
end Go.Proofs.Ytlihmncbhaimkaa.Am
