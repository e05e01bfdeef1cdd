/- Regions: every order that is drawn. -/
import Derived.Test.YtlihmncbhaimkaaAmOrder2
import Derived.Tactics
namespace Go.Proofs.Ytlihmncbhaimkaa.Am
open Go Go.RowKit

section
variable {P : Program} {C : Oracle} {ops : List Oper} {b : List Nat} {E : Nat → Env} {Hh : Nat → Heap} {V : Nat → Value} {base : Nat} {Q : Exit → Act → World → Prop}
theorem dst_in {i : Nat} {o : Oper} (ho : ops[i]? = some o) {n : Nat} (hd : o.dst = some n) : n ∈ dstsOps ops :=
  List.mem_filterMap.2 ⟨o, List.mem_of_getElem? ho, hd⟩
theorem drawn_sim (hC : OSound P C) (T : Trace P C ops b E Hh V) (hb : b = (Region.before ops.toArray).toList) (ok : drawOk ops b = true) {r0 : Ren} {a0 : Act} {w0 : World} (hd : ∀ n ∈ dstsOps ops, n < a0.tmps.size)
    (hn : ∀ r' a' w', SR P base r' (E ops.length) (Hh ops.length) a' w' → SS base r0 a0 w0 r' a' w' → Q .normal a' w') :
    ∀ (fuel : Nat) (listed : Array Bool) (r : Ren) (a : Act) (w : World), listed.size = ops.length → listed.toList.count false ≤ fuel →
      SR P base r (envU ops V (E 0) (fun j => listed.getD j false) ops.length) (heapU ops Hh (fun j => listed.getD j false) ops.length) a w → SS base r0 a0 w0 r a w →
      (∀ (j : Nat) o, listed.getD j false = true → ops[j]? = some o → ∀ ed ∈ o.after.toList, Region.binds .any ed = true → listed.getD ed.on false = true) →
      wpAny P .any ops.toArray Q fuel listed a w := by
  -- all are listed: the end
  have fin : ∀ (listed : Array Bool) (r : Ren) (a : Act) (w : World), listed.size = ops.length → (∀ j, j < ops.length → listed.getD j false = true) →
      SR P base r (envU ops V (E 0) (fun j => listed.getD j false) ops.length) (heapU ops Hh (fun j => listed.getD j false) ops.length) a w → SS base r0 a0 w0 r a w → Q .normal a w := by
    intro listed r a w hsz hall hs hss
    rw [T.envAll (fun j => listed.getD j false) ops.length (Nat.le_refl _) hall, heapU_all T.keep ops.length (Nat.le_refl _) fun j hj _ => hall j hj] at hs
    exact hn r a w hs hss
  -- none is ready: all are listed
  have stuck : ∀ (listed : Array Bool), listed.size = ops.length → Region.ready .any ops.toArray listed = [] → ∀ j, j < ops.length → listed.getD j false = true := by
    intro listed hsz hr j
    induction j using Nat.strongRecOn with
    | _ j ih =>
      intro hj
      cases hl : listed.getD j false with
      | true => rfl
      | false =>
        have ho : ops[j]? = some ops[j] := List.getElem?_eq_getElem hj
        have hm : j ∈ Region.ready .any ops.toArray listed := mem_ready.2 ⟨by
          rw [Array.getD_eq_getD_getElem?] at hl ⊢
          have : j < listed.size := by omega
          simpa [this] using hl, ops[j], by simp, fun ed hed hbd => ih ed.on ((drawOk_all ok ho).1 ed (by simpa using hed) hbd) (by
          have := (drawOk_all ok ho).1 ed (by simpa using hed) hbd
          omega)⟩
        rw [hr] at hm; cases hm
  intro fuel
  induction fuel with
  | zero =>
    intro listed r a w hsz hcnt hs hss hclo
    have hall : ∀ j, j < ops.length → listed.getD j false = true := fun j hj => by
      have hlt : j < listed.size := by omega
      rw [Array.getD_eq_getD_getElem?]
      simp only [hlt, getElem?_pos, Option.getD_some]
      cases hv : listed[j] with
      | true => rfl
      | false =>
        have : false ∈ listed.toList := by rw [← hv]; simp
        have := List.count_pos_iff.2 this
        omega
    refine ⟨?_, fin listed r a w hsz hall hs hss⟩
    apply List.eq_nil_iff_forall_not_mem.2
    intro j hj
    obtain ⟨h1, o, ho, -⟩ := mem_ready.1 hj
    have hjl : j < ops.length := by
      have := (Array.getElem?_eq_some_iff.1 ho).1
      simpa using this
    have h2 := hall j hjl
    rw [Array.getD_eq_getD_getElem?] at h1 h2
    have hlt : j < listed.size := by omega
    simp only [hlt, getElem?_pos, Option.getD_some] at h1 h2
    rw [h1] at h2; cases h2
  | succ fuel ih =>
    intro listed r a w hsz hcnt hs hss hclo
    refine ⟨fun hr => fin listed r a w hsz (stuck listed hsz hr) hs hss, fun i hi => ?_⟩
    obtain ⟨h1, o, ho', hready⟩ := mem_ready.1 hi
    have ho : ops[i]? = some o := by simpa using ho'
    have hil : i < ops.length := (List.getElem?_eq_some_iff.1 ho).1
    have hlt : i < listed.size := by omega
    have hv : listed[i] = false := by
      rw [Array.getD_eq_getD_getElem?] at h1
      simpa [hlt] using h1
    have hni : listed.getD i false = false := by rw [Array.getD_eq_getD_getElem?]; simpa [hlt] using hv
    have hinl : ∀ j, listed.getD j false = true → j < ops.length := fun j hj => by
      rcases Nat.lt_or_ge j listed.size with h | h
      · omega
      · rw [Array.getD_eq_getD_getElem?, Array.getElem?_eq_none h] at hj; cases hj
    have hcl : ∀ j, listed.getD j false = true → ∀ i, ordered b i j = true → listed.getD i false = true :=
      closed_ordered (L := fun j => listed.getD j false = true) hb (fun j o ho => (drawOk_all ok ho).1) hclo hinl
    have hrd : ∀ j, ordered b j i = true → listed.getD j false = true := fun j hj => by
      obtain ⟨ed, e1, e2, e3⟩ := ordered_edge hb ho (drawOk_all ok ho).1 hj
      have he := hready ed (by simpa using e1) e2
      rcases e3 with e3 | e3
      · subst e3; exact he
      · exact hcl _ he j e3
    obtain ⟨n1, n2⟩ := T.next ok (L := fun j => listed.getD j false) hcl ho hni hrd
    have hL : (fun n => listed.getD n false || n == i) = fun j => (listed.setIfInBounds i true).getD j false := by
      funext j
      by_cases hji : j = i
      · subst hji; simp [hlt]
      · rw [getD_set_ne false (Ne.symm hji)]
        have : (j == i) = false := by simpa using hji
        rw [this, Bool.or_false]
    unfold wpOp
    rw [ho']
    simp only
    refine stepA_sim hC hs (fun n hdn => by rw [hss.size]; exact hd n (dst_in ho hdn)) n1 fun r' a' w' hs' hss' => ?_
    rw [← n2] at hs'
    rw [hL] at hs'
    refine ih _ r' a' w' (by simpa using hsz) ?_ hs' (hss.trans hss') ?_
    · have : (listed.setIfInBounds i true).toList = listed.toList.set i true := by simp
      have hv' : listed.toList[i]'(by simpa using hlt) = false := by simpa using hv
      have hc := List.count_set (a := true) (b := false) (l := listed.toList) (i := i) (by simpa using hlt)
      have hpos : 0 < listed.toList.count false := List.count_pos_iff.2 (by rw [← hv']; exact List.getElem_mem _)
      rw [hv'] at hc
      simp only [beq_self_eq_true, if_true] at hc
      rw [this, hc]
      have e0 : (if (true == false) = true then 1 else 0) = 0 := rfl
      rw [e0]
      omega
    · intro j o' hj ho2 ed hed hbd
      by_cases hji : j = i
      · subst hji
        rw [ho] at ho2; cases ho2
        exact getD_set_true (hready ed (by simpa using hed) hbd)
      · rw [getD_set_ne false (Ne.symm hji)] at hj
        exact getD_set_true (hclo j o' hj ho2 ed hed hbd)
theorem regionA_sim (hC : OSound P C) (hm : P.follows .mixedOrders = true) {id : Nat} {opsA : Array Oper} {draw : Bool} {r : Ren} {e e' : Env} {h h' : Heap} {a : Act} {w : World} (hs : SR P base r e h a w) (hd : ∀ n ∈ dstsOps opsA.toList, n < a.tmps.size) (k : regionA P C opsA.toList draw e h = some (e', h'))
    (hn : ∀ r' a' w', SR P base r' e' h' a' w' → SS base r a w r' a' w' → Q .normal a' w') : (Code.region id opsA draw).wp P Q a w := by
  unfold regionA at k
  cases draw with
  | false =>
    simp only [Bool.false_eq_true, if_false] at k
    refine wp_region_list ?_
    exact opsA_sim hC opsA.toList r e h a w e' hs hd k hn
  | true =>
    simp only [if_true] at k
    split at k
    case isFalse => cases k
    rename_i ok
    obtain ⟨E, Hh, V, T, t1, t2, t3, t4⟩ := drawA_trace (opsA.toList.zipIdx) 0 e h [] [] e' h' (by simp) (by omega) k (fun _ => e) (fun _ => h) (fun _ => undef) rfl rfl (fun i o hi => by omega) (fun i j o o' hi => by omega) (fun i j o o' hi => by omega) (fun x => by simp) (fun x => by simp)
    refine wp_region_any hm ?_
    have key := drawn_sim hC T rfl ok (r0 := r) (a0 := a) (w0 := { w with drawn := w.drawn + 1 }) (Q := Q) hd (fun r' a' w' hs' hss' => hn r' a' w' (by rw [t3, t4] at hs'; exact hs') ⟨hss'.le, Below.trans (Below.drew (Below.refl base w)) hss'.below, hss'.size⟩) opsA.size (Array.replicate opsA.size false) r a { w with drawn := w.drawn + 1 } (by simp) (by simp)
    have hrep : ∀ j, (Array.replicate opsA.size false).getD j false = false := fun j => by
      rw [Array.getD_eq_getD_getElem?]
      cases hx : (Array.replicate opsA.size false)[j]? with
      | none => rfl
      | some v =>
        obtain ⟨h1, h2⟩ := Array.getElem?_eq_some_iff.1 hx
        simp at h2
        subst h2; rfl
    have hz : (fun j => (Array.replicate opsA.size false).getD j false) = fun _ => false := funext hrep
    rw [hz] at key
    have e0 : ∀ n, envU opsA.toList V (E 0) (fun _ => false) n = E 0 := fun n => by induction n with
      | zero => rfl
      | succ n ih => unfold envU; simpa using ih
    have h0 : ∀ n, heapU opsA.toList Hh (fun _ => false) n = Hh 0 := fun n => by induction n with
      | zero => rfl
      | succ n ih => unfold heapU; simpa using ih
    rw [e0, h0, t1, t2] at key
    exact key hs.drawn ⟨Ren.le.refl _, Below.refl _ _, rfl⟩ (fun j o hj => by rw [hrep] at hj; cases hj)
end
end Go.Proofs.Ytlihmncbhaimkaa.Am
