/- Operations of the abstract machine are those of the model: append of zeros, cap, clear, least and greatest, maps. -/
import Derived.Test.YtlihmncbhaimkaaAmOps7
import Derived.Laws.Entries
namespace Go.Proofs.Ytlihmncbhaimkaa.Am
open Go Go.RowKit

section
variable {P : Program} {base : Nat} {r : Ren} {h h' : Heap} {w w' : World}
theorem capA_sim {t : TypeId} {x x' v : Value} {ts : Array TypeId} {ty : TypeId} (ht : ts[0]? = some t) (hx : RV r x x') (k : capA P t x = some v) : (Builtin.cap_ ts ty #[x']).run P w = .ok v w ∧ RV r v v := by
  unfold capA at k
  split at k
  · rename_i e hu; cases hx; cases k
    exact ⟨by simp [Builtin.cap_, ht, run_under hu, goInt], .int _ _⟩
  · cases k
theorem zeroCells_reps (z : Value) (n : Nat) (hz : 0 < z.cells.size) : RL r (reps n z.cells.toList) (reps n z.cells.toList) → (Builtin.zeroCells z.cells n).toList = reps n z.cells.toList := fun _ => by
  apply List.ext_getElem?
  intro i
  by_cases hi : i < n * z.cells.toList.length
  · rw [reps_get _ (by simpa using hz) n i hi]
    simp only [Builtin.zeroCells, Array.length_toList] at hi ⊢
    simp only [Array.getElem?_toList, Array.getElem?_map, Array.getElem?_range, hi, if_true, Option.map_some]
    have hmod : i % z.cells.size < z.cells.size := Nat.mod_lt _ hz
    simp [hmod]
  · rw [List.getElem?_eq_none (l := reps n z.cells.toList) (by rw [reps_length]; omega), List.getElem?_eq_none (by simp [Builtin.zeroCells]; simp at hi; omega)]
theorem RL.repsSelf {z : List Value} (k : RL r z z) : ∀ n, RL r (Am.reps n z) (Am.reps n z)
  | 0 => RL.nil r
  | n + 1 => by rw [reps_succ]; exact k.append (RL.repsSelf k n)
theorem appendZA_sim (hr : RH P base r h w) {sT xT : TypeId} {ts : Array TypeId} {ty : TypeId} {s s' x x' v : Value} (h1 : ts[0]? = some sT) (h2 : ts[1]? = some xT) (hi : isIntT P xT = true) (hu : (P.underlying xT).isSome = true) (hs : RV r s s') (hx : RV r x x')
    (k : appendZA P sT s x h = some (v, h')) : ∃ r' v' w', (Builtin.append_ ts ty #[s', x']).run P w = .ok v' w' ∧ RV r' v v' ∧ Step P base r w r' h' w' := by
  unfold appendZA at k
  cases he : elemT P sT with
  | none => rw [he] at k; cases k
  | some e =>
  rw [he] at k
  simp only [Option.bind_some] at k
  cases hz : zeroT P e with
  | none => rw [hz] at k; cases k
  | some z =>
  rw [hz] at k
  simp only [Option.bind_some] at k
  split at k
  · cases k
  rename_i hc
  split at k
  case h_2 => cases k
  rename_i n
  split at k
  case isFalse => cases k
  rename_i hb
  cases k
  cases hs
  obtain rfl := hx.int_inv
  obtain ⟨ie, hie⟩ := zeroT_info hz
  have hby : by_ P e = ie.bytes := by simp [by_, Program.bytesOf, hie]
  obtain ⟨kd, hkd⟩ : ∃ kd, P.underlying xT = some (.int kd) := by
    unfold isIntT at hi
    split at hi
    · rename_i kd hk; exact ⟨kd, hk⟩
    · cases hi
    · rename_i hk; rw [hk] at hu; cases hu
  obtain ⟨t, ht⟩ := choose_cap (P := P) (0 + n.toNat) 0 e w
  obtain ⟨zv, z1, z2, z3⟩ := zeroT_run (r := r) hz { w with drawn := w.drawn + 1 }
  have hzs : zv.cells.size = sz P e := by rw [← show z.length = sz P e by omega, z2]; simp
  have hpos : 0 < zv.cells.size := by omega
  have hn0 : (0 : Int) ≤ n := by omega
  have hw := wrap64_id hn0 hb.2.2
  have hneg : ¬ (n < 0) := by omega
  have hbytes : ¬ (n * (ie.bytes : Int) > 2 ^ 48) := by
    have : (2 : Int) ^ 48 = 281474976710656 := by decide
    rw [hby] at hb
    omega
  have hnc : ¬ (0 + n.toNat ≤ 0) := by omega
  have hbig1 : ¬ (((0 + n.toNat : Nat) : Int) > IntKind.i64.max ∧ (True ∨ ie.bytes = 0)) := by
    have : IntKind.i64.max = 9223372036854775807 := by decide
    rw [this]; omega
  have hbig2 : ¬ (Builtin.nextslicecap (0 + n.toNat) 0 * ie.bytes > 2 ^ 48) := by
    have h48 : (2 : Nat) ^ 48 = 281474976710656 := by decide
    have h1 := Nat.mul_le_mul_right ie.bytes (nextcap_le (show 0 < 0 + n.toNat by omega))
    rw [Nat.add_mul, Nat.mul_assoc, Nat.zero_add] at h1
    have h2 : by_ P e ≤ 65536 := by omega
    rw [hby] at hb h2
    have h3 : n.toNat * ie.bytes ≤ 70368744177664 := by
      have e1 := hb.2.1
      have e2 : ((n.toNat * ie.bytes : Nat) : Int) = n * (ie.bytes : Int) := by rw [Int.natCast_mul, Int.toNat_of_nonneg hn0]
      omega
    rw [Nat.zero_add]
    omega
  have hn1 : ¬ (n.toNat * sz P e = 0) := by
    have := Nat.mul_pos (show 0 < n.toNat by omega) (show 0 < sz P e by omega)
    omega
  have hself : RL r (reps n.toNat zv.cells.toList) (reps n.toNat zv.cells.toList) := RL.repsSelf (by rw [← z2] at z3 ⊢; exact z3) _
  let Cs : Array Value := #[] ++ Builtin.zeroCells zv.cells n.toNat ++ Builtin.zeroCells zv.cells (0 + n.toNat + t - (0 + n.toNat))
  have hrun : (Builtin.append_ ts ty #[.slice none 0 0, .int .i64 n]).run P w = .ok (.slice (some ⟨w.heap.size, 0, none⟩) (0 + n.toNat) (0 + n.toNat + t)) { w with drawn := w.drawn + 1, heap := w.heap.push (.cells Cs e) } := by
    unfold Builtin.append_
    simp only [h1, h2, List.getElem?_toArray, List.getElem?_cons_zero, List.getElem?_cons_succ, Sem.run_bind, run_under (elemT_under he), Result.andThen_ok, run_sz' hie, run_under hkd, Sem.run_pure, asInt, asIntOf, hw, hneg, if_false, if_true, run_typeInfo hie, hbytes, hnc, hbig1, hbig2, ht, run_askRoom, Builtin.firstCells, Bool.not_true, Bool.false_eq_true, hn1, z1, newRow, run_newObj]
    rfl
  have hz' : (Builtin.zeroCells zv.cells n.toNat).toList = reps n.toNat zv.cells.toList := zeroCells_reps zv _ hpos hself
  have hr1 : RH P base r h { w with drawn := w.drawn + 1 } := hr.of_heap rfl
  have hsz : (reps n.toNat z).length ≤ Cs.size := by
    simp only [reps_length, Cs, Array.size_append, Builtin.zeroCells, Array.size_map, Array.size_range, hzs]
    rw [show z.length = sz P e by omega]
    simp
  have hCs : Cs.size = (n.toNat + t) * sz P e := by
    simp only [Cs, Array.size_append, Builtin.zeroCells, Array.size_map, Array.size_range, hzs, Nat.add_mul]
    rw [show 0 + n.toNat + t - (0 + n.toNat) = t by omega]
    simp
  have hnew := hr1.new (cs := reps n.toNat z) (Cs := Cs) (sz P e) true e (fz := (0, 0)) hsz (fun i u hu' => by
    rw [z2] at hu'
    obtain ⟨u', g1, g2⟩ := hself.get hu'
    refine ⟨u', ?_, g2⟩
    have hi := (List.getElem?_eq_some_iff.1 g1).1
    rw [← hz'] at g1 hi
    rw [← Array.getElem?_toList]
    simp only [Cs, Array.toList_append, List.nil_append]
    rw [List.getElem?_append, if_pos (by simpa using hi)]
    simpa using g1) (fun i _ => by simp)
  refine ⟨_, _, _, hrun, ?_, Ren.le_put hr.none_next _, hnew, below_drawn.trans (below_push hr1.base_le _)⟩
  rw [Nat.zero_add]
  refine .slice h.next 0 _ _ _ _ _ (Ren.put_self _ _ _) (Nat.le_refl _) (by omega) (fun _ => rfl) (.inr ⟨rfl, ?_, ?_⟩)
  · show 0 + n.toNat * sz P e = (reps n.toNat z).length
    rw [reps_length, show z.length = sz P e by omega]; simp
  · show 0 + 0 + (n.toNat + t) * sz P e ≤ Cs.size
    rw [hCs]; simp
theorem clearA_sim (hr : RH P base r h w) {t : TypeId} {ts : Array TypeId} {ty : TypeId} {x x' v : Value} (h1 : ts[0]? = some t) (hx : RV r x x') (k : clearA P t x h = some (v, h')) :
    ∃ w', (Builtin.clear_ ts ty #[x']).run P w = .ok (.tuple #[]) w' ∧ v = .tuple #[] ∧ Step P base r w r h' w' := by
  unfold clearA at k
  split at k
  · rename_i e a n c hu
    split at k
    · rename_i hn
      subst hn
      cases k
      refine ⟨w, ?_, rfl, Step.refl hr⟩
      cases hx <;> simp [Builtin.clear_, h1, run_under hu]
    · rename_i hn
      split at k
      · rename_i b o
        cases hz : zeroT P e with
        | none => rw [hz] at k; cases k
        | some z =>
        rw [hz] at k
        simp only [Option.bind_some] at k
        split at k
        case isFalse => cases k
        rename_i hzl
        cases hst : storeC h b o (reps n z) with
        | none => rw [hst] at k; cases k
        | some h2 =>
        rw [hst] at k
        cases k
        cases hx with
        | slice _ _ _ _ c2 a y hy q1 q2 q3 q4 =>
          obtain ⟨zv, z1, z2, z3⟩ := zeroT_run (r := r) hz w
          have hpos : 0 < zv.cells.size := by rw [z2] at hzl; simpa using hzl
          have hself : RL r (reps n zv.cells.toList) (reps n zv.cells.toList) := RL.repsSelf (by rw [← z2] at z3 ⊢; exact z3) _
          rw [z2] at hst
          obtain ⟨w', e1, e2⟩ := storeC_sim hr hy hself hst (y.o + o) rfl
          refine ⟨w', ?_, rfl, e2⟩
          rw [← zeroCells_reps zv n hpos hself, ← q3 (by omega)] at e1
          simp only [Builtin.clear_, h1, List.getElem?_toArray, List.getElem?_cons_zero, Sem.run_bind, run_under hu, Result.andThen_ok]
          cases n with
          | zero => exact absurd rfl hn
          | succ m => simp only [z1, Result.andThen_ok, e1, Sem.run_pure]
      · cases k
  · cases k
theorem minmaxA_go_max {kd : IntKind} : ∀ (l : List Value) (a : Int) (v : Value) (l' : List Value), RL r l l' → minmaxA.go true kd a l = some v → (l'.foldlM Builtin.max2 (.int kd a)).run P w = .ok v w ∧ RV r v v
  | [], a, v, l', hl, k => by
    obtain rfl := hl.nil_inv
    simp only [minmaxA.go] at k; cases k
    exact ⟨rfl, .int _ _⟩
  | x :: l, a, v, l', hl, k => by
    obtain ⟨x', k', rfl, e1, e2⟩ := hl.cons_inv
    unfold minmaxA.go at k
    split at k
    · rename_i e; cases e
    · rename_i kd' b rest e
      cases e
      split at k
      case isFalse => cases k
      rename_i hk
      subst hk
      obtain rfl := e1.int_inv
      simp only [if_true] at k
      have := minmaxA_go_max _ _ _ _ e2 k
      refine ⟨?_, this.2⟩
      simp only [List.foldlM_cons, Sem.run_bind, Builtin.max2, Sem.run_pure, Result.andThen_ok]
      exact this.1
    · cases k
theorem minmaxA_go_min {kd : IntKind} : ∀ (l : List Value) (a : Int) (v : Value) (l' : List Value), RL r l l' → minmaxA.go false kd a l = some v → (l'.foldlM Builtin.min2 (.int kd a)).run P w = .ok v w ∧ RV r v v
  | [], a, v, l', hl, k => by
    obtain rfl := hl.nil_inv
    simp only [minmaxA.go] at k; cases k
    exact ⟨rfl, .int _ _⟩
  | x :: l, a, v, l', hl, k => by
    obtain ⟨x', k', rfl, e1, e2⟩ := hl.cons_inv
    unfold minmaxA.go at k
    split at k
    · rename_i e; cases e
    · rename_i kd' b rest e
      cases e
      split at k
      case isFalse => cases k
      rename_i hk
      subst hk
      obtain rfl := e1.int_inv
      simp only [if_false, Bool.false_eq_true] at k
      have := minmaxA_go_min _ _ _ _ e2 k
      refine ⟨?_, this.2⟩
      simp only [List.foldlM_cons, Sem.run_bind, Builtin.min2, Sem.run_pure, Result.andThen_ok]
      exact this.1
    · cases k
theorem maxA_sim {ts : Array TypeId} {ty : TypeId} {l : List Value} {A : Array Value} {v : Value} (hl : RL r l A.toList) (k : minmaxA true l = some v) : (Builtin.max_ ts ty A).run P w = .ok v w ∧ RV r v v := by
  unfold minmaxA at k
  split at k
  · rename_i kd a rest
    obtain ⟨x', k', e, e1, e2⟩ := hl.cons_inv
    obtain rfl := e1.int_inv
    unfold Builtin.max_
    rw [e]
    exact minmaxA_go_max _ _ _ _ e2 k
  · cases k
theorem minA_sim {ts : Array TypeId} {ty : TypeId} {l : List Value} {A : Array Value} {v : Value} (hl : RL r l A.toList) (k : minmaxA false l = some v) : (Builtin.min_ ts ty A).run P w = .ok v w ∧ RV r v v := by
  unfold minmaxA at k
  split at k
  · rename_i kd a rest
    obtain ⟨x', k', e, e1, e2⟩ := hl.cons_inv
    obtain rfl := e1.int_inv
    unfold Builtin.min_
    rw [e]
    exact minmaxA_go_min _ _ _ _ e2 k
  · cases k
end
end Go.Proofs.Ytlihmncbhaimkaa.Am
