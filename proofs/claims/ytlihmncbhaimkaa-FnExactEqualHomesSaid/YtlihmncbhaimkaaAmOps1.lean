/- Operations of the abstract machine are those of the model: loads, stores, new variables, parts, places. -/
import Derived.Test.YtlihmncbhaimkaaAmHeap2
import Derived.Laws.Cells
namespace Go.Proofs.Ytlihmncbhaimkaa.Am
open Go Go.RowKit

section
variable {P : Program} {base : Nat} {r : Ren} {h h' : Heap} {w : World}
theorem RV.isOne {v v' : Value} (k : RV r v v') : isOne v = v'.oneCell' := by cases k <;> rfl
theorem isOne_cells {v : Value} (k : Am.isOne v = true) : v.cells = #[v] := by cases v <;> first | rfl | (simp [Am.isOne] at k)
theorem oneCell_cells {v : Value} (k : v.oneCell' = true) : v.cells = #[v] := by cases v <;> first | rfl | (simp [Value.oneCell'] at k)
theorem RV.agg_inv' {l : List Value} {v : Value} (k : RV r (.agg l.toArray) v) : ∃ ys, v = .agg ys ∧ RL r l ys.toList := by
  obtain ⟨ys, e, hl⟩ := RV.agg_inv k
  exact ⟨ys, e, by simpa using hl⟩

/-! ### Types -/
theorem info_of_under {t : TypeId} {d : TypeDesc} (k : P.underlying t = some d) : ∃ i, P.info? t = some i := by
  unfold Program.underlying at k
  split at k
  · rename_i hi; exact ⟨_, hi⟩
  · rename_i i hi; exact ⟨_, hi⟩
  · cases k
theorem run_under {t : TypeId} {d : TypeDesc} (k : P.underlying t = some d) (w : World) : (underlying t).run P w = .ok d w := by simp [underlying, k]
theorem run_typeInfo {t : TypeId} {i : TypeInfo} (k : P.info? t = some i) (w : World) : (typeInfo t).run P w = .ok i w := by simp [typeInfo, k]
theorem run_sz {t : TypeId} {d : TypeDesc} (k : P.underlying t = some d) (w : World) : (sizeOf t).run P w = .ok (sz P t) w := by
  obtain ⟨i, hi⟩ := info_of_under k
  simp [sizeOf, typeInfo, hi, sz, Program.cellsOf]
theorem run_sz' {t : TypeId} {i : TypeInfo} (hi : P.info? t = some i) (w : World) : (sizeOf t).run P w = .ok (sz P t) w := by
  simp [sizeOf, typeInfo, hi, sz, Program.cellsOf]
theorem run_agg {t : TypeId} {g : Bool} (k : aggT P t = some g) (w : World) : (isAgg t).run P w = .ok g w := by
  unfold aggT at k
  cases hu : P.underlying t with
  | none => rw [hu] at k; cases k
  | some d =>
    rw [hu] at k
    cases k
    simp only [isAgg, Sem.run_bind, run_under hu, Result.andThen_ok]
    cases d <;> rfl
theorem aggT_under {t : TypeId} {g : Bool} (k : aggT P t = some g) : ∃ d, P.underlying t = some d := by
  unfold aggT at k
  cases hu : P.underlying t with
  | none => rw [hu] at k; cases k
  | some d => exact ⟨d, rfl⟩
theorem zeroV_run {t : TypeId} {z : Value} (k : zeroV P t = some z) (w : World) : (zeroValue t).run P w = .ok z w ∧ closedV 3 z = true := by
  unfold zeroV at k
  cases hi : P.info? t with
  | none => rw [hi] at k; cases k
  | some i =>
    rw [hi] at k
    cases hz : i.zero with
    | none => simp [hz] at k
    | some v =>
      simp only [Option.bind_some, hz] at k
      split at k
      · rename_i hc; cases k; exact ⟨by simp [zeroValue, typeInfo, hi, hz], hc⟩
      · cases k

/-! ### Reading -/
theorem addr_add (c o n : Nat) : (⟨c, o, none⟩ : Addr).add n = ⟨c, o + n, none⟩ := by unfold Addr.add; split <;> simp_all
theorem cell_at {w : World} {c o : Nat} {Cs : Array Value} {ty : TypeId} {fz : Nat × Nat} (k : w.heap[c]? = some (.cells Cs ty fz)) : w.cell? ⟨c, o, none⟩ = Cs[o]? := by simp [World.cell?, k]
/-- The model's cells from a place on. -/
theorem RH.read (hr : RH P base r h w) {b : Nat} {x : RB} (hx : r b = some x) {i n : Nat} {l : List Value} (k : loadC h b i n = some l) :
    ∃ l', l'.length = n ∧ RL r l l' ∧ ∀ (j : Nat) v, l'[j]? = some v → w.cell? ⟨x.c, x.o + i + j, none⟩ = some v := by
  unfold loadC at k
  split at k
  · rename_i cs esz g ro hb
    obtain ⟨h1, h2, h3, h4, Cs, ty, fz, h5, h6, h7, h8⟩ := hr.cells b x cs esz g ro hx hb
    unfold rdCells at k
    split at k
    · rename_i hle
      cases k
      refine ⟨(Cs.toList.drop (x.o + i)).take n, by simp; omega, ⟨by simp; omega, fun j v v' hv hv' => ?_⟩, fun j v hv => ?_⟩
      · rw [List.getElem?_take] at hv hv'
        split at hv
        · rename_i hj
          rw [if_pos hj, List.getElem?_drop] at hv'
          rw [List.getElem?_drop] at hv
          obtain ⟨u, hu, hru⟩ := h7 _ _ hv
          rw [Array.getElem?_toList, Nat.add_assoc, hu] at hv'
          cases hv'
          exact hru
        · cases hv
      · rw [List.getElem?_take] at hv
        split at hv
        · rw [List.getElem?_drop, Array.getElem?_toList] at hv
          rw [cell_at h5, hv]
        · cases hv
    · cases k
  · cases k
theorem loadCells_run {c o n : Nat} {l : List Value} (hl : l.length = n) (k : ∀ (j : Nat) v, l[j]? = some v → w.cell? ⟨c, o + j, none⟩ = some v) : (loadCells ⟨c, o, none⟩ n).run P w = .ok l.toArray w := by
  subst hl
  exact run_loadCells_list w _ l fun j v hv => by rw [addr_add]; exact k j v hv
theorem load1_sim (hr : RH P base r h w) {b i : Nat} {x : RB} {v : Value} (hx : r b = some x) (k : load1 h b i = some v) : ∃ v', w.cell? ⟨x.c, x.o + i, none⟩ = some v' ∧ RV r v v' := by
  unfold load1 at k
  split at k
  · rename_i cs esz g ro hb
    obtain ⟨h1, h2, h3, h4, Cs, ty, fz, h5, h6, h7, h8⟩ := hr.cells b x cs esz g ro hx hb
    obtain ⟨v', h9, h10⟩ := h7 i v k
    exact ⟨v', by rw [cell_at h5]; exact h9, h10⟩
  · cases k
theorem loadA_sim (hr : RH P base r h w) {t : TypeId} {p p' v : Value} (hp : RV r p p') (k : loadA P t h p = some v) : ∃ v', (Instr.loadAt t p').run P w = .ok v' w ∧ RV r v v' := by
  unfold loadA at k
  split at k
  · rename_i b i
    cases hp with
    | ptr _ _ x hx =>
      cases hg : aggT P t with
      | none => rw [hg] at k; cases k
      | some g =>
        rw [hg] at k
        simp only [Option.bind_some] at k
        obtain ⟨d, hd⟩ := aggT_under hg
        simp only [Instr.loadAt, Instr.sureAddr, loadVar, Sem.run_bind, Sem.run_pure, Result.andThen_ok, run_agg hg, Sem.run_ite, run_sz hd]
        cases g with
        | true =>
          simp only [if_true] at k ⊢
          cases hl : loadC h b i (sz P t) with
          | none => rw [hl] at k; cases k
          | some l =>
            rw [hl] at k
            cases k
            obtain ⟨l', e1, e2, e3⟩ := hr.read hx hl
            rw [loadCells_run e1 e3]
            exact ⟨_, rfl, RV.of_agg e2⟩
        | false =>
          simp only [if_false, Bool.false_eq_true] at k ⊢
          obtain ⟨v', e1, e2⟩ := load1_sim hr hx k
          refine ⟨v', ?_, e2⟩
          rw [run_load, e1]
  · cases k

/-! ### The cells of a value -/
theorem flatT_sim {t : TypeId} {v v' : Value} {cs : List Value} (hv : RV r v v') (k : flatT P t v = some cs) : RL r cs v'.cells.toList ∧ v'.cells.size = sz P t ∧ (∃ d, P.underlying t = some d) := by
  unfold flatT at k
  cases hg : aggT P t with
  | none => rw [hg] at k; cases k
  | some g =>
    rw [hg] at k
    simp only [Option.bind_some] at k
    cases g with
    | true =>
      simp only [if_true] at k
      split at k
      · rename_i xs
        split at k
        · rename_i hs
          cases k
          obtain ⟨ys, e, hl⟩ := RV.agg_inv hv
          subst e
          exact ⟨hl, by rw [← hs]; simpa [Value.cells] using hl.1.symm, aggT_under hg⟩
        · cases k
      · cases k
    | false =>
      simp only [if_false, Bool.false_eq_true] at k
      split at k
      · rename_i h1
        cases k
        have := h1.1
        rw [hv.isOne] at this
        rw [oneCell_cells this]
        exact ⟨RL.cons hv (RL.nil r), by simp [h1.2], aggT_under hg⟩
      · cases k
theorem RL.ones {l l' : List Value} (k : RL r l l') (h1 : l.all Am.isOne = true) : ∀ v ∈ l', v.oneCell' = true := fun v hv => by
  obtain ⟨i, hi⟩ := List.mem_iff_getElem?.1 hv
  have hlt : i < l.length := by have := (List.getElem?_eq_some_iff.1 hi).1; rw [k.1]; exact this
  have := k.2 i l[i] v (by simp [hlt]) hi
  rw [← this.isOne]
  exact List.all_eq_true.1 h1 _ (List.getElem_mem hlt)

/-! ### Steps -/
structure Step (P : Program) (base : Nat) (r : Ren) (w : World) (r' : Ren) (h' : Heap) (w' : World) : Prop where
  le : Ren.le r r'
  rh : RH P base r' h' w'
  below : Below base w w'
theorem Step.refl (hr : RH P base r h w) : Step P base r w r h w := ⟨Ren.le.refl r, hr, Below.refl _ _⟩
theorem Step.trans {r1 r2 : Ren} {w1 w2 : World} {h1 h2 : Heap} (a : Step P base r w r1 h1 w1) (b : Step P base r1 w1 r2 h2 w2) : Step P base r w r2 h2 w2 := ⟨a.le.trans b.le, b.rh, a.below.trans b.below⟩
theorem below_push (hb : base ≤ w.heap.size) (o : Obj) : Below base w { w with heap := w.heap.push o } := (Below.refl base w).alloc hb o
theorem below_setRow {c : Nat} (hb : base ≤ c) (cs : Array Value) : Below base w (w.setRow c cs) := ⟨rfl, rfl, rfl, by simp, fun k hk => setRow_other _ _ _ _ (by omega)⟩
theorem below_drawn : Below base w { w with drawn := w.drawn + 1 } := ⟨rfl, rfl, rfl, Nat.le_refl _, fun _ _ => rfl⟩

/-! ### Stores -/
theorem storeC_sim (hr : RH P base r h w) {b i : Nat} {x : RB} (hx : r b = some x) {vs vs' : List Value} (hv : RL r vs vs') (k : storeC h b i vs = some h') (f : Nat) (hf : x.o + i = f) :
    ∃ w', (storeCells ⟨x.c, f, none⟩ vs').run P w = .ok () w' ∧ Step P base r w r h' w' := by
  subst hf
  unfold storeC at k
  split at k
  · rename_i cs esz g ro hb
    split at k
    · cases k
    · rename_i hro
      have : ro = false := by simpa using hro
      subst this
      split at k
      · rename_i hle
        split at k
        · rename_i hone
          cases k
          obtain ⟨h1, h2, h3, h4, Cs, ty, fz, h5, h6, h7, h8⟩ := hr.cells b x cs esz g false hx hb
          have hlen := hv.1
          have hstore := run_storeCells_free P x.c (x.o + i) ty fz vs' 0 Cs w h5 (unfrozen_of h5 (h8 rfl).2) (by omega) (hv.ones hone)
          refine ⟨_, hstore, Ren.le.refl r, hr.write hx hb h5 (by simp [wrCells_length]) (wrCells_length _ _ _) (fun j v hj => ?_), below_setRow (h8 rfl).1 _⟩
          rw [wrCells_get _ _ _ _ hle] at hj
          rw [List.getElem?_toArray, wrCells_get _ _ _ _ (by simp; omega)]
          by_cases hin : i ≤ j ∧ j < i + vs.length
          · rw [if_pos hin] at hj
            rw [if_pos (by omega)]
            obtain ⟨v', e1, e2⟩ := hv.get hj
            exact ⟨v', by rw [← e1]; congr 1; omega, e2⟩
          · rw [if_neg hin] at hj
            rw [if_neg (by omega)]
            obtain ⟨v', e1, e2⟩ := h7 j v hj
            exact ⟨v', by simpa using e1, e2⟩
        · cases k
      · cases k
  · cases k
theorem storeA_sim (hr : RH P base r h w) {t : TypeId} {p p' v v' : Value} (hp : RV r p p') (hv : RV r v v') (k : storeA P t h p v = some h') :
    ∃ w', (Instr.storeAt t p' v').run P w = .ok () w' ∧ Step P base r w r h' w' := by
  unfold storeA at k
  split at k
  · rename_i b i
    cases hp with
    | ptr _ _ x hx =>
      cases hf : flatT P t v with
      | none => rw [hf] at k; cases k
      | some cs =>
        rw [hf] at k
        obtain ⟨e1, e2, d, hd⟩ := flatT_sim hv hf
        obtain ⟨w', e3, e4⟩ := storeC_sim hr hx e1 k _ rfl
        refine ⟨w', ?_, e4⟩
        simp only [Instr.storeAt, Instr.sureAddr, storeVar, Sem.run_bind, Sem.run_pure, Result.andThen_ok, run_sz hd, e2, ne_eq, not_true_eq_false, if_false]
        exact e3
  · cases k

/-! ### New variables -/
theorem newRow_sim (hr : RH P base r h w) (t : TypeId) {cs : List Value} {Cs : Array Value} (hc : RL r cs Cs.toList) (esz : Nat) (grow : Bool) :
    ∃ w', (newRow t Cs).run P w = .ok ⟨w.heap.size, 0, none⟩ w' ∧ Step P base r w (r.put h.next ⟨w.heap.size, 0, Cs.size, esz, cs.length, grow⟩) (h.push (.cells cs esz grow false)) w' := by
  refine ⟨{ w with heap := w.heap.push (.cells Cs t) }, by simp [newRow], Ren.le_put hr.none_next _, ?_, below_push hr.base_le _⟩
  have hlen := hc.1
  refine hr.new esz grow t (by simp at hlen; omega) (fun i v hv => ?_) (fun i hi => by simp)
  obtain ⟨v', e1, e2⟩ := hc.get hv
  exact ⟨v', by simpa using e1, e2⟩
theorem newA_sim (hr : RH P base r h w) (t : TypeId) {v' : Value} {cs : List Value} (hc : RL r cs v'.cells.toList) :
    ∃ r' w' u', (newVar t v').run P w = .ok u' w' ∧ RV r' (newA P t h cs).1 (.pointer (some u')) ∧ Step P base r w r' (newA P t h cs).2 w' := by
  obtain ⟨w', e1, e2⟩ := newRow_sim hr t hc (sz P t) false
  refine ⟨_, w', _, e1, ?_, e2⟩
  exact .ptr h.next 0 _ (Ren.put_self _ _ _)
end
end Go.Proofs.Ytlihmncbhaimkaa.Am
