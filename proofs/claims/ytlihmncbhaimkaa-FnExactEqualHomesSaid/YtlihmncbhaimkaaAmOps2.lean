/- Operations of the abstract machine are those of the model: building, parts, places, cuts. -/
import Derived.Test.YtlihmncbhaimkaaAmOps1
namespace Go.Proofs.Ytlihmncbhaimkaa.Am
open Go Go.RowKit

section
variable {P : Program} {base : Nat} {r : Ren} {h h' : Heap} {w : World}

/-! ### Building -/
/-- Parts that are related: the same places, related values. -/
def RP (r : Ren) (ps : List (Nat × Value)) (qs : List (Nat × Value)) : Prop := ps.map (·.1) = qs.map (·.1) ∧ RL r (ps.map (·.2)) (qs.map (·.2))
theorem RP.cons_inv {p : Nat × Value} {ps qs : List (Nat × Value)} (k : RP r (p :: ps) qs) : ∃ q qs', qs = q :: qs' ∧ q.1 = p.1 ∧ RV r p.2 q.2 ∧ RP r ps qs' := by
  cases qs with
  | nil => have := k.1; simp at this
  | cons q qs' =>
    have h1 := k.1
    simp only [List.map_cons, List.cons.injEq] at h1
    exact ⟨q, qs', rfl, h1.1.symm, k.2.head, h1.2, k.2.tail⟩
theorem fold_wr (u : List Value) : ∀ (cs : Array Value) (off : Nat), (u.zipIdx.foldl (fun (cs : Array Value) (c, j) => cs.setIfInBounds (off + j) c) cs).toList = wrCells cs.toList off u := by
  have key : ∀ (u : List Value) (cs : Array Value) (off n : Nat), ((u.zipIdx n).foldl (fun (cs : Array Value) (c, j) => cs.setIfInBounds (off + j) c) cs).toList = wrCells cs.toList (off + n) u := by
    intro u
    induction u with
    | nil => intro cs off n; rfl
    | cons v u ih =>
      intro cs off n
      simp only [List.zipIdx_cons, List.foldl_cons, wrCells]
      rw [ih]
      simp [Nat.add_assoc]
  intro cs off
  exact key u cs off 0
theorem RL.wr {cs cs' vs vs' : List Value} (hc : RL r cs cs') (hv : RL r vs vs') (i : Nat) : RL r (wrCells cs i vs) (wrCells cs' i vs') := by
  induction vs generalizing cs cs' vs' i with
  | nil => obtain rfl := hv.nil_inv; exact hc
  | cons v vs ih =>
    obtain ⟨v', l', rfl, h1, h2⟩ := hv.cons_inv
    exact ih (hc.set i h1) h2 (i + 1)
theorem fillA_sim {place : Nat → Option (Nat × TypeId)} {place' : Nat → Option (Nat × Nat)} (hp : ∀ i o t, place i = some (o, t) → place' i = some (o, sz P t)) : ∀ (ps qs : List (Nat × Value)) (cs cs2 : List Value) (Cs : Array Value),
    RP r ps qs → RL r cs Cs.toList → fillA P place cs ps = some cs2 → ∃ Cs2, Instr.fill place' Cs qs = some Cs2 ∧ RL r cs2 Cs2.toList
  | [], qs, cs, cs2, Cs, h1, h2, k => by
    have : qs = [] := by have := h1.1; simpa using this.symm
    subst this
    simp only [fillA] at k
    cases k
    exact ⟨Cs, rfl, h2⟩
  | p :: ps, qs, cs, cs2, Cs, h1, h2, k => by
    obtain ⟨q, qs', rfl, e1, e2, e3⟩ := h1.cons_inv
    obtain ⟨i, v⟩ := p
    obtain ⟨i', v'⟩ := q
    simp only at e1 e2
    subst e1
    simp only [fillA] at k
    cases hpl : place i' with
    | none => simp [hpl] at k
    | some ot =>
      obtain ⟨off, t⟩ := ot
      simp only [hpl] at k
      cases hf : flatT P t v with
      | none => rw [hf] at k; cases k
      | some vs =>
        rw [hf] at k
        simp only [Option.bind_some] at k
        split at k
        · rename_i hsz
          split at k
          · rename_i hle
            obtain ⟨f1, f2, _⟩ := flatT_sim e2 hf
            have hlen := f1.1
            have hlen2 := h2.1
            simp only [Array.length_toList] at hlen hlen2
            have hsize : v'.cells.size = sz P t := f2
            have hcond : (decide (v'.cells.size ≠ sz P t) || decide (off + v'.cells.size > Cs.size)) = false := by
              simp only [Bool.or_eq_false_iff, decide_eq_false_iff_not]
              omega
            obtain ⟨Cs2, g1, g2⟩ := fillA_sim hp ps qs' _ cs2 (v'.cells.zipIdx.foldl (fun cs (c, j) => cs.setIfInBounds (off + j) c) Cs) e3 (by
              rw [← Array.foldl_toList, Array.toList_zipIdx, fold_wr]
              exact h2.wr f1 off) k
            refine ⟨Cs2, ?_, g2⟩
            simp only [Instr.fill, hp _ _ _ hpl, hcond, Bool.false_eq_true, if_false]
            exact g1
          · cases k
        · cases k
theorem zeroT_run {t : TypeId} {z : List Value} (k : zeroT P t = some z) (w : World) : ∃ zv, (zeroValue t).run P w = .ok zv w ∧ z = zv.cells.toList ∧ RL r z zv.cells.toList := by
  unfold zeroT at k
  cases hz : zeroV P t with
  | none => rw [hz] at k; cases k
  | some zv =>
    rw [hz] at k
    cases k
    obtain ⟨h1, h2⟩ := zeroV_run hz w
    exact ⟨zv, h1, rfl, RL.closed h2⟩
theorem run_mapM_arr {α β : Type} (f : α → Sem β) (g : α → β) (w : World) : ∀ (l : List α), (∀ x ∈ l, (f x).run P w = .ok (g x) w) → (l.mapM f).run P w = .ok (l.map g) w
  | [], _ => by simp
  | x :: l, hx => by
    have ih := run_mapM_arr f g w l (fun y hy => hx y (by simp [hy]))
    simp only [List.mapM_cons, Sem.run_bind, hx x (by simp), Result.andThen_ok, ih, Sem.run_pure, List.map_cons]
theorem buildA_sim {t : TypeId} {ps qs : Array (Nat × Value)} {v : Value} (hps : RP r ps.toList qs.toList) (k : buildA P t ps.toList = some v) :
    ∃ v', (Instr.build t qs).run P w = .ok v' w ∧ RV r v v' := by
  unfold buildA at k
  cases hz : zeroT P t with
  | none => rw [hz] at k; cases k
  | some z =>
    rw [hz] at k
    simp only [Option.bind_some] at k
    obtain ⟨zv, z1, z2, z3⟩ := zeroT_run (r := r) hz w
    split at k
    · rename_i fs hu
      split at k
      case isFalse => cases k
      rename_i hinfo
      rw [List.all_eq_true] at hinfo
      cases hf : fillA P (fun i => (fs[i]?).map fun f => (f.offset, f.type)) z ps.toList with
      | none => rw [hf] at k; cases k
      | some cs =>
        rw [hf] at k
        cases k
        have hplace : ∀ (i : Nat) (o : Nat) (t' : TypeId), ((fs[i]?).map fun f : Field => (f.offset, f.type)) = some (o, t') → (fs.map fun f : Field => (f.offset, sz P f.type))[i]? = some (o, sz P t') := fun i o t' e => by
          cases hfi : fs[i]? with
          | none => rw [hfi] at e; cases e
          | some f => rw [hfi] at e; cases e; simp [hfi]
        obtain ⟨Cs2, g1, g2⟩ := fillA_sim (place' := fun i => (fs.map fun f : Field => (f.offset, sz P f.type))[i]?) hplace ps.toList qs.toList z cs zv.cells hps z3 hf
        refine ⟨.agg Cs2, ?_, RV.agg _ _ (by simpa using g2.1) fun i u u' hu' hu2 => g2.2 i u u' (by simpa using hu') (by simpa using hu2)⟩
        have hmap : (fs.mapM fun f : Field => (do pure (f.offset, ← sizeOf f.type) : Sem (Nat × Nat))).run P w = .ok (fs.map fun f : Field => (f.offset, sz P f.type)) w := by
          rw [Array.mapM_eq_mapM_toList, Sem.run_map, run_mapM_arr (g := fun f : Field => (f.offset, sz P f.type)) _ w fs.toList (fun f hfm => by
            obtain ⟨i, hi⟩ := Option.isSome_iff_exists.1 (hinfo f hfm)
            simp [run_sz' hi])]
          simp only [Result.andThen_ok]
          congr 1
          apply Array.ext'
          simp
        simp only [Instr.build, Sem.run_bind, z1, Result.andThen_ok, run_under hu, hmap]
        rw [g1]
        rfl
    · rename_i n e hu
      split at k
      case isFalse => cases k
      rename_i hinfo
      obtain ⟨ie, hie⟩ := Option.isSome_iff_exists.1 hinfo
      cases hf : fillA P (fun i => some (i * sz P e, e)) z ps.toList with
      | none => rw [hf] at k; cases k
      | some cs =>
        rw [hf] at k
        cases k
        obtain ⟨Cs2, g1, g2⟩ := fillA_sim (place' := fun i => some (i * sz P e, sz P e)) (fun i o t' e => by cases e; rfl) ps.toList qs.toList z cs zv.cells hps z3 hf
        refine ⟨.agg Cs2, ?_, RV.agg _ _ (by simpa using g2.1) fun i u u' hu' hu2 => g2.2 i u u' (by simpa using hu') (by simpa using hu2)⟩
        simp only [Instr.build, Sem.run_bind, z1, Result.andThen_ok, run_under hu, run_sz' hie]
        rw [g1]
        rfl
    · cases k

theorem reps_length (n : Nat) (z : List Value) : (reps n z).length = n * z.length := by
  unfold reps
  induction n with
  | zero => simp
  | succ n ih => rw [List.replicate_succ, List.flatten_cons, List.length_append, ih, Nat.succ_mul]; omega
theorem reps_succ (n : Nat) (z : List Value) : reps (n + 1) z = z ++ reps n z := by simp [reps, List.replicate_succ]
theorem reps_get (z : List Value) (hz : 0 < z.length) : ∀ (n i : Nat), i < n * z.length → (reps n z)[i]? = z[i % z.length]?
  | 0, i, hi => by simp at hi
  | n + 1, i, hi => by
    rw [reps_succ, List.getElem?_append]
    split
    · rename_i h; rw [Nat.mod_eq_of_lt h]
    · rename_i h
      rw [reps_get z hz n _ (by rw [Nat.succ_mul] at hi; omega), ← Nat.mod_eq_sub_mod (by omega)]
theorem RL.reps {z : List Value} {zc : Array Value} (k : RL r z zc.toList) (hz : 0 < z.length) (n : Nat) (m : Nat) (hm : m = n * zc.size) : RL r (Am.reps n z) ((Array.range m).map fun i => zc[i % zc.size]!).toList := by
  subst hm
  have hl := k.1
  simp only [Array.length_toList] at hl
  refine ⟨by simp [reps_length, hl], fun i v v' hv hv' => ?_⟩
  have hi : i < n * z.length := by have := (List.getElem?_eq_some_iff.1 hv).1; rwa [reps_length] at this
  rw [reps_get z hz n i hi] at hv
  have hi2 : i < n * zc.size := by rw [← hl]; exact hi
  simp only [Array.getElem?_toList, Array.getElem?_map, Array.getElem?_range, hi2, if_true, Option.map_some, Option.some.injEq] at hv'
  subst hv'
  have hmod : i % zc.size < zc.size := Nat.mod_lt _ (by omega)
  refine k.2 (i % z.length) v _ hv ?_
  rw [hl, Array.getElem?_toList]
  simp [hmod]
theorem elemT_under {t e : TypeId} (k : elemT P t = some e) : P.underlying t = some (.slice e) := by
  unfold elemT at k
  split at k
  · rename_i e' hu; cases k; exact hu
  · cases k
theorem zeroT_info {t : TypeId} {z : List Value} (k : zeroT P t = some z) : ∃ i, P.info? t = some i := by
  unfold zeroT zeroV at k
  cases hi : P.info? t with
  | none => rw [hi] at k; cases k
  | some i => exact ⟨i, rfl⟩
theorem RV.new_slice {r : Ren} {b c sz esz len : Nat} {g : Bool} (m cap : Nat) (h1 : m ≤ cap) : RV (r.put b ⟨c, 0, sz, esz, len, g⟩) (.slice (some ⟨b, 0, none⟩) m cap) (.slice (some ⟨c, 0, none⟩) m cap) :=
  .slice b 0 m cap cap _ _ (Ren.put_self _ _ _) h1 (Nat.le_refl _) (fun _ => rfl) (.inl rfl)
theorem buildSliceA_sim (hr : RH P base r h w) {t : TypeId} {n : Nat} {ps qs : Array (Nat × Value)} {v : Value} (hps : RP r ps.toList qs.toList) (k : buildSliceA P t n ps.toList h = some (v, h')) :
    ∃ r' v' w', (Instr.buildSlice t n qs).run P w = .ok v' w' ∧ RV r' v v' ∧ Step P base r w r' h' w' := by
  unfold buildSliceA at k
  cases he : elemT P t with
  | none => rw [he] at k; cases k
  | some e =>
    rw [he] at k
    simp only [Option.bind_some] at k
    cases hz : zeroT P e with
    | none => rw [hz] at k; cases k
    | some z =>
      rw [hz] at k
      simp only [Option.bind_some] at k
      split at k
      case isFalse => cases k
      rename_i hzl
      split at k
      case isFalse => cases k
      rename_i hb
      obtain ⟨hpos, hb⟩ := hb
      cases hf : fillA P (fun i => some (i * sz P e, e)) (reps n z) ps.toList with
      | none => rw [hf] at k; cases k
      | some cs =>
        rw [hf] at k
        cases k
        obtain ⟨zv, z1, z2, z3⟩ := zeroT_run (r := r) hz w
        obtain ⟨ie, hie⟩ := zeroT_info hz
        have hzs : zv.cells.size = sz P e := by rw [← hzl, z2]; simp
        have hrange := z3.reps (by omega) n (n * sz P e) (by rw [hzs])
        have hbig : ¬ (n * sz P e > 2 ^ 24) := by
          have : (2 : Nat) ^ 24 = 16777216 := by decide
          omega
        obtain ⟨Cs2, g1, g2⟩ := fillA_sim (place' := fun i => some (i * sz P e, sz P e)) (fun i o t' e => by cases e; rfl) ps.toList qs.toList (reps n z) cs ((Array.range (n * sz P e)).map fun i => (if n * sz P e = 0 then #[] else zv.cells)[i % (if n * sz P e = 0 then #[] else zv.cells).size]!) hps (by
          by_cases h0 : n * sz P e = 0
          · have hn : n = 0 := by
              rcases Nat.mul_eq_zero.1 h0 with h | h
              · exact h
              · omega
            subst hn
            simpa using hrange
          · simp only [h0, if_false]
            exact hrange) hf
        obtain ⟨w', e1, e2⟩ := newRow_sim hr e g2 (sz P e) false
        refine ⟨_, _, w', ?_, RV.new_slice n n (Nat.le_refl _), e2⟩
        by_cases h0 : n * sz P e = 0
        · simp only [h0, if_true] at g1
          simp only [Instr.buildSlice, Sem.run_bind, run_under (elemT_under he), Result.andThen_ok, run_sz' hie, h0, if_true, if_false, show ¬ (0 > 2 ^ 24) from by decide, Sem.run_pure, g1, e1]
        · simp only [h0, if_false] at g1
          simp only [Instr.buildSlice, Sem.run_bind, run_under (elemT_under he), Result.andThen_ok, run_sz' hie, hbig, if_false, h0, z1, Sem.run_pure, g1, e1]
end
end Go.Proofs.Ytlihmncbhaimkaa.Am
