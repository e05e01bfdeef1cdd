/- Operations of the abstract machine are those of the model: append, copy, clear, least and greatest. -/
import Derived.Test.YtlihmncbhaimkaaAmOps6
namespace Go.Proofs.Ytlihmncbhaimkaa.Am
open Go Go.RowKit

section
variable {P : Program} {base : Nat} {r : Ren} {h h' : Heap} {w w' : World}
/-- The model's append where the row has room. -/
theorem append_in {sT xT e : TypeId} {ts : Array TypeId} {ty : TypeId} {z : List Value} (T : AppT P ts sT xT e z) {bs : Option Addr} {len cap n : Nat} {x' : Value} {New : Array Value}
    (n0 : (Builtin.lenOf x').run P w = .ok n w) (n1 : (Builtin.firstCells (sz P e) n x').run P w = .ok New w) (hcap : len + n ≤ cap)
    (hst : ∀ a, bs = some a → (storeCells (a.add (len * sz P e)) New.toList).run P w = .ok () w') (hno : bs = none → w' = w) :
    (Builtin.append_ ts ty #[.slice bs len cap, x']).run P w = .ok (.slice bs (len + n) cap) w' := by
  obtain ⟨ie, hie⟩ := zeroT_info T.hz
  obtain ⟨d, hd1, hd2⟩ := notInt T.hi
  unfold Builtin.append_
  simp only [T.h1, T.h2, List.getElem?_toArray, List.getElem?_cons_zero, List.getElem?_cons_succ, Sem.run_bind, run_under (elemT_under T.he), Result.andThen_ok, run_sz' hie, run_under hd1, Sem.run_pure]
  cases bs with
  | none =>
    obtain rfl := hno rfl
    cases d <;> first
      | (cases hd2; done)
      | (simp only [Bool.false_eq_true, if_false, Sem.run_bind, n0, Result.andThen_ok, hcap, if_true, Bool.not_false, n1, Sem.run_pure]
         done)
  | some a =>
    have := hst a rfl
    cases d <;> first
      | (cases hd2; done)
      | (simp only [Bool.false_eq_true, if_false, Sem.run_bind, n0, Result.andThen_ok, hcap, if_true, Bool.not_false, n1, this, Sem.run_pure]
         done)
theorem appendA_sim (hr : RH P base r h w) {sT xT : TypeId} {ts : Array TypeId} {ty : TypeId} {s s' x x' v : Value} (h1 : ts[0]? = some sT) (h2 : ts[1]? = some xT) (hs : RV r s s') (hx : RV r x x') (k : appendA P sT xT s x h = some (v, h')) :
    ∃ r' v' w', (Builtin.append_ ts ty #[s', x']).run P w = .ok v' w' ∧ RV r' v v' ∧ Step P base r w r' h' w' := by
  unfold appendA at k
  split at k
  · cases k
  rename_i hi
  cases he : elemT P sT with
  | none => rw [he] at k; cases k
  | some e =>
  rw [he] at k
  simp only [Option.bind_some] at k
  cases hz : zeroT P e with
  | none => rw [hz] at k; cases k
  | some z =>
  rw [hz] at k
  simp only [Option.bind_some] at k
  split at k
  · cases k
  rename_i hc
  have T : AppT P ts sT xT e z := ⟨h1, h2, by simpa using hi, he, hz, by omega, by omega, by omega⟩
  clear hc hi
  split at k
  · -- a nil slice
    cases hs
    cases k1 : srcLen x with
    | none => rw [k1] at k; cases k
    | some n =>
    rw [k1] at k
    simp only [Option.bind_some] at k
    cases k2 : srcCells (sz P e) x h with
    | none => rw [k2] at k; cases k
    | some new =>
    rw [k2] at k
    simp only [Option.bind_some] at k
    obtain ⟨New, n1, n2, n0, n3⟩ := srcCells_sim hr hx k1 k2
    split at k
    · rename_i hn
      subst hn
      cases k
      exact ⟨r, .slice none 0 0, w, append_in T n0 n1 (Nat.le_refl _) (fun a ha => by cases ha) (fun _ => rfl), .nilSlice, Step.refl hr⟩
    · rename_i hn
      split at k
      case isFalse => cases k
      rename_i hb
      cases k
      obtain ⟨c2, Cs, e1, e2, e3, e4, e5⟩ := append_new (ty := ty) hr T (bs := none) (len := 0) (cap := 0) (old := []) hx k1 k2 (fun W _ => ⟨#[], rfl, RL.nil r⟩) (by simp) (by omega) (by simpa using hb.1) (by simpa using hb.2)
      have hr1 : RH P base r h { w with drawn := w.drawn + 1 } := hr.of_heap rfl
      simp only [List.nil_append] at e4 e5
      have hsz : new.length ≤ Cs.size := by rw [e5, e3]; exact Nat.mul_le_mul_right _ e2
      have hnew := hr1.new (cs := new) (Cs := Cs) (sz P e) true e (fz := (0, 0)) hsz e4 (fun i _ => by simp)
      refine ⟨_, _, _, e1, ?_, Ren.le_put hr.none_next _, hnew, below_drawn.trans (below_push hr1.base_le _)⟩
      rw [Nat.zero_add] at e2 ⊢
      refine .slice h.next 0 n n c2 _ _ (Ren.put_self _ _ _) (Nat.le_refl _) e2 (fun _ => rfl) (.inr ⟨rfl, ?_, ?_⟩)
      · show 0 + n * sz P e = new.length; rw [e5]; simp
      · show 0 + 0 + c2 * sz P e ≤ Cs.size; rw [e3]; simp
  · -- a row
    rename_i b o len cap
    cases hs with
    | slice _ _ _ _ cap2 a y hy q1 q2 q3 q4 =>
    cases k1 : srcLen x with
    | none => rw [k1] at k; cases k
    | some n =>
    rw [k1] at k
    simp only [Option.bind_some] at k
    cases k2 : srcCells (sz P e) x h with
    | none => rw [k2] at k; cases k
    | some new =>
    rw [k2] at k
    simp only [Option.bind_some] at k
    obtain ⟨New, n1, n2, n0, n3⟩ := srcCells_sim hr hx k1 k2
    split at k
    · rename_i hn
      subst hn
      cases k
      have hnil : New.toList = [] := List.eq_nil_of_length_eq_zero (by rw [← n2.1, n3]; simp)
      exact ⟨r, .slice (some a) len cap2, w, append_in T n0 n1 (by omega) (fun a' ha => by rw [hnil]; rfl) (fun ha => by cases ha), .slice b o len cap cap2 a y hy q1 q2 q3 q4, Step.refl hr⟩
    rename_i hn
    split at k
    · rename_i hroom
      cases hst : storeC h b (o + len * sz P e) new with
      | none => rw [hst] at k; cases k
      | some h2 =>
        rw [hst] at k
        cases k
        have ha := q3 (by omega)
        obtain ⟨w', e1, e2⟩ := storeC_sim hr hy n2 hst (y.o + o + len * sz P e) (by omega)
        refine ⟨r, .slice (some a) (len + n) cap2, w', append_in T n0 n1 (by omega) (fun a' ha' => ?_) (fun ha => by cases ha), .slice b o (len + n) cap cap2 a y hy (by omega) q2 q3 q4, e2⟩
        cases ha'
        rw [ha, addr_add]
        exact e1
    rename_i hroom
    split at k
    case isFalse => cases k
    rename_i hb
    split at k
    case h_2 => cases k
    rename_i cs es g ro hbl
    obtain ⟨y1, y2, y3, y4, Cs0, ty0, fz0, y5, y6, y7, y8⟩ := hr.cells b y cs es g ro hy hbl
    cases hold : rdCells cs o (len * sz P e) with
    | none => rw [hold] at k; cases k
    | some old =>
    rw [hold] at k
    simp only [Option.bind_some] at k
    have holdC : loadC h b o (len * sz P e) = some old := by unfold loadC; rw [hbl]; exact hold
    have holdlen : old.length = len * sz P e := by
      unfold rdCells at hold
      split at hold
      · cases hold; simp; omega
      · cases hold
    have hfirst : ∀ W : World, RH P base r h W → ∃ Old : Array Value, (Builtin.firstCells (sz P e) len (.slice (some a) len cap2)).run P W = .ok Old W ∧ RL r old Old.toList := fun W hW => by
      obtain ⟨A, f1, f2, _, _⟩ := srcCells_sim (x := .slice (some ⟨b, o, none⟩) len cap) (size := sz P e) hW (.slice b o len cap cap2 a y hy q1 q2 q3 q4) rfl (show srcCells (sz P e) (.slice (some ⟨b, o, none⟩) len cap) h = some old from holdC)
      exact ⟨A, f1, f2⟩
    -- a new row in the model
    have fresh : cap2 < len + n → ∀ h0 : Heap, RH P base r h0 { w with drawn := w.drawn + 1 } → h0.next = h.next → ∃ r' v' w', (Builtin.append_ ts ty #[.slice (some a) len cap2, x']).run P w = .ok v' w' ∧
        RV r' (.slice (some ⟨h.next, 0, none⟩) (len + n) (len + n)) v' ∧ Step P base r w r' (h0.push (.cells (old ++ new) (sz P e) true false)) w' := by
      intro hlt h0 hr0 hnx
      obtain ⟨c2, Cs, e1, e2, e3, e4, e5⟩ := append_new (ty := ty) hr T (bs := some a) (len := len) (cap := cap2) (old := old) hx k1 k2 hfirst holdlen hlt hb.1 hb.2
      have hsz : (old ++ new).length ≤ Cs.size := by rw [e5, e3]; exact Nat.mul_le_mul_right _ e2
      have hnew := hr0.new (cs := old ++ new) (Cs := Cs) (sz P e) true e (fz := (0, 0)) hsz e4 (fun i _ => by simp)
      refine ⟨_, _, _, e1, ?_, Ren.le_put hr0.none_next _, hnew, below_drawn.trans (below_push hr0.base_le _)⟩
      rw [← hnx]
      refine .slice h0.next 0 _ _ c2 _ _ (Ren.put_self _ _ _) (Nat.le_refl _) e2 (fun _ => rfl) (.inr ⟨rfl, ?_, ?_⟩)
      · show 0 + (len + n) * sz P e = (old ++ new).length; rw [e5]; simp
      · show 0 + 0 + c2 * sz P e ≤ Cs.size; rw [e3]; simp
    have hr1 : RH P base r h { w with drawn := w.drawn + 1 } := hr.of_heap rfl
    split at k
    · rename_i hg
      split at k
      case isFalse => cases k
      rename_i hes
      cases k
      have hcap : cap = cap2 := by
        rcases q4 with q4 | ⟨q5, q6, q7⟩
        · exact q4
        · rcases hg with hg | hg
          · rw [hg] at y3; rw [y3] at q5; cases q5
          · have hge : g = true := by rw [← y3]; exact q5
            have : es = sz P e := hes.resolve_right (by rw [hge]; simp)
            rw [y1, this, y2] at q6
            omega
      exact fresh (by omega) h hr1 rfl
    · rename_i hg
      split at k
      case isFalse => cases k
      rename_i hes
      obtain ⟨hes, hro, hnone⟩ := hes
      subst hro
      cases k
      have hg2 : g = true := by
        cases g with
        | true => rfl
        | false => exact absurd (.inl rfl) hg
      subst hg2
      by_cases hlt : cap2 < len + n
      · exact fresh hlt (h.kill b) (hr1.kill b) rfl
      · -- the model goes on in the row
        have hne : cap2 ≠ 0 := by omega
        have ha := q3 hne
        obtain ⟨q5, q6, q7⟩ : y.grow = true ∧ o + cap * y.esz = y.len ∧ y.o + o + cap2 * y.esz ≤ y.sz := by
          rcases q4 with q4 | q4
          · omega
          · exact q4
        have hlen2 : (len + n) * sz P e ≤ cap2 * sz P e := Nat.mul_le_mul_right _ (by omega)
        have hall : (old ++ new).length = (len + n) * sz P e := by rw [List.length_append, holdlen, n3, Nat.add_mul]
        rw [y1, hes] at q7
        have hNl : New.toList.length = n * sz P e := by rw [← n2.1, n3]
        have hNs : New.size = n * sz P e := by simpa using hNl
        have hone : ∀ v ∈ New.toList, v.oneCell' = true := n2.ones hnone
        have hmul := Nat.add_mul len n (sz P e)
        have hst := run_storeCells_free P y.c (y.o + o + len * sz P e) ty0 fz0 New.toList 0 Cs0 w y5 (unfrozen_of y5 (y8 rfl).2) (by omega) hone
        have hgrow := hr.growIn hy hbl y5 (Cs' := (wrCells Cs0.toList (y.o + o + len * sz P e) New.toList).toArray) (ds := old ++ new) (by simp [wrCells_length]) o (by omega) (fun i u hu => by
          rw [List.getElem?_toArray, wrCells_get _ _ _ _ (by simp only [Array.length_toList]; omega)]
          rw [List.getElem?_append] at hu
          split at hu
          · rename_i hi
            rw [if_neg (by omega)]
            unfold rdCells at hold
            split at hold
            · cases hold
              rw [List.getElem?_take] at hu
              split at hu
              · rw [List.getElem?_drop] at hu
                obtain ⟨u', g1, g2⟩ := y7 _ _ hu
                exact ⟨u', by rw [Array.getElem?_toList, ← g1]; congr 1; omega, g2⟩
              · cases hu
            · cases hold
          · rename_i hi
            have hi2 := (List.getElem?_eq_some_iff.1 hu).1
            rw [if_pos (by omega)]
            obtain ⟨u', g1, g2⟩ := n2.get hu
            exact ⟨u', by rw [← g1]; congr 1; omega, g2⟩)
        rw [hes] at hgrow
        refine ⟨_, .slice (some a) (len + n) cap2, _, append_in T n0 n1 (by omega) (fun a' ha' => ?_) (fun ha => by cases ha), ?_, Ren.le_put hr.none_next _, hgrow, below_setRow (y8 rfl).1 _⟩
        · cases ha'
          rw [ha, addr_add]
          exact hst
        · refine .slice h.next 0 _ _ cap2 _ _ (Ren.put_self _ _ _) (Nat.le_refl _) (by omega) (fun _ => ha) (.inr ⟨rfl, ?_, ?_⟩)
          · show 0 + (len + n) * sz P e = (old ++ new).length; rw [hall]; simp
          · show y.o + o + 0 + cap2 * sz P e ≤ y.sz; omega
  · cases k
end
end Go.Proofs.Ytlihmncbhaimkaa.Am
