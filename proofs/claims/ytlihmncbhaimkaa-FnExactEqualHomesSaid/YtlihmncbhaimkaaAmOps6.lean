/- Operations of the abstract machine are those of the model: lengths, append, copy, clear. -/
import Derived.Test.YtlihmncbhaimkaaAmOps5
namespace Go.Proofs.Ytlihmncbhaimkaa.Am
open Go Go.RowKit

section
variable {P : Program} {base : Nat} {r : Ren} {h h' : Heap} {w : World}
theorem lenA_sim (hr : RH P base r h w) {t : TypeId} {x x' v : Value} {ts : Array TypeId} {ty : TypeId} (ht : ts[0]? = some t) (hx : RV r x x') (k : lenA P t x h = some v) : (Builtin.len_ ts ty #[x']).run P w = .ok v w ∧ RV r v v := by
  unfold lenA at k
  split at k
  · rename_i s hu; cases hx; cases k
    exact ⟨by simp [Builtin.len_, ht, run_under hu, goInt], .int _ _⟩
  · rename_i e a n c hu; cases k
    cases hx <;> exact ⟨by simp [Builtin.len_, ht, run_under hu, goInt], .int _ _⟩
  · rename_i n e hu; cases k
    exact ⟨by simp [Builtin.len_, ht, run_under hu, goInt], .int _ _⟩
  · rename_i e1 e2 hu; cases hx; cases k
    exact ⟨by simp [Builtin.len_, ht, run_under hu, goInt], .int _ _⟩
  · rename_i e1 e2 b hu
    split at k
    · rename_i es hb
      cases k
      cases hx with
      | map _ y hy =>
        obtain ⟨_, Es, cl, h1, h2, _⟩ := hr.maps b y es hy hb
        have hg : (getObj y.c).run P w = .ok (.map Es cl) w := by simp [getObj, Sem.run, h1]
        exact ⟨by simp [Builtin.len_, ht, run_under hu, goInt, hg, h2], .int _ _⟩
    · cases k
  · cases k

/-! ### Sources of cells -/
theorem srcCells_sim (hr : RH P base r h w) {x x' : Value} {size n : Nat} {l : List Value} (hx : RV r x x') (k1 : srcLen x = some n) (k2 : srcCells size x h = some l) :
    ∃ A : Array Value, (Builtin.firstCells size n x').run P w = .ok A w ∧ RL r l A.toList ∧ (Builtin.lenOf x').run P w = .ok n w ∧ l.length = n * size := by
  unfold srcCells at k2
  split at k2
  · rename_i c
    cases hx
    cases k1; cases k2
    exact ⟨#[], rfl, RL.nil r, rfl, by simp⟩
  · rename_i b o m c
    cases k1
    cases hx with
    | slice _ _ _ _ c2 a y hy q1 q2 q3 q4 =>
      obtain ⟨l', e1, e2, e3⟩ := hr.read hy k2
      refine ⟨l'.toArray, ?_, by simpa using e2, rfl, by rw [e2.1]; exact e1⟩
      by_cases h0 : c2 = 0
      · have : n = 0 := by omega
        subst this
        have : l' = [] := List.eq_nil_of_length_eq_zero (by rw [e1]; simp)
        subst this
        simp only [Builtin.firstCells, Nat.zero_mul]
        rfl
      · rw [q3 h0]
        exact loadCells_run e1 e3
  · rename_i s
    obtain rfl := hx.string_inv
    split at k2
    case isFalse => cases k2
    rename_i h1
    cases k1; cases k2
    refine ⟨s.data.map fun b => .int .u8 b.toNat, ?_, RL.self_bytes s, rfl, ?_⟩
    · have : s.extract 0 s.size = s := by
        apply ByteArray.ext
        simp
      simp only [Builtin.firstCells, this, Sem.run_pure]
    · rw [h1]; simp [byteCells]
  · cases k2
theorem growBy_le (n : Nat) : ∀ (k c : Nat), Builtin.growBy n k c ≤ max c (n + (n + 768) / 4)
  | 0, c => by simp [Builtin.growBy]; omega
  | k + 1, c => by
    unfold Builtin.growBy
    split
    · omega
    · rename_i hc
      have := growBy_le n k (c + (c + 768) / 4)
      omega
theorem nextcap_le {need cap : Nat} (h : cap < need) : Builtin.nextslicecap need cap ≤ 2 * need + 200 := by
  unfold Builtin.nextslicecap
  split
  · omega
  · split
    · omega
    · have := growBy_le need 4 cap
      omega
/-- What 'append' looks at first. -/
structure AppT (P : Program) (ts : Array TypeId) (sT xT e : TypeId) (z : List Value) : Prop where
  h1 : ts[0]? = some sT
  h2 : ts[1]? = some xT
  hi : isIntT P xT = false
  he : elemT P sT = some e
  hz : zeroT P e = some z
  pos : 0 < sz P e
  hzl : z.length = sz P e
  hby : by_ P e ≤ 65536
theorem notInt {t : TypeId} (k : isIntT P t = false) : ∃ d, P.underlying t = some d ∧ (match d with
  | .int _ => true
  | _ => false) = false := by
  unfold isIntT at k
  split at k
  · cases k
  · rename_i d hd hu; exact ⟨d, hu, by cases d <;> first | rfl | exact absurd rfl (hd _)⟩
  · cases k
/-- The model's append where it makes a new row. -/
theorem append_new (hr : RH P base r h w) {sT xT e : TypeId} {ts : Array TypeId} {ty : TypeId} {z : List Value} (T : AppT P ts sT xT e z) {bs : Option Addr} {len cap n : Nat} {x x' : Value} {old new : List Value} (hx : RV r x x') (k1 : srcLen x = some n) (k2 : srcCells (sz P e) x h = some new)
    (hold : ∀ W : World, RH P base r h W → ∃ Old : Array Value, (Builtin.firstCells (sz P e) len (.slice bs len cap)).run P W = .ok Old W ∧ RL r old Old.toList) (hlen : old.length = len * sz P e)
    (hcap : cap < len + n) (hb1 : (len + n) * by_ P e ≤ 70368744177664) (hb2 : len + n ≤ 70368744177664) :
    ∃ c2 Cs, (Builtin.append_ ts ty #[.slice bs len cap, x']).run P w = .ok (.slice (some ⟨w.heap.size, 0, none⟩) (len + n) c2) { w with drawn := w.drawn + 1, heap := w.heap.push (.cells Cs e) } ∧ len + n ≤ c2 ∧ Cs.size = c2 * sz P e ∧
      (∀ (i : Nat) v, (old ++ new)[i]? = some v → ∃ v', Cs[i]? = some v' ∧ RV r v v') ∧ (old ++ new).length = (len + n) * sz P e := by
  have hr1 : RH P base r h { w with drawn := w.drawn + 1 } := hr.of_heap rfl
  obtain ⟨Old, o1, o2⟩ := hold _ hr1
  obtain ⟨_, _, _, n0, _⟩ := srcCells_sim hr hx k1 k2
  obtain ⟨New, n1, n2, _, n3⟩ := srcCells_sim hr1 hx k1 k2
  obtain ⟨t, ht⟩ := choose_cap (P := P) (len + n) cap e w
  obtain ⟨zv, z1, z2, _⟩ := zeroT_run (r := r) T.hz { w with drawn := w.drawn + 1 }
  obtain ⟨ie, hie⟩ := zeroT_info T.hz
  obtain ⟨d, hd1, hd2⟩ := notInt T.hi
  have hzs : zv.cells.size = sz P e := by rw [← T.hzl, z2]; simp
  have hby : by_ P e = ie.bytes := by simp [by_, Program.bytesOf, hie]
  have hbig1 : ¬ (((len + n : Nat) : Int) > IntKind.i64.max ∧ (False ∨ ie.bytes = 0)) := by
    have : IntKind.i64.max = 9223372036854775807 := by decide
    rw [this]; omega
  have hbig2 : ¬ (Builtin.nextslicecap (len + n) cap * ie.bytes > 2 ^ 48) := by
    have h48 : (2 : Nat) ^ 48 = 281474976710656 := by decide
    have h1 := Nat.mul_le_mul_right ie.bytes (nextcap_le hcap)
    rw [Nat.add_mul, Nat.mul_assoc] at h1
    have h2 := T.hby
    rw [hby] at hb1 h2
    omega
  refine ⟨len + n + t, Old ++ New ++ Builtin.zeroCells zv.cells (len + n + t - (len + n)), ?_, by omega, ?_, fun i v hv => ?_, ?_⟩
  · have hnc : ¬ (len + n ≤ cap) := by omega
    unfold Builtin.append_
    simp only [T.h1, T.h2, List.getElem?_toArray, List.getElem?_cons_zero, List.getElem?_cons_succ, Sem.run_bind, run_under (elemT_under T.he), Result.andThen_ok, run_sz' hie, run_under hd1, Sem.run_pure]
    cases d <;> first
      | (cases hd2; done)
      | (simp only [Bool.false_eq_true, if_false, Sem.run_bind, n0, Result.andThen_ok, hnc, run_typeInfo hie, hbig1, hbig2, ht, run_askRoom, o1, Bool.not_false, if_true, n1, z1, newRow, run_newObj, Sem.run_pure]
         done)
  · have h1 := o2.1; have h2 := n2.1
    simp only [Array.length_toList] at h1 h2
    simp only [Array.size_append, Builtin.zeroCells, Array.size_map, Array.size_range, hzs, ← h1, ← h2, hlen, n3, ← Nat.add_mul]
    congr 1
    omega
  · have hl := (o2.append n2)
    obtain ⟨v', e1, e2⟩ := hl.get hv
    have hi : i < (Old ++ New).size := by
      have := (List.getElem?_eq_some_iff.1 e1).1
      simpa using this
    refine ⟨v', ?_, e2⟩
    rw [Array.getElem?_append, if_pos hi, ← Array.getElem?_toList, Array.toList_append]
    exact e1
  · rw [List.length_append, hlen, n3, Nat.add_mul]
end
end Go.Proofs.Ytlihmncbhaimkaa.Am
