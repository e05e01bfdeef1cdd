/- Operations of the abstract machine are those of the model: makes, places, cuts. -/
import Derived.Test.YtlihmncbhaimkaaAmOps2
namespace Go.Proofs.Ytlihmncbhaimkaa.Am
open Go Go.RowKit

section
variable {P : Program} {base : Nat} {r : Ren} {h h' : Heap} {w : World}
theorem RV.int_inv {k : IntKind} {n : Int} {v : Value} (hv : RV r (.int k n) v) : v = .int k n := by cases hv; rfl
theorem RV.bool_inv {b : Bool} {v : Value} (hv : RV r (.bool b) v) : v = .bool b := by cases hv; rfl
theorem RV.string_inv {s : ByteArray} {v : Value} (hv : RV r (.string s) v) : v = .string s := by cases hv; rfl

theorem wrap64_id {n : Int} (h0 : 0 ≤ n) (h1 : n ≤ 70368744177664) : IntKind.i64.wrap n = n := by
  have e : (2 : Int) ^ (64 : Nat) = 18446744073709551616 := by decide
  have e2 : (2 : Int) ^ (63 : Nat) = 9223372036854775808 := by decide
  simp only [IntKind.wrap, IntKind.bits, IntKind.signed, Bool.true_and, decide_eq_true_eq, e, e2, show 64 - 1 = 63 from rfl]
  rw [Int.emod_eq_of_lt h0 (by omega), if_neg (by omega)]
theorem makeSliceA_sim (hr : RH P base r h w) {t : TypeId} {l c l' c' v : Value} (hl : RV r l l') (hc : RV r c c') (k : makeSliceA P t l c h = some (v, h')) :
    ∃ r' v' w', (Instr.makeSlice t l' c').run P w = .ok v' w' ∧ RV r' v v' ∧ Step P base r w r' h' w' := by
  unfold makeSliceA at k
  split at k
  · rename_i l c
    obtain rfl := hl.int_inv
    obtain rfl := hc.int_inv
    cases he : elemT P t with
    | none => rw [he] at k; cases k
    | some e =>
      rw [he] at k
      simp only [Option.bind_some] at k
      cases hz : zeroT P e with
      | none => rw [hz] at k; cases k
      | some z =>
        rw [hz] at k
        simp only [Option.bind_some] at k
        split at k
        case isFalse => cases k
        rename_i hb
        obtain ⟨b1, b2, b3, b4, b5, b6⟩ := hb
        cases k
        obtain ⟨zv, z1, z2, z3⟩ := zeroT_run (r := r) hz w
        obtain ⟨ie, hie⟩ := zeroT_info hz
        have hzs : zv.cells.size = sz P e := by rw [← b5, z2]; simp
        have hby : by_ P e = ie.bytes := by simp [by_, Program.bytesOf, hie]
        have hrange := z3.reps (by omega) c.toNat (c.toNat * sz P e) (by rw [hzs])
        have hc0 : (0 : Int) ≤ c := by omega
        have hbig : ¬ ((ie.bytes : Int) * c > 2 ^ 48) := by
          rw [hby] at b3
          have : (2 : Int) ^ 48 = 281474976710656 := by decide
          rw [Int.mul_comm]
          omega
        obtain ⟨w', e1, e2⟩ := newRow_sim hr e hrange (sz P e) false
        refine ⟨_, _, w', ?_, RV.new_slice l.toNat c.toNat (by omega), e2⟩
        have hcond : ((c < 0 || decide ((ie.bytes : Int) * c > 2 ^ 48)) || decide (l < 0) || decide (l > c)) = false := by
          simp only [Bool.or_eq_false_iff, decide_eq_false_iff_not]
          exact ⟨⟨⟨by omega, hbig⟩, by omega⟩, by omega⟩
        by_cases h0 : c.toNat * sz P e = 0
        · rw [h0] at e1
          simp only [Instr.makeSlice, asInt, asIntOf, Sem.run_bind, Sem.run_pure, run_under (elemT_under he), Result.andThen_ok, run_typeInfo hie, wrap64_id hc0 b4, wrap64_id b1 (by omega : l ≤ 70368744177664), hcond, Bool.false_eq_true, if_false, run_askRoom, run_sz' hie, h0, if_true]
          have e3 : (newRow e ((Array.range 0).map fun i => (#[] : Array Value)[i % (#[] : Array Value).size]!)).run P w = .ok ⟨w.heap.size, 0, none⟩ w' := by
            rw [← e1]
            exact congrArg (fun a => (newRow e a).run P w) (show (Array.range 0).map _ = (Array.range 0).map _ from by rw [show Array.range 0 = #[] from rfl, Array.map_empty, Array.map_empty])
          rw [e3]
          rfl
        · simp only [Instr.makeSlice, asInt, asIntOf, Sem.run_bind, Sem.run_pure, run_under (elemT_under he), Result.andThen_ok, run_typeInfo hie, wrap64_id hc0 b4, wrap64_id b1 (by omega : l ≤ 70368744177664), hcond, Bool.false_eq_true, if_false, run_askRoom, run_sz' hie, h0, z1, e1]
  · cases k

/-! ### Places -/
theorem fieldAddrA_sim {s : TypeId} {x x' v : Value} {f : Nat} (hx : RV r x x') (k : fieldAddrA P s x f = some v) : ∃ v', (Instr.fieldAt s x' f).run P w = .ok v' w ∧ RV r v v' := by
  unfold fieldAddrA at k
  split at k
  · rename_i b i
    cases hx with
    | ptr _ _ y hy =>
      split at k
      · rename_i fs hu
        cases hf : fs[f]? with
        | none => rw [hf] at k; cases k
        | some fd =>
          rw [hf] at k
          simp only [Option.bind_some] at k
          split at k
          · cases k
          · rename_i hsz
            cases k
            have hi : ∃ i, P.info? fd.type = some i := by
              cases hi : P.info? fd.type with
              | none => simp [sz, Program.cellsOf, hi] at hsz
              | some i => exact ⟨i, rfl⟩
            obtain ⟨ii, hi⟩ := hi
            refine ⟨.pointer (some ⟨y.c, y.o + (i + fd.offset), none⟩), ?_, .ptr _ _ _ hy⟩
            simp only [Instr.fieldAt, Sem.run_bind, run_under hu, Result.andThen_ok, hf, Instr.sureAddr, Sem.run_pure, fieldPlace, run_sz' hi, hsz, if_false, addr_add, Nat.add_assoc]
      · cases k
  · cases k
theorem rdCells_rel {cs l : List Value} {Cs : Array Value} (hc : RL r cs Cs.toList) {i n : Nat} (k : rdCells cs i n = some l) : RL r l (Cs.extract i (i + n)).toList := by
  unfold rdCells at k
  split at k
  · cases k
    have : (Cs.extract i (i + n)).toList = (Cs.toList.drop i).take n := by
      simp [Array.toList_extract, List.extract_eq_take_drop]
    rw [this]
    exact (hc.drop i).take n
  · cases k
theorem partA_sim {t : TypeId} {cs : List Value} {Cs : Array Value} {off : Nat} {v : Value} (hc : RL r cs Cs.toList) (k : partA P t cs off = some v) : ∃ v', (part t Cs off).run P w = .ok v' w ∧ RV r v v' := by
  unfold partA at k
  cases hg : aggT P t with
  | none => rw [hg] at k; cases k
  | some g =>
    rw [hg] at k
    simp only [Option.bind_some] at k
    obtain ⟨d, hd⟩ := aggT_under hg
    simp only [part, Sem.run_bind, run_agg hg, Result.andThen_ok, Sem.run_ite]
    cases g with
    | true =>
      simp only [if_true] at k ⊢
      cases hl : rdCells cs off (sz P t) with
      | none => rw [hl] at k; cases k
      | some l =>
        rw [hl] at k
        cases k
        refine ⟨.agg (Cs.extract off (off + sz P t)), by simp [run_sz hd], ?_⟩
        have := RV.of_agg (rdCells_rel hc hl)
        rwa [Array.toArray_toList] at this
    | false =>
      simp only [if_false, Bool.false_eq_true] at k ⊢
      obtain ⟨v', e1, e2⟩ := hc.get k
      rw [Array.getElem?_toList] at e1
      exact ⟨v', by simp [e1], e2⟩
theorem fieldA_sim {s : TypeId} {x x' v : Value} {f : Nat} (hx : RV r x x') (k : fieldA P s x f = some v) : ∃ v', (Instr.field s x' f).run P w = .ok v' w ∧ RV r v v' := by
  unfold fieldA at k
  split at k
  · rename_i cs
    obtain ⟨ys, rfl, hl⟩ := hx.agg_inv
    split at k
    · rename_i fs hu
      cases hf : fs[f]? with
      | none => rw [hf] at k; cases k
      | some fd =>
        rw [hf] at k
        simp only [Option.bind_some] at k
        obtain ⟨v', e1, e2⟩ := partA_sim (w := w) hl k
        refine ⟨v', ?_, e2⟩
        simp only [Instr.field, Sem.run_bind, run_under hu, Result.andThen_ok, hf, asAgg, Sem.run_pure, e1]
    · cases k
  · cases k
theorem indexAddrA_sim {t : TypeId} {x x' i i' v : Value} (hx : RV r x x') (hi : RV r i i') (k : indexAddrA P t x i = some v) : ∃ v', (Instr.indexAt t x' i').run P w = .ok v' w ∧ RV r v v' := by
  unfold indexAddrA at k
  split at k
  · rename_i kd n
    obtain rfl := hi.int_inv
    split at k
    · rename_i e b o len cap hu
      cases hx with
      | slice _ _ _ _ c2 a y hy h1 h2 h3 h4 =>
        split at k
        · rename_i hn
          cases k
          have hne : c2 ≠ 0 := by omega
          have ha := h3 hne
          subst ha
          refine ⟨.pointer (some ⟨y.c, y.o + (o + n.toNat * sz P e), none⟩), ?_, .ptr _ _ _ hy⟩
          obtain ⟨ie, hie⟩ := Option.isSome_iff_exists.1 hn.1
          have hm := run_sz' hie w
          have hn := hn.2
          simp only [Instr.indexAt, asIntOf, Sem.run_bind, Sem.run_pure, Result.andThen_ok, run_under hu, hn, and_self, if_true, hm, addr_add, Nat.add_assoc]
        · cases k
    · rename_i len e b o hu
      cases hx with
      | ptr _ _ y hy =>
        split at k
        · rename_i hn
          cases k
          refine ⟨.pointer (some ⟨y.c, y.o + (o + n.toNat * sz P e), none⟩), ?_, .ptr _ _ _ hy⟩
          obtain ⟨ie, hie⟩ := Option.isSome_iff_exists.1 hn.1
          have hm := run_sz' hie w
          have hn := hn.2
          simp only [Instr.indexAt, asIntOf, Instr.sureAddr, Sem.run_bind, Sem.run_pure, Result.andThen_ok, run_under hu, hn, and_self, if_true, hm, addr_add, Nat.add_assoc]
        · cases k
    · cases k
  · cases k
end
end Go.Proofs.Ytlihmncbhaimkaa.Am
