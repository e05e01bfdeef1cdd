/- Operations of the abstract machine are those of the model: cuts, indices into values, small ones, operators. -/
import Derived.Test.YtlihmncbhaimkaaAmOps3
namespace Go.Proofs.Ytlihmncbhaimkaa.Am
open Go Go.RowKit

section
variable {P : Program} {base : Nat} {r : Ren} {h h' : Heap} {w : World}
/-- An optional operand. -/
def RO (r : Ren) : Option Value → Option Value → Prop
  | none, none => True
  | some v, some v' => RV r v v'
  | _, _ => False
theorem RO.bound {d n : Nat} {x x' : Option Value} (hx : RO r x x') (k : boundA d x = some n) : x' = x := by
  cases x with
  | none => cases x' with
    | none => rfl
    | some _ => cases hx
  | some v => cases x' with
    | none => cases hx
    | some v' =>
      unfold boundA at k
      split at k
      · rename_i e; cases e
      · rename_i kd m e
        cases e
        rw [RV.int_inv hx]
      · cases k
theorem boundA_some (d d' : Nat) (v : Value) : boundA d (some v) = boundA d' (some v) := by cases v <;> rfl
theorem sliceBound_run {v : Value} {y n : Nat} {d : Nat} (code : BoundsCode) (k : boundA d (some v) = some n) (hn : n ≤ y) : (Instr.sliceBound v y code).run P w = .ok n w := by
  unfold boundA at k
  split at k
  · rename_i e; cases e
  · rename_i kd m e
    cases e
    split at k
    · rename_i h0
      cases k
      simp only [Instr.sliceBound, asIntOf, Sem.run_bind, Sem.run_pure, Result.andThen_ok]
      rw [if_pos ⟨h0, by omega⟩]
      rfl
    · cases k
  · cases k
theorem sliceBounds_run (isSlice : Bool) {len cap : Nat} {lo hi mx : Option Value} {l rr m : Nat} (h1 : boundA 0 lo = some l) (h2 : boundA len hi = some rr) (h3 : mx = none → m = cap) (h4 : mx.isSome = true → boundA cap mx = some m)
    (h5 : l ≤ rr) (h6 : rr ≤ m) (h7 : m ≤ cap) (h8 : mx.isSome = true → hi.isSome = true) : (Instr.sliceBounds isSlice len cap lo hi mx).run P w = .ok (l, rr, m) w := by
  unfold Instr.sliceBounds
  cases mx with
  | none =>
    obtain rfl := h3 rfl
    cases hi with
    | none =>
      simp only [boundA] at h2
      cases h2
      cases lo with
      | none => simp only [boundA] at h1; cases h1; rfl
      | some v => simp only [Sem.run_bind, Sem.run_pure, Result.andThen_ok, sliceBound_run _ h1 h5]
    | some u =>
      cases lo with
      | none => simp only [boundA] at h1; cases h1; simp only [Sem.run_bind, Sem.run_pure, Result.andThen_ok, sliceBound_run _ h2 h6]
      | some v => simp only [Sem.run_bind, Sem.run_pure, Result.andThen_ok, sliceBound_run _ h2 h6, sliceBound_run _ h1 h5]
  | some vm =>
    have hm := h4 rfl
    cases hi with
    | none => exact absurd (h8 rfl) (by simp)
    | some u =>
      cases lo with
      | none => simp only [boundA] at h1; cases h1; simp only [Sem.run_bind, Sem.run_pure, Result.andThen_ok, sliceBound_run _ hm h7, sliceBound_run _ h2 h6]
      | some v => simp only [Sem.run_bind, Sem.run_pure, Result.andThen_ok, sliceBound_run _ hm h7, sliceBound_run _ h2 h6, sliceBound_run _ h1 h5]
theorem sliceA_sim (hr : RH P base r h w) {t : TypeId} {x x' v : Value} {lo hi mx lo' hi' mx' : Option Value} (hx : RV r x x') (hlo : RO r lo lo') (hhi : RO r hi hi') (hmx : RO r mx mx') (k : sliceA P t x lo hi mx h = some v) :
    ∃ v', (Instr.sliceAt t x' lo' hi' mx').run P w = .ok v' w ∧ RV r v v' := by
  unfold sliceA at k
  split at k
  · rename_i s hu
    obtain rfl := hx.string_inv
    cases h1 : boundA 0 lo with
    | none => rw [h1] at k; cases k
    | some l =>
      cases h2 : boundA s.size hi with
      | none => rw [h1, h2] at k; cases k
      | some rr =>
        rw [h1, h2] at k
        simp only [Option.bind_some] at k
        split at k
        case isFalse => cases k
        rename_i hc
        obtain ⟨c1, c2, c3⟩ := hc
        cases k
        obtain rfl := hlo.bound h1
        obtain rfl := hhi.bound h2
        have hm : mx = none := by simpa using c1
        subst hm
        cases mx' with
        | some _ => cases hmx
        | none =>
          refine ⟨.string (s.extract l rr), ?_, .string _⟩
          have := sliceBounds_run (P := P) (w := w) false (cap := s.size) (mx := none) h1 h2 (fun _ => rfl) (fun e => by cases e) c2 c3 (Nat.le_refl _) (fun e => by cases e)
          simp only [Instr.sliceAt, Instr.slice, Sem.run_bind, run_under hu, Result.andThen_ok, Option.isSome_none, Bool.false_eq_true, if_false, this, Sem.run_pure]
  · rename_i e hu
    cases hx
    cases h1 : boundA 0 lo with
    | none => rw [h1] at k; cases k
    | some l =>
      cases h2 : boundA 0 hi with
      | none => rw [h1, h2] at k; cases k
      | some rr =>
        cases h3 : boundA 0 mx with
        | none => rw [h1, h2, h3] at k; cases k
        | some m =>
          rw [h1, h2, h3] at k
          simp only [Option.bind_some] at k
          split at k
          case isFalse => cases k
          rename_i hc
          obtain ⟨c0, c1, c2, c3, c4⟩ := hc
          cases k
          obtain ⟨ie, hie⟩ := Option.isSome_iff_exists.1 c0
          obtain rfl := hlo.bound h1
          obtain rfl := hhi.bound h2
          obtain rfl := hmx.bound h3
          obtain rfl : m = 0 := by omega
          obtain rfl : rr = 0 := by omega
          obtain rfl : l = 0 := by omega
          have := sliceBounds_run (P := P) (w := w) true (cap := 0) h1 h2 (fun _ => rfl) (fun _ => h3) (Nat.le_refl _) (Nat.le_refl _) (Nat.le_refl _) (fun e => by simpa using c4 e)
          refine ⟨.slice none 0 0, ?_, .nilSlice⟩
          simp only [Instr.sliceAt, Instr.slice, Sem.run_bind, run_under hu, Result.andThen_ok, this, run_sz' hie, Sem.run_pure, if_true]
  · rename_i e b o len cap hu
    cases hx with
    | slice _ _ _ _ cap2 a y hy q1 q2 q3 q4 =>
    cases h1 : boundA 0 lo with
    | none => rw [h1] at k; cases k
    | some l =>
      cases h2 : boundA len hi with
      | none => rw [h1, h2] at k; cases k
      | some rr =>
        cases h3 : boundA cap mx with
        | none => rw [h1, h2, h3] at k; cases k
        | some m =>
          rw [h1, h2, h3] at k
          simp only [Option.bind_some] at k
          split at k
          case isFalse => cases k
          rename_i hc
          obtain ⟨c0, c1, c2, c3, c4⟩ := hc
          split at k
          case h_2 => cases k
          rename_i cs s g ro hb
          split at k
          case isFalse => cases k
          rename_i hsg
          cases k
          obtain ⟨ie, hie⟩ := Option.isSome_iff_exists.1 c0
          obtain rfl := hlo.bound h1
          obtain rfl := hhi.bound h2
          obtain rfl := hmx.bound h3
          obtain ⟨y1, y2, y3, y4, Cs, ty, fz, y5, y6, y7, y8⟩ := hr.cells b y cs s g ro hy hb
          -- the capacity behind the cut, in the model
          obtain ⟨m2, e1, e2, e3⟩ : ∃ m2, (Instr.sliceBounds true len cap2 lo' hi' mx').run P w = .ok (l, rr, m2) w ∧ m ≤ m2 ∧ (m = m2 ∨ (mx' = none ∧ m = cap ∧ m2 = cap2)) := by
            cases mx' with
            | none =>
              simp only [boundA] at h3
              cases h3
              exact ⟨cap2, sliceBounds_run true h1 h2 (fun _ => rfl) (fun e => by cases e) c1 (Nat.le_trans c2 q2) (Nat.le_refl _) (fun e => by cases e), q2, .inr ⟨rfl, rfl, rfl⟩⟩
            | some vm =>
              refine ⟨m, sliceBounds_run true h1 h2 (fun e => by cases e) (fun _ => ?_) c1 c2 (Nat.le_trans c3 q2) (fun e => by simpa using c4 e), Nat.le_refl _, .inl rfl⟩
              rw [boundA_some _ cap]
              exact h3
          refine ⟨.slice (some (if m2 = l then a else a.add (l * sz P e))) (rr - l) (m2 - l), ?_, ?_⟩
          · simp only [Instr.sliceAt, Instr.slice, Sem.run_bind, run_under hu, Result.andThen_ok, e1, run_sz' hie, Sem.run_pure]
            split <;> simp
          · refine .slice b _ _ _ _ _ y hy (by omega) (by omega) (fun hne => ?_) ?_
            · rw [if_neg (by omega), q3 (by omega), addr_add, Nat.add_assoc]
            · rcases e3 with e3 | ⟨_, e4, e5⟩
              · exact .inl (by omega)
              · subst e4; subst e5
                rcases q4 with q4 | ⟨q5, q6, q7⟩
                · exact .inl (by omega)
                · have hg : g = true := by rw [← y3]; exact q5
                  have hs : s = sz P e := hsg.resolve_right (by rw [hg]; simp)
                  rw [y1, hs] at q6 q7
                  have hle : l ≤ m := by omega
                  have hle2 : l ≤ m2 := by omega
                  refine .inr ⟨q5, ?_, ?_⟩
                  · rw [y1, hs, Nat.sub_mul]
                    have : l * sz P e ≤ m * sz P e := Nat.mul_le_mul_right _ hle
                    omega
                  · rw [y1, hs, Nat.sub_mul]
                    have : l * sz P e ≤ m2 * sz P e := Nat.mul_le_mul_right _ hle2
                    omega
  · rename_i n e b o hu
    cases hx with
    | ptr _ _ y hy =>
    cases h1 : boundA 0 lo with
    | none => rw [h1] at k; cases k
    | some l =>
      cases h2 : boundA n hi with
      | none => rw [h1, h2] at k; cases k
      | some rr =>
        cases h3 : boundA n mx with
        | none => rw [h1, h2, h3] at k; cases k
        | some m =>
          rw [h1, h2, h3] at k
          simp only [Option.bind_some] at k
          split at k
          case isFalse => cases k
          rename_i hc
          obtain ⟨c0, c1, c2, c3, c4⟩ := hc
          cases k
          obtain ⟨ie, hie⟩ := Option.isSome_iff_exists.1 c0
          obtain rfl := hlo.bound h1
          obtain rfl := hhi.bound h2
          obtain rfl := hmx.bound h3
          have := sliceBounds_run (P := P) (w := w) false (cap := n) (m := m) h1 h2 (fun e => by subst e; simp only [boundA] at h3; cases h3; rfl) (fun _ => h3) c1 c2 c3 (fun e => by simpa using c4 e)
          refine ⟨.slice (some (if m = l then ⟨y.c, y.o + o, none⟩ else (⟨y.c, y.o + o, none⟩ : Addr).add (l * sz P e))) (rr - l) (m - l), ?_, ?_⟩
          · simp only [Instr.sliceAt, Instr.sureAddr, Sem.run_bind, run_under hu, Result.andThen_ok, this, run_sz' hie, Sem.run_pure]
          · refine .slice b _ _ _ _ _ y hy (by omega) (Nat.le_refl _) (fun hne => ?_) (.inl rfl)
            rw [if_neg (by omega), addr_add, Nat.add_assoc]
  · cases k
theorem indexA_sim {t : TypeId} {x x' i i' v : Value} (hx : RV r x x') (hi : RV r i i') (k : indexA P t x i = some v) : ∃ v', (Instr.index t x' i').run P w = .ok v' w ∧ RV r v v' := by
  unfold indexA at k
  split at k
  · rename_i kd n
    obtain rfl := hi.int_inv
    split at k
    · rename_i len e cs hu
      obtain ⟨ys, rfl, hl⟩ := hx.agg_inv
      split at k
      case isFalse => cases k
      rename_i hn
      obtain ⟨ie, hie⟩ := Option.isSome_iff_exists.1 hn.1
      obtain ⟨v', e1, e2⟩ := partA_sim (w := w) hl k
      refine ⟨v', ?_, e2⟩
      have hn := hn.2
      simp only [Instr.index, asIntOf, Sem.run_bind, Sem.run_pure, Result.andThen_ok, run_under hu, hn, and_self, if_true, run_sz' hie, e1]
    · rename_i s hu
      obtain rfl := hx.string_inv
      split at k
      case isFalse => cases k
      rename_i hn
      cases hs : s[n.toNat]? with
      | none => rw [hs] at k; cases k
      | some b =>
        rw [hs] at k
        cases k
        refine ⟨_, ?_, .int _ _⟩
        simp only [Instr.index, asIntOf, Sem.run_bind, Sem.run_pure, Result.andThen_ok, run_under hu, hn, if_true, hs]
    · cases k
  · cases k
theorem nilCheckA_sim {ρ : Operand → Value} {o : Oper} {x : Operand} {v u : Value} (ho : o.op = .nilCheck x) (hx : RV r v (ρ x)) (k : nilCheckA v = some u) : ∃ v', (execOp ρ o).run P w = .ok (.value v') w ∧ RV r u v' := by
  unfold nilCheckA at k
  split at k
  · cases k
    cases hr : ρ x with
    | pointer a =>
      rw [hr] at hx
      cases a with
      | none => cases hx
      | some a => exact ⟨.pointer (some a), by simp [execOp, ho, hr], hx⟩
    | _ => rw [hr] at hx; cases hx
  · cases k
    cases hr : ρ x with
    | func fn xs ys =>
      rw [hr] at hx
      cases hx with
      | func _ _ _ _ _ h1 h2 h3 h4 => exact ⟨_, by simp [execOp, ho, hr], .func _ _ _ _ _ h1 h2 h3 h4⟩
    | _ => rw [hr] at hx; cases hx
  · cases k
theorem extractA_sim {x x' v : Value} {i : Nat} (hx : RV r x x') (k : extractA x i = some v) : ∃ v', (Instr.extract x' i).run P w = .ok v' w ∧ RV r v v' := by
  unfold extractA at k
  split at k
  · rename_i vs
    cases hx with
    | tuple _ ys h1 h2 =>
      obtain ⟨v', e1, e2⟩ := (RL.of_array h1 h2).get k
      rw [Array.getElem?_toList] at e1
      exact ⟨v', by simp [Instr.extract, e1], e2⟩
  · cases k
theorem makeInterfaceA_sim {t : TypeId} {x x' v : Value} (hx : RV r x x') (k : makeInterfaceA P t x = some v) : ∃ v', (Instr.makeInterface t x').run P w = .ok v' w ∧ RV r v v' := by
  unfold makeInterfaceA at k
  split at k
  · cases k
  · rename_i d hd hu
    cases k
    refine ⟨.iface t x', ?_, .iface _ _ _ hx⟩
    simp only [Instr.makeInterface, Sem.run_bind, run_under hu, Result.andThen_ok]
    cases d <;> first | rfl | exact absurd rfl (hd _)
  · cases k
end
end Go.Proofs.Ytlihmncbhaimkaa.Am
