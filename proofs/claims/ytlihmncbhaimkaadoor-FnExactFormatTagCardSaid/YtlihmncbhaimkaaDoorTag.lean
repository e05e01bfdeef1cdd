/- The law FnExactFormatTag returns true for all arguments, and the argument reads behind the call as it read before. The tables of the library that are listed are tied to the program's text. -/
import Derived.Test.YtlihmncbhaimkaaDoorC4
namespace Go.Proofs.YtlihmncbhaimkaaDoor.fnExactFormatTag
open Go Go.ChangeShapes Go.WideShapes Go.ChangeAt Go.RowKit
open Go.Proofs.YtlihmncbhaimkaaDoor.Am (Tabs law_true tabs_of3 agg_lays lives start_ok MrRow Mr TagV Opens)
set_option linter.unusedVariables false

theorem cell3 : Tryd.prog.cellsOf 3 = 1 := by kernel_rfl
theorem len3 {α : Type} : ∀ {l : List α}, l.length = 3 → ∃ a b c, l = [a, b, c]
  | [a, b, c], _ => ⟨a, b, c, rfl⟩
/-- What reads at the type of tags is a tag. -/
theorem open_tag {H : Type} {enc : TypeId × Value → H} {W : World} : Opens enc Tryd.prog W 23 TagV.ok TagV.cs := fun held fuel cs x k => by
  obtain ⟨xs, n, _, _, hl, hxl, hx⟩ := DataW.trod_struct Tryd.underlying23 k
  obtain ⟨v0, v1, v2, rfl⟩ := len3 (hl.trans (by kernel_rfl))
  obtain ⟨x0, x1, x2, rfl⟩ := len3 hxl
  have q0 : DataW.trod enc Tryd.prog W 0 (fun _ => true) held n 3 (([v0, v1, v2].drop 0).take (Tryd.prog.cellsOf 3)) = some x0 := hx 0 _ rfl
  have q1 : DataW.trod enc Tryd.prog W 0 (fun _ => true) held n 3 (([v0, v1, v2].drop 1).take (Tryd.prog.cellsOf 3)) = some x1 := hx 1 _ rfl
  have q2 : DataW.trod enc Tryd.prog W 0 (fun _ => true) held n 3 (([v0, v1, v2].drop 2).take (Tryd.prog.cellsOf 3)) = some x2 := hx 2 _ rfl
  rw [cell3] at q0 q1 q2
  obtain ⟨n0, o0, r0⟩ := Am.open_i (W := W) (enc := enc) Tryd.underlying3 held n [v0] x0 q0
  obtain ⟨n1, o1, r1⟩ := Am.open_i (W := W) (enc := enc) Tryd.underlying3 held n [v1] x1 q1
  obtain ⟨n2, o2, r2⟩ := Am.open_i (W := W) (enc := enc) Tryd.underlying3 held n [v2] x2 q2
  exact ⟨⟨n0, n1, n2⟩, ⟨o0, o1, o2⟩, r0.append (r1.append r2)⟩
theorem is_agg {v : Value} {cs : List Value} (h : v.cells.toList = cs) (hn : 1 < cs.length) : v = .agg cs.toArray := by
  subst h
  cases v <;> first
    | rfl
    | (simp [Value.cells] at hn)

set_option maxRecDepth 100000 in
theorem lifted (os : Os) (started : os.Started) (H : Type) (enc : TypeId × Value → H) :
    ReturnsInHanded {} Tryd.checked os 3 .any (fun w args => (Rows.fnExactFormatTagSpec.pre enc Tryd.prog Tryd.f3 Rows.fnExactFormatTagRow.domain false w args ∧ laidMetH Tryd.prog Rows.fnExactFormatTagRow.laid w) ∧ sizedMet enc Tryd.prog Tryd.f3 (OpenSpec.ofChange Rows.fnExactFormatTagSpec) false w args)
      (Rows.fnExactFormatTagSpec.post enc Tryd.prog Tryd.f3 false true false false) := by
  refine returnsInHanded_of_change_and (C := Tryd.checked) (X := fun w _ => laidMetH Tryd.prog Rows.fnExactFormatTagRow.laid w) (fun _ _ _ hh h => h.of_heap hh) Am.own started (by kernel_rfl) Tryd.func3
    (ChangeSpec.witness_shaped (enc := enc) (C := Tryd.checked) (os := os) (X := fun w _ => laidMetH Tryd.prog Rows.fnExactFormatTagRow.laid w) false (World.laidAll Tryd.prog os Rows.fnExactFormatTagRow.laid) #[.agg #[.int .i64 0, .int .i64 0, .int .i64 0]] 8 (World.laidAll_os _ _ _)
      (World.shaped_of_ZipB (by kernel_rfl) (by kernel_rfl)) (by kernel_rfl) (by kernel_rfl) (by kernel_rfl)
      (by rw [MakeChecks.laidMetH_plain _ _ _ (by kernel_rfl)]; exact laidMet_laidAll _ (by kernel_rfl) (by kernel_rfl))) ?_
  intro W base args ds gs before hval0 hW _ _ hL _
  have hW' := hW
  obtain ⟨p, q, hA0, hV, rfl, hfz, hnd⟩ := hW
  have hA : DataW.TrodAll enc Tryd.prog W 0 (fun _ => true) true Tryd.f3.params.toList args.toList ds p := hA0
  rw [Tryd.params3] at hA
  obtain ⟨v0, vs0, d0, ds0, p0, q0, hargs, rfl, rfl, h0, r0⟩ := trodAll_cons hA
  obtain ⟨rfl, rfl, rfl⟩ := trodAll_nil r0
  obtain rfl : args = #[v0] := by cases args; simp_all
  obtain ⟨rfl, rfl⟩ := trodVars_none hV
  have k0 := h0
  have lt0 : ∀ x ∈ p0, x.block < W.heap.size := by obtain ⟨m, hm⟩ := k0; exact DataW.trod_lt m _ _ _ hm
  rw [MakeChecks.laidMetH_plain _ _ _ (by kernel_rfl)] at hL
  have tb := tabs_of3 hL
  obtain ⟨fuel, h1⟩ := h0
  obtain ⟨t, ok, row⟩ := open_tag true fuel _ _ h1
  have e0 : v0 = .agg v0.cells.toList.toArray := is_agg rfl (by rw [row.1]; exact (by decide : 1 < 3))
  have lay := agg_lays (P := Tryd.prog) (W := W) (gl := Am.glV false) (lives false) row (start_ok tb)
  rw [← e0] at lay
  refine (law_true lay (Am.c3 ok)).mono fun e W' ⟨he, bel⟩ => ?_
  subst he
  exact ⟨_, rfl, _, _, _, [], _, [], hW', trodAll_mk1 (shut_bool Tryd.underlying4 _), trodAll_cons_mk (Below.trod Am.laidOut (by kernel_rfl) (of_decide_eq_true (by kernel_rfl)) k0 bel lt0) trodAll_mk0, rfl, bel.frame _, fun h => by cases h⟩
theorem over : Rows.fnExactFormatTagRow.holds Tryd.pinned (OpenSpec.ofChange Rows.fnExactFormatTagSpec) :=
  OpenClaim.holds_of_wide 3 Tryd.f3 rfl rfl rfl rfl rfl rfl rfl ⟨rfl, rfl, rfl, rfl, rfl⟩ rfl rfl rfl rfl rfl (by kernel_rfl) Tryd.func3 (by kernel_rfl)
    (of_decide_eq_true (by kernel_rfl)) (by unfold Func.isWrapper; first | (rw [if_pos (by decide +kernel)]; kernel_rfl) | (rw [if_neg (by decide +kernel)]; exact ⟨rfl, rfl⟩))
    (fun os started H enc _ => lifted os started H enc)
theorem proved : Rows.FnExactFormatTagCardSaid :=
  Claim7.holds_tied_plain_at .later [] [.data, .data, .data] true (true, "323df1d0363a3dd1012e7b633d112f43f1b3489000bb17c02bbe6a9421778ade") false
    over (fun _ h => by cases h) (by kernel_rfl) (fun _ h => by cases h) fnExactFormatTag_row_tie rfl ⟨rfl, rfl⟩ (by kernel_rfl) rfl
    (fun f fn hf hfn => by
      obtain rfl : f = 3 := Option.some.inj ((show Tryd.prog.funcNamed "loop.example/g00591/laws.FnExactFormatTag" = some 3 by kernel_rfl).symm.trans hf) |>.symm
      obtain rfl : fn = Tryd.f3 := (Option.some.inj (Tryd.func3.symm.trans hfn)).symm
      exact ⟨by kernel_rfl, fun j t ht => by
        rw [Tryd.params3] at ht
        have hm : t ∈ [23] := by simpa using Array.mem_of_getElem? ht
        have hall : ([23].all fun u => !Tryd.prog.wantsStandIn u) = true := by kernel_rfl
        exact (show Tryd.prog.wantsStandIn t = false by simpa using List.all_eq_true.1 hall t hm)⟩)
    (by kernel_rfl)
end Go.Proofs.YtlihmncbhaimkaaDoor.fnExactFormatTag
namespace Go.Proofs.YtlihmncbhaimkaaDoor
/-- The card, under a short name, for the claim. -/
theorem fnExactFormatTag_holds : Rows.FnExactFormatTagCardSaid := fnExactFormatTag.proved
#print axioms fnExactFormatTag_holds
end Go.Proofs.YtlihmncbhaimkaaDoor
