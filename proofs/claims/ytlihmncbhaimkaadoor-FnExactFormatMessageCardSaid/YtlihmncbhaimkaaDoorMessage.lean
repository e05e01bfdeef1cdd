/- The law FnExactFormatMessage returns true for all arguments, and the argument reads behind the call as it read before. The package's tables that are listed are tied to the program's text. -/
import Derived.Test.YtlihmncbhaimkaaDoorC4
namespace Go.Proofs.YtlihmncbhaimkaaDoor.fnExactFormatMessage
open Go Go.ChangeShapes Go.WideShapes Go.ChangeAt Go.RowKit
open Go.Proofs.YtlihmncbhaimkaaDoor.Am
set_option linter.unusedVariables false

set_option maxRecDepth 100000 in
theorem lifted (os : Os) (started : os.Started) (H : Type) (enc : TypeId × Value → H) :
    ReturnsInHanded {} Tryd.checked os 5 .any (fun w args => (Rows.fnExactFormatMessageSpec.pre enc Tryd.prog Tryd.f5 Rows.fnExactFormatMessageRow.domain false w args ∧ laidMetH Tryd.prog Rows.fnExactFormatMessageRow.laid w) ∧ sizedMet enc Tryd.prog Tryd.f5 (OpenSpec.ofChange Rows.fnExactFormatMessageSpec) false w args)
      (Rows.fnExactFormatMessageSpec.post enc Tryd.prog Tryd.f5 false true false false) := by
  refine returnsInHanded_of_change_and (C := Tryd.checked) (X := fun w _ => laidMetH Tryd.prog Rows.fnExactFormatMessageRow.laid w) (fun _ _ _ hh h => h.of_heap hh) Am.own started (by kernel_rfl) Tryd.func5
    (ChangeSpec.witness_shaped (enc := enc) (C := Tryd.checked) (os := os) (X := fun w _ => laidMetH Tryd.prog Rows.fnExactFormatMessageRow.laid w) false (World.laidAll Tryd.prog os Rows.fnExactFormatMessageRow.laid) #[.agg #[.int .i64 0, .int .i64 0, .int .i64 0, .int .i64 0, .string ⟨#[]⟩, .slice none 0 0, .int .i64 0, .int .i64 0, .int .i64 0, .int .i64 0, .int .i64 0, .int .i64 0]] 8 (World.laidAll_os _ _ _)
      (World.shaped_of_ZipB (by kernel_rfl) (by kernel_rfl)) (by kernel_rfl) (by kernel_rfl) (by kernel_rfl)
      (by rw [MakeChecks.laidMetH_plain _ _ _ (by kernel_rfl)]; exact laidMet_laidAll _ (by kernel_rfl) (by kernel_rfl))) ?_
  intro W base args ds gs before hval0 hW _ _ hL _
  have hval : ∀ (j : Nat) t v, Tryd.f5.params[j]? = some t → args[j]? = some v → Value.okWide Tryd.prog W .any base t v := hval0
  have hW' := hW
  obtain ⟨p, q, hA0, hV, rfl, hfz, hnd⟩ := hW
  have hA : DataW.TrodAll enc Tryd.prog W 0 (fun _ => true) true Tryd.f5.params.toList args.toList ds p := hA0
  rw [Tryd.params5] at hA hval
  obtain ⟨v0, vs0, d0, ds0, p0, q0, hargs, rfl, rfl, h0, r0⟩ := trodAll_cons hA
  obtain ⟨rfl, rfl, rfl⟩ := trodAll_nil r0
  obtain rfl : args = #[v0] := by cases args; simp_all
  obtain ⟨g1, t1, cs1, fuel1, dv, pv1, rfl, hg1, ht1, hv1, hd1, _⟩ := trodVars_one hV
  obtain rfl := Option.some.inj (gMsg.symm.trans hg1)
  obtain rfl := Option.some.inj (tMsg.symm.trans ht1)
  have k0 := h0
  have lt0 : ∀ x ∈ p0, x.block < W.heap.size := by obtain ⟨m, hm⟩ := k0; exact DataW.trod_lt m _ _ _ hm
  rw [MakeChecks.laidMetH_plain _ _ _ (by kernel_rfl)] at hL
  have tb := tabs_of4 hL
  obtain ⟨fuel, h1⟩ := h0
  obtain ⟨t, ok, row⟩ := open_39 true fuel _ _ h1
  have e0 : v0 = .agg v0.cells.toList.toArray := is_agg rfl (by rw [row.1]; exact (by decide : 1 < 12))
  have lay := agg_lays (P := Tryd.prog) (W := W) (gl := Am.glV true) (lives true) row (start_ok tb)
  rw [← e0] at lay
  refine (law_true lay (c5 ok)).mono fun e W' ⟨he, bel⟩ => ?_
  subst he
  obtain ⟨fuel2, hd2⟩ := Below.trod (t := 99) (v := .agg cs1) Am.laidOut (by kernel_rfl) (of_decide_eq_true (by kernel_rfl)) ⟨fuel1, hd1⟩ bel (DataW.trod_lt fuel1 _ _ _ hd1)
  exact ⟨_, rfl, _, _, _, [], _, _, hW', trodAll_mk1 (shut_bool Tryd.underlying4 _), trodAll_cons_mk (Below.trod Am.laidOut (by kernel_rfl) (of_decide_eq_true (by kernel_rfl)) k0 bel lt0) trodAll_mk0, trodVars_mk1 gMsg tMsg (var_below gMsg hv1 bel) hd2, bel.frame _, fun h => by cases h⟩
theorem over : Rows.fnExactFormatMessageRow.holds Tryd.pinned (OpenSpec.ofChange Rows.fnExactFormatMessageSpec) :=
  OpenClaim.holds_of_wide 5 Tryd.f5 rfl rfl rfl rfl rfl rfl rfl ⟨rfl, rfl, rfl, rfl, rfl⟩ rfl rfl rfl rfl rfl (by kernel_rfl) Tryd.func5 (by kernel_rfl)
    (of_decide_eq_true (by kernel_rfl)) (by unfold Func.isWrapper; first | (rw [if_pos (by decide +kernel)]; kernel_rfl) | (rw [if_neg (by decide +kernel)]; exact ⟨rfl, rfl⟩))
    (fun os started H enc _ => lifted os started H enc)
theorem proved : Rows.FnExactFormatMessageCardSaid :=
  Claim7.holds_tied_plain_at .later [] [.data, .data, .data, .data] true (true, "323df1d0363a3dd1012e7b633d112f43f1b3489000bb17c02bbe6a9421778ade") false
    over (fun _ h => by cases h) (by kernel_rfl) (fun _ h => by cases h) fnExactFormatMessage_row_tie rfl ⟨rfl, rfl⟩ (by kernel_rfl) rfl
    (fun f fn hf hfn => by
      obtain rfl : f = 5 := Option.some.inj ((show Tryd.prog.funcNamed "loop.example/g00591/laws.FnExactFormatMessage" = some 5 by kernel_rfl).symm.trans hf) |>.symm
      obtain rfl : fn = Tryd.f5 := (Option.some.inj (Tryd.func5.symm.trans hfn)).symm
      exact ⟨by kernel_rfl, fun j t ht => by
        rw [Tryd.params5] at ht
        have hm : t ∈ [39] := by simpa using Array.mem_of_getElem? ht
        have hall : ([39].all fun u => !Tryd.prog.wantsStandIn u) = true := by kernel_rfl
        exact (show Tryd.prog.wantsStandIn t = false by simpa using List.all_eq_true.1 hall t hm)⟩)
    (by kernel_rfl)
end Go.Proofs.YtlihmncbhaimkaaDoor.fnExactFormatMessage
namespace Go.Proofs.YtlihmncbhaimkaaDoor
/-- The card, under a short name, for the claim. -/
theorem fnExactFormatMessage_holds : Rows.FnExactFormatMessageCardSaid := fnExactFormatMessage.proved
#print axioms fnExactFormatMessage_holds
end Go.Proofs.YtlihmncbhaimkaaDoor
