/- AuditWorld: the row's proof. -/
import Derived.Test.YtaehjbpgdacdiaaGreatC7
import Derived.Test.YtaehjbpgdacdiaaGreatRows
namespace Go.Proofs.YtaehjbpgdacdiaaGreat.fnExactAuditWorld
open Go Go.ChangeShapes Go.WideShapes Go.ChangeAt Go.RowKit
open Go.Proofs.YtaehjbpgdacdiaaGreat.Am
set_option linter.unusedVariables false
set_option maxRecDepth 100000 in
theorem lifted (os : Os) (started : os.Started) (H : Type) (enc : TypeId × Value → H) :
    ReturnsInHanded {} Tryz.checked os 4 .any (Rows.fnExactAuditWorldSpec.pre6 enc Tryz.prog Tryz.f4 Rows.fnExactAuditWorldRow.domain false) (Rows.fnExactAuditWorldSpec.post enc Tryz.prog Tryz.f4 false true false false) := by
  refine returnsInHanded_of_change_sized (C := Tryz.checked) Am.own started (by kernel_rfl) Tryz.func4
    (ChangeSpec.witness6 (enc := enc) (C := Tryz.checked) false ⟨#[], #[.agg #[.slice none 0 0, .slice none 0 0, .slice none 0 0, .slice none 0 0, .int .i64 0]], []⟩ 8 (by kernel_rfl) (by kernel_rfl) (by kernel_rfl) (by kernel_rfl)) ?_
  intro W base args ds gs before hval0 hW hcnd hsz0 _
  have hval : ∀ (j : Nat) t v, Tryz.f4.params[j]? = some t → args[j]? = some v → Value.okWide Tryz.prog W .any base t v := hval0
  have hW' := hW
  obtain ⟨p, q, hA0, hV, rfl, hfz, hnd⟩ := hW
  have hA : DataW.TrodAll enc Tryz.prog W 0 (fun _ => true) true Tryz.f4.params.toList args.toList ds p := hA0
  rw [Tryz.params4] at hA hval
  obtain ⟨v0, vs0, d0, ds0, p0, q0, hargs, rfl, rfl, h0, r0⟩ := trodAll_cons hA
  obtain ⟨rfl, rfl, rfl⟩ := trodAll_nil r0
  obtain rfl : args = #[v0] := by cases args; simp_all
  obtain ⟨rfl, rfl⟩ := trodVars_none hV
  have k0 := h0
  have lt0 : ∀ x ∈ p0, x.block < W.heap.size := by obtain ⟨m, hm⟩ := k0; exact DataW.trod_lt m _ _ _ hm
  obtain ⟨fuel, h1⟩ := h0
  obtain ⟨t, ok, row⟩ := b6z true fuel _ _ h1
  have e0 : v0 = .agg v0.cells.toList.toArray := b9P rfl (by rw [row.1]; exact (by decide : 1 < 5))
  have lay := b4n (P := Tryz.prog) (W := W) (gl := gl0) row (b5d W)
  rw [← e0] at lay
  refine (law_true (m := true) lay (c4 ok)).mono fun e W' ⟨he, bel⟩ => ?_
  subst he
  exact ⟨_, rfl, _, _, _, [], _, [], hW', trodAll_mk1 (shut_bool Tryz.underlying4 _), trodAll_cons_mk (Below.trod Am.laidOut (by kernel_rfl) (Ab (by kernel_rfl)) k0 bel lt0) trodAll_mk0, rfl, bel.frame _, fun h => by cases h⟩
theorem d4p : Rows.fnExactAuditWorldRow.holds Tryz.pinned (OpenSpec.ofChange Rows.fnExactAuditWorldSpec) :=
  OpenClaim.holds_of_wide 4 Tryz.f4 rfl rfl rfl rfl rfl rfl rfl ⟨rfl, rfl, rfl, rfl, rfl⟩ rfl rfl rfl rfl rfl (by kernel_rfl) Tryz.func4 Am.closed4
    (Ab (by kernel_rfl)) (by unfold Func.isWrapper; first | (rw [Ar (by decide +kernel)]; kernel_rfl) | (rw [Bc (by decide +kernel)]; exact ⟨rfl, rfl⟩))
    (fun os started H enc _ => lifted os started H enc)
theorem proved:Rows.FnExactAuditWorldSaid:=d4p
end Go.Proofs.YtaehjbpgdacdiaaGreat.fnExactAuditWorld
namespace Go.Proofs.YtaehjbpgdacdiaaGreat
theorem fnExactAuditWorld_holds:Rows.FnExactAuditWorldSaid:=fnExactAuditWorld.proved
#print axioms fnExactAuditWorld_holds
end Go.Proofs.YtaehjbpgdacdiaaGreat
