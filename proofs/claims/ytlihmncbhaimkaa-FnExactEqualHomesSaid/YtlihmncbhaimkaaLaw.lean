/- The law FnExactEqualHomes returns true for all arguments, and each argument reads behind the call as it read before. No condition. -/
import Derived.Test.YtlihmncbhaimkaaRows
import Derived.Test.YtlihmncbhaimkaaEq
import Derived.Test.YtlihmncbhaimkaaAmOpen
import Derived.WalkKit
import Derived.ProofKit
import Derived.OpenShut
import Derived.ShutString
import Derived.ChangeOld
import Derived.Below
import Derived.SizedLaws
namespace Go.Proofs.Ytlihmncbhaimkaa.fnExactEqualHomes
open Go.ChangeShapes Go.WideShapes Go.ChangeAt Go.RowKit
set_option linter.unusedVariables false
theorem own : ownKnob Try.prog.godebug = none := by kernel_rfl
theorem laidOut : laidOutB Try.prog = true := by kernel_rfl
theorem mixed : Try.prog.follows .mixedOrders = true := by kernel_rfl
theorem st : Try.prog.underlying 31 = some (.struct #[(match Try.prog.underlying 31 with | some (.struct fs) => fs.getD 0 default | _ => default), (match Try.prog.underlying 31 with | some (.struct fs) => fs.getD 1 default | _ => default)]) := by kernel_rfl
/-- The call. -/
theorem walk {W : World} {a0 a1 : Option Addr} {len0 cap0 len1 cap1 : Nat} {z0 z1 : List (Int × Int)} (w0 : Am.IsPairs W a0 len0 cap0 z0) (w1 : Am.IsPairs W a1 len1 cap1 z1) (y0 : cap0 ≤ 140737488355328) (y1 : cap1 ≤ 140737488355328) :
    Calls Try.prog 3 #[.slice a0 len0 cap0, .slice a1 len1 cap1] W fun e W' => e = .returned (.bool true) ∧ Below W.heap.size W W' := by
  obtain ⟨x0, cs0, k0⟩ := Am.pairs_start w0 y0
  obtain ⟨x1, cs1, k1⟩ := Am.pairs_start w1 y1
  obtain ⟨p0, v0, q0, r0⟩ := k0 Try.prog [(x0, cs0), (x1, cs1)] 0 rfl
  obtain ⟨p1, v1, q1, r1⟩ := k1 Try.prog [(x0, cs0), (x1, cs1)] 1 rfl
  refine Am.law_calls Am.XSound.none mixed (bs := [(x0, cs0), (x1, cs1)]) (args := [v0, v1]) ⟨fun i x cs hi => ?_⟩ (Am.RL.cons q0 (Am.RL.cons q1 (Am.RL.nil _))) (Am.c3 r0 r1)
  match i, hi with
  | 0, hi => simp at hi; obtain ⟨rfl, rfl⟩ := hi; exact p0 _ rfl
  | 1, hi => simp at hi; obtain ⟨rfl, rfl⟩ := hi; exact p1 _ rfl
  | i + 2, hi => simp at hi
set_option maxRecDepth 100000 in
theorem lifted (os : Os) (started : os.Started) (H : Type) (enc : TypeId × Value → H) :
    ReturnsInHanded {} Try.checked os 3 .any (Rows.fnExactEqualHomesSpec.pre6 enc Try.prog Try.f3 Rows.fnExactEqualHomesRow.domain false) (Rows.fnExactEqualHomesSpec.post enc Try.prog Try.f3 false true false false) := by
  refine returnsInHanded_of_change_sized (C := Try.checked) own started (by kernel_rfl) Try.func3
    (ChangeSpec.witness6 (enc := enc) (C := Try.checked) false ⟨#[], #[.slice none 0 0, .slice none 0 0], []⟩ 8 (by kernel_rfl) (by kernel_rfl) (by kernel_rfl) (by kernel_rfl)) ?_
  intro W base args ds gs before hval0 hW hcnd hsz0 _
  have hsz : (DataW.weightsEach Try.prog (Try.f3.params.toList ++ Rows.fnExactEqualHomesSpec.plain.varTypes Try.prog) (ds ++ gs)).all (· ≤ reachBytes) = true := hsz0
  have hval : ∀ (j : Nat) t v, Try.f3.params[j]? = some t → args[j]? = some v → Value.okWide Try.prog W .any base t v := hval0
  have hW' := hW
  obtain ⟨p, q, hA0, hV, rfl, hfz, hnd⟩ := hW
  have hA : DataW.TrodAll enc Try.prog W 0 (fun _ => true) true Try.f3.params.toList args.toList ds p := hA0
  rw [Try.params3] at hA hval hsz
  obtain ⟨v0, vs0, d0, ds0, p0, q0, hargs, rfl, rfl, h0, r0⟩ := trodAll_cons hA
  obtain ⟨v1, vs1, d1, ds1, p1, q1, rfl, rfl, rfl, h1, r1⟩ := trodAll_cons r0
  obtain ⟨rfl, rfl, rfl⟩ := trodAll_nil r1
  obtain rfl : args = #[v0, v1] := by cases args; simp_all
  obtain ⟨rfl, rfl⟩ := trodVars_none hV
  obtain ⟨a0, len0, cap0, rfl⟩ := okWide_slice Try.underlying22 (hval 0 22 v0 rfl rfl)
  have k0 := h0
  have lt0 : ∀ x ∈ p0, x.block < W.heap.size := by obtain ⟨m, hm⟩ := k0; exact DataW.trod_lt m _ _ _ hm
  obtain ⟨z0, w0, g0⟩ := Am.open_pairs Try.underlying22 st (by kernel_rfl) (by kernel_rfl) (by kernel_rfl) rfl rfl (by kernel_rfl) (by kernel_rfl) (by kernel_rfl) (by kernel_rfl) h0
  obtain ⟨a1, len1, cap1, rfl⟩ := okWide_slice Try.underlying22 (hval 1 22 v1 rfl rfl)
  have k1 := h1
  have lt1 : ∀ x ∈ p1, x.block < W.heap.size := by obtain ⟨m, hm⟩ := k1; exact DataW.trod_lt m _ _ _ hm
  obtain ⟨z1, w1, g1⟩ := Am.open_pairs Try.underlying22 st (by kernel_rfl) (by kernel_rfl) (by kernel_rfl) rfl rfl (by kernel_rfl) (by kernel_rfl) (by kernel_rfl) (by kernel_rfl) h1
  have eb : Try.prog.bytesOf 31 = 16 := by kernel_rfl
  have y0 : cap0 ≤ 140737488355328 := by
    by_cases hz : cap0 = 0
    · omega
    · obtain ⟨es, rs, rfl, hl⟩ := g0 hz
      have s := sized_slice hsz (j := 0) (t := 22) rfl rfl Try.underlying22
      have s2 := reachBytes_lt
      rw [eb, hl] at s
      omega
  have y1 : cap1 ≤ 140737488355328 := by
    by_cases hz : cap1 = 0
    · omega
    · obtain ⟨es, rs, rfl, hl⟩ := g1 hz
      have s := sized_slice hsz (j := 1) (t := 22) rfl rfl Try.underlying22
      have s2 := reachBytes_lt
      rw [eb, hl] at s
      omega
  clear hA0 hval0 hsz0 hsz
  refine (walk w0 w1 y0 y1).mono fun e W' ⟨he, bel⟩ => ?_
  subst he
  exact ⟨_, rfl, _, _, _, [], _, [], hW', trodAll_mk1 (shut_bool Try.underlying4 _), (trodAll_cons_mk (Below.trod laidOut (by kernel_rfl) (of_decide_eq_true (by kernel_rfl)) k0 bel lt0) (trodAll_cons_mk (Below.trod laidOut (by kernel_rfl) (of_decide_eq_true (by kernel_rfl)) k1 bel lt1) trodAll_mk0)), rfl, bel.frame _, fun h => by cases h⟩
theorem over : Rows.fnExactEqualHomesRow.holds Try.pinned (OpenSpec.ofChange Rows.fnExactEqualHomesSpec) :=
  OpenClaim.holds_of_wide 3 Try.f3 rfl rfl rfl rfl rfl rfl rfl ⟨rfl, rfl, rfl, rfl, rfl⟩ rfl rfl rfl rfl rfl (by kernel_rfl) Try.func3 (by kernel_rfl)
    (of_decide_eq_true (by kernel_rfl)) (by unfold Func.isWrapper; first | (rw [if_pos (by decide +kernel)]; kernel_rfl) | (rw [if_neg (by decide +kernel)]; exact ⟨rfl, rfl⟩))
    (fun os started H enc _ => lifted os started H enc)
theorem proved : Rows.FnExactEqualHomesSaid := over
end Go.Proofs.Ytlihmncbhaimkaa.fnExactEqualHomes
namespace Go.Proofs.Ytlihmncbhaimkaa
/-- The row, under a short name, for the claim. -/
theorem fnExactEqualHomes_holds : Rows.FnExactEqualHomesSaid := fnExactEqualHomes.proved
#print axioms fnExactEqualHomes_holds
end Go.Proofs.Ytlihmncbhaimkaa
