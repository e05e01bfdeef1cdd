/- Proved: FnCalls returns true for every input and leaves its arguments as they were (FnCallsSaid); no condition. -/
import Derived.Test.YtcanhpinlapnnaaGreatC7
import Derived.Test.YtcanhpinlapnnaaGreatRows
import Derived.WalkKit
import Derived.ProofKit
import Derived.OpenShut
import Derived.ShutString
import Derived.ChangeOld
import Derived.Below
import Derived.SizedLaws
namespace Go.Proofs.YtcanhpinlapnnaaGreat.fnCalls
open Go Go.ChangeShapes Go.WideShapes Go.ChangeAt Go.RowKit
open Go.Proofs.YtcanhpinlapnnaaGreat.Am
set_option linter.all false
set_option linter.constructorNameAsVariable false
theorem own:ownKnob Tryz.prog.godebug=none:=by kernel_rfl
theorem okW{W:World}{Bt:Nat}{a:Addr}{len cap:Nat}(h:Value.okWide Tryz.prog W .any Bt 22 (.slice (some a) len cap)):∃Cs ty fz,W.heap[a.block]? =some (.cells Cs ty fz):=by simp only [Value.okWide,Tryz.underlying22,Cell.okWide,Cell.ok,World.has]at h;obtain⟨_,_,_,_,Ba,cells,h,_⟩:=h;unfold World.shape? at h;split at h;rename_i c e f hc;exact⟨c,e,f,hc⟩;cases h
set_option maxRecDepth 100000 in
theorem lifted (os : Os) (started : os.Started) (H : Type) (enc : TypeId × Value → H) :
    ReturnsInHanded {} Tryz.checked os 4 .any (Rows.fnCallsSpec.pre6 enc Tryz.prog Tryz.f4 Rows.fnCallsRow.domain false) (Rows.fnCallsSpec.post enc Tryz.prog Tryz.f4 false true false false) := by
  refine returnsInHanded_of_change_sized (C := Tryz.checked) own started (by kernel_rfl) Tryz.func4
    (ChangeSpec.witness6 (enc := enc) (C := Tryz.checked) false ⟨#[], #[.slice none 0 0], []⟩ 8 (by kernel_rfl) (by kernel_rfl) (by kernel_rfl) (by kernel_rfl)) ?_
  intro W Bt args ds gs before hval0 hW DW hsz0 _
  have vb : ∀ (j : Nat) t v, Tryz.f4.params[j]? = some t → args[j]? = some v → Value.okWide Tryz.prog W .any Bt t v := hval0
  have hW' := hW
  obtain ⟨p, q, hA0, hV, rfl, hfz, EO⟩ := hW
  have hA : DataW.TrodAll enc Tryz.prog W 0 (fun _ => true) true Tryz.f4.params.toList args.toList ds p := hA0
  rw [Tryz.params4] at hA vb
  obtain ⟨v0, vs0, d0, XA, p0, q0, hargs, rfl, rfl, h0, r0⟩ := trodAll_cons hA
  obtain ⟨rfl, rfl, rfl⟩ := trodAll_nil r0
  obtain rfl : args = #[v0] := by cases args; simp_all
  obtain ⟨rfl, rfl⟩ := trodVars_none hV
  have WK := vb 0 22 v0 rfl rfl
  obtain ⟨a0, len0, cap0, rfl⟩ := okWide_slice Tryz.underlying22 WK
  have k0 := h0
  have lt0 : ∀ x ∈ p0, x.block < W.heap.size := by obtain ⟨m, hm⟩ := k0; exact DataW.trod_lt m _ _ _ hm
  have both : ∃ z0, CX W a0 len0 cap0 z0 := by
    obtain ⟨eG, hf⟩ := h0
    rcases open_ints Tryz.underlying22 Tryz.underlying5 (by kernel_rfl) hf with ⟨ER, _⟩ | ⟨x, l, c, zs, ER, _, hl, hm, hz, hd, pZ, hwz⟩
    · simp [Value.cells] at ER
      obtain ⟨rfl, rfl, rfl⟩ := ER
      exact ⟨[], .inl ⟨rfl, rfl, rfl⟩⟩
    · simp [Value.cells] at ER
      obtain ⟨rfl, rfl, rfl⟩ := ER
      exact ⟨zs, .inr ⟨_, rfl, hl, by simpa using hz, pZ, hwz, okW WK⟩⟩
  obtain ⟨z0, w0⟩ := both
  clear hA0 hval0 hsz0
  refine (K.walk w0).mono fun e W' ⟨he, bel⟩ => ?_
  subst he
  exact ⟨_, rfl, _, _, _, [], _, [], hW', trodAll_mk1 (shut_bool Tryz.underlying4 _), (trodAll_cons_mk (Below.trod jp1 (by kernel_rfl) (Gw (by kernel_rfl)) k0 bel lt0) trodAll_mk0), rfl, bel.frame _, fun h => by cases h⟩
theorem a1u : Rows.fnCallsRow.holds Tryz.pinned (OpenSpec.ofChange Rows.fnCallsSpec) :=
  OpenClaim.holds_of_wide 4 Tryz.f4 rfl rfl rfl rfl rfl rfl rfl ⟨rfl, rfl, rfl, rfl, rfl⟩ rfl rfl rfl rfl rfl (by kernel_rfl) Tryz.func4 uy
    (Gw (by kernel_rfl)) (by unfold Func.isWrapper; first | (rw [Al (by decide +kernel)]; kernel_rfl) | (rw [Ak (by decide +kernel)]; exact ⟨rfl, rfl⟩))
    (fun os started H enc _ => lifted os started H enc)
theorem proved:Rows.FnCallsSaid:=a1u
end Go.Proofs.YtcanhpinlapnnaaGreat.fnCalls
namespace Go.Proofs.YtcanhpinlapnnaaGreat
theorem fnCalls_holds:Rows.FnCallsSaid:=fnCalls.proved
#print axioms fnCalls_holds
end Go.Proofs.YtcanhpinlapnnaaGreat
