/- Texts of this claim, joined: AmSound2, AmUnfold, AmWp, AmLib, AmLaw, AmOpen, AmP1, AmP2, AmP3, AmP4, AmP5, AmP6, AmP7, AmP8, AmP9, AmQ1, AmP10, AmP11, AmP12. -/
import Derived.Test.YtlihmncbhaimkaaDoorC0
import Derived.LoopN
import Derived.Scope
import Derived.ChangeSlices
import Derived.ChangeArms
/- Code of the abstract machine is code of the model; calls, too. -/
namespace Go.Proofs.YtlihmncbhaimkaaDoor.Am
open Go Go.RowKit

section
variable {P : Program} {H : Nat → Option (List Nat)} {C : Oracle} {base : Nat}
def Ex.out : Ex → Exit
  | .normal => .normal
  | .exit id => .exit id
  | .ret => .ret

/-! ### Variables that are not assigned stay -/
theorem opsA_keep {ops : List Oper} {n : Nat} : ∀ (l : List Oper) (e e' : Env) (h h' : Heap), n ∉ dstsOps l → opsA P C ops l e h = some (e', h') → e' n = e n
  | [], e, e', h, h', _, k => by simp only [opsA] at k; cases k; rfl
  | o :: l, e, e', h, h', hn, k => by
    unfold opsA at k
    obtain ⟨⟨v, h1⟩, hst, k⟩ := bind_inv k
    simp only [dstsOps, List.filterMap_cons] at hn
    cases hd : o.dst with
    | none =>
      rw [hd] at hn k
      exact opsA_keep l e e' h1 h' hn k
    | some d =>
      rw [hd] at hn k
      simp only [List.mem_cons, not_or] at hn
      rw [opsA_keep l _ e' h1 h' hn.2 k]
      exact upd_ne (by simp; exact fun e => hn.1 e.symm)
theorem drawA_keep {ops : List Oper} {b : List Nat} {n0 n : Nat} : ∀ (l : List (Oper × Nat)) (e e' : Env) (h h' : Heap) (rs : List (Nat × Oper × Env × Value)) (hs : List (Nat × Heap)), n ∉ dstsOps (l.map (·.1)) → drawA P C ops b n0 l e h rs hs = some (e', h') → e' n = e n
  | [], e, e', h, h', _, _, _, k => by simp only [drawA] at k; cases k; rfl
  | (o, i) :: l, e, e', h, h', rs, hs, hn, k => by
    unfold drawA at k
    obtain ⟨⟨v, h1⟩, hst, k⟩ := bind_inv k
    have h2 : n ∉ dstsOps (l.map (·.1)) := fun hm => hn (by
      simp only [dstsOps, List.map_cons, List.mem_filterMap, List.mem_cons] at hm ⊢
      obtain ⟨x, hx, e⟩ := hm
      exact ⟨x, .inr hx, e⟩)
    have h3 : upd e o.dst (some v) n = e n := upd_ne fun hd => hn (by
      simp only [dstsOps, List.map_cons, List.mem_filterMap, List.mem_cons]
      exact ⟨o, .inl rfl, hd⟩)
    simp only at k
    cases hc : clsOf o.op with
    | quiet => rw [hc] at k; rw [drawA_keep l _ e' _ h' _ _ h2 k, h3]
    | read =>
      rw [hc] at k; simp only at k
      split at k
      · rw [drawA_keep l _ e' _ h' _ _ h2 k, h3]
      · cases k
    | chain =>
      rw [hc] at k; simp only at k
      split at k
      · rw [drawA_keep l _ e' _ h' _ _ h2 k, h3]
      · cases k
theorem regionA_keep {ops : List Oper} {draw : Bool} {e e' : Env} {h h' : Heap} {n : Nat} (hn : n ∉ dstsOps ops) (k : regionA P C ops draw e h = some (e', h')) : e' n = e n := by
  unfold regionA at k
  split at k
  · simp only at k
    split at k
    · exact drawA_keep _ e e' _ h' _ _ (by simpa using hn) k
    · cases k
  · exact opsA_keep _ e e' h h' hn k
theorem headE_out {e : Env} {L K : List Nat} {vs : Vs} {n : Nat} (hn : n ∉ K) : headE e L K vs n = e n := by
  unfold headE
  rw [if_neg (by simpa using hn)]
theorem joinE_keep {e e' : Env} {K : List Nat} {L : Option (List Nat)} {n : Nat} (hn : n ∉ K) (h : e' n = e n) : joinE e K L e' n = e n := by
  cases L with
  | none => exact h
  | some L => exact headE_out hn
theorem den_keep {n : Nat} : ∀ (c : Code) (e e' : Env) (h h' : Heap) (x : Ex), n ∉ asg c → den P H C c e h = some (x, e', h') → e' n = e n
  | .skip, e, e', h, h', x, _, k => by simp only [den] at k; cases k; rfl
  | .region _ ops d, e, e', h, h', x, hn, k => by
    simp only [den] at k
    obtain ⟨⟨e1, h1⟩, hr, hk⟩ := map_inv k
    cases hk
    exact regionA_keep hn hr
  | .seq a b, e, e', h, h', x, hn, k => by
    simp only [asg, List.mem_append, not_or] at hn
    simp only [den] at k
    obtain ⟨⟨x1, e1, h1⟩, hr, k⟩ := bind_inv k
    have i1 := den_keep a e e1 h h1 x1 hn.1 hr
    cases x1 with
    | normal =>
      rw [den_keep b _ e' h1 h' x hn.2 k]
      exact joinE_keep hn.1 i1
    | exit id => cases k; exact i1
    | ret => cases k; exact i1
  | .cond c a b, e, e', h, h', x, hn, k => by
    simp only [asg, List.mem_append, not_or] at hn
    simp only [den] at k
    obtain ⟨v, hv, k⟩ := bind_inv k
    cases v <;> try (cases k; done)
    rename_i t
    cases t with
    | true => exact den_keep a e e' h h' x hn.1 k
    | false => exact den_keep b e e' h h' x hn.2 k
  | .block id c, e, e', h, h', x, hn, k => by
    simp only [den] at k
    obtain ⟨⟨x1, e1, h1⟩, hr, hk⟩ := map_inv k
    cases hk
    exact den_keep c e _ h _ x1 hn hr
  | .loop c, e, e', h, h', x, hn, k => by
    simp only [den] at k
    obtain ⟨⟨x1, s1⟩, hr, hk⟩ := map_inv k
    cases hk
    exact headE_out hn
  | .exit id, e, e', h, h', x, _, k => by simp only [den] at k; cases k; rfl
  | .ret, e, e', h, h', x, _, k => by simp only [den] at k; cases k; rfl
  | .scope c, e, e', h, h', x, hn, k => by simp only [den] at k; exact den_keep c e e' h h' x hn k
  | .label _, e, e', h, h', x, _, k => by simp only [den] at k; cases k; rfl
  | .rangeFunc .., e, e', h, h', x, _, k => by simp only [den] at k; cases k
  | .goto .., e, e', h, h', x, _, k => by simp only [den] at k; cases k
  | .refuse .., e, e', h, h', x, _, k => by simp only [den] at k; cases k

theorem RE.head {r : Ren} {e e' : Env} {tmps : Array Value} {L K : List Nat} (he : RE r e' tmps) (hk : ∀ n, n ∉ K → e' n = e n) : RE r (headE e L K (L.map e')) tmps := by
  intro n v hv
  unfold headE at hv
  split at hv
  · split at hv
    · rename_i h1 h2
      have hm : n ∈ L := by simpa using h2
      have hlt : L.idxOf n < L.length := List.idxOf_lt_length_iff.2 hm
      rw [List.getD_eq_getElem?_getD, List.getElem?_map, List.getElem?_eq_getElem hlt, List.getElem_idxOf hlt] at hv
      exact he n v hv
    · cases hv
  · rename_i h1
    exact he n v (by rw [hk n (by simpa using h1)]; exact hv)

theorem RE.join {r : Ren} {e e' : Env} {tmps : Array Value} {K : List Nat} {L : Option (List Nat)} (he : RE r e' tmps) (hk : ∀ n, n ∉ K → e' n = e n) : RE r (joinE e K L e') tmps := by
  unfold joinE
  split
  · exact he
  · exact he.head hk
theorem den_sim (hC : OSound P C) (hm : P.follows .mixedOrders = true) : ∀ (c : Code) (Q : Exit → Act → World → Prop) (r : Ren) (e e' : Env) (h h' : Heap) (x : Ex) (a : Act) (w : World), den P H C c e h = some (x, e', h') → SR P base r e h a w → (∀ n ∈ asg c, n < a.tmps.size) →
    (∀ r' a' w', SR P base r' e' h' a' w' → SS base r h a w r' h' a' w' → Q x.out a' w') → c.wp P Q a w
  | .skip, Q, r, e, e', h, h', x, a, w, k, hs, hd, hn => by
    simp only [den] at k; cases k
    exact wp_skip (hn r a w hs SS.refl)
  | .region _ ops d, Q, r, e, e', h, h', x, a, w, k, hs, hd, hn => by
    simp only [den] at k
    obtain ⟨⟨e1, h1⟩, hr, hk⟩ := map_inv k
    cases hk
    exact regionA_sim hC hm hs hd hr hn
  | .seq c1 c2, Q, r, e, e', h, h', x, a, w, k, hs, hd, hn => by
    simp only [den] at k
    obtain ⟨⟨x1, e1, h1⟩, hr, k⟩ := bind_inv k
    refine wp_seq (den_sim hC hm c1 _ r e e1 h h1 x1 a w hr hs (fun n hm => hd n (by simp [asg, hm])) fun r' a' w' hs' hss' => ?_)
    cases x1 with
    | normal => exact den_sim hC hm c2 Q r' _ e' h1 h' x a' w' k ⟨hs'.re.join fun n hn' => den_keep c1 e e1 h h1 .normal hn' hr, hs'.rh, hs'.nd⟩ (fun n hm => by rw [hss'.size]; exact hd n (by simp [asg, hm])) fun r2 a2 w2 hs2 hss2 => hn r2 a2 w2 hs2 (hss'.trans hss2)
    | exit id => cases k; exact hn r' a' w' hs' hss'
    | ret => cases k; exact hn r' a' w' hs' hss'
  | .cond c c1 c2, Q, r, e, e', h, h', x, a, w, k, hs, hd, hn => by
    simp only [den] at k
    obtain ⟨v, hv, k⟩ := bind_inv k
    cases v <;> try (cases k; done)
    rename_i t
    have hev : a.eval c = .bool t := by
      have := ev_sim hs.rh hs.re hv
      generalize a.eval c = u at this
      cases this
      rfl
    refine wp_cond hev ?_
    cases t with
    | true => exact den_sim hC hm c1 Q r e e' h h' x a w k hs (fun n hm => hd n (by simp [asg, hm])) hn
    | false => exact den_sim hC hm c2 Q r e e' h h' x a w k hs (fun n hm => hd n (by simp [asg, hm])) hn
  | .block id c, Q, r, e, e', h, h', x, a, w, k, hs, hd, hn => by
    simp only [den] at k
    obtain ⟨⟨x1, e1, h1⟩, hr, hk⟩ := map_inv k
    simp only [Prod.mk.injEq] at hk
    obtain ⟨hx, he, hh⟩ := hk
    subst he hh
    refine wp_block (den_sim hC hm c _ r e e1 h h1 x1 a w hr hs hd fun r' a' w' hs' hss' => ?_)
    have := hn r' a' w' hs' hss'
    cases x1 with
    | normal => rw [if_neg (by simp)] at hx; subst hx; exact this
    | ret => rw [if_neg (by simp)] at hx; subst hx; exact this
    | exit id' =>
      show if id' = id then Q .normal a' w' else Q (.exit id') a' w'
      by_cases hid : id' = id
      · rw [if_pos (by rw [hid])] at hx; subst hx; rw [if_pos hid]; exact this
      · rw [if_neg (by simpa using hid)] at hx; subst hx; rw [if_neg hid]; exact this
  | .loop c, Q, r, e, e', h, h', x, a, w, k, hs, hd, hn => by
    simp only [den] at k
    obtain ⟨⟨x1, s1⟩, hr, hk⟩ := map_inv k
    simp only [Prod.mk.injEq] at hk
    obtain ⟨hx, he, hh⟩ := hk
    subst hx he hh
    unfold loopW at hr
    split at hr
    case isFalse => cases hr
    rename_i hex
    generalize hex.choose = N at hr
    refine wp_loop_rounds N ?_
    have key : ∀ (N : Nat) (ed : Env) (hh : Heap) (r2 : Ren) (a2 : Act) (w2 : World), (∀ n, n ∉ asg c → ed n = e n) → SR P base r2 ed hh a2 w2 → SS base r h a w r2 hh a2 w2 →
        loopN (fun (s : Vs × Heap) => (den P H C c (headE e (loopH H c) (asg c) s.1) s.2).map fun (x, e', h') => (x, ((loopH H c).map e', h'))) N ((loopH H c).map ed, hh) = some (x1, s1) →
        Code.rounds P c Q N a2 w2 := by
      intro N
      induction N with
      | zero => intro ed hh r2 a2 w2 _ _ _ k; simp only [loopN] at k; cases k
      | succ N ih =>
        intro ed hh r2 a2 w2 hked hs2 hss2 k
        rw [rounds_succ]
        unfold loopN at k
        obtain ⟨⟨x2, s2⟩, hF, k⟩ := bind_inv k
        obtain ⟨⟨x3, e3, h3⟩, hden, hk⟩ := map_inv hF
        simp only [Prod.mk.injEq] at hk
        obtain ⟨q1, q2⟩ := hk
        subst q1 q2
        have hk3 : ∀ n, n ∉ asg c → e3 n = e n := fun n hn' => by
          rw [den_keep c _ e3 _ h3 x3 hn' hden]
          exact headE_out hn'
        refine den_sim hC hm c _ r2 _ e3 hh h3 x3 a2 w2 hden ⟨hs2.re.head hked, hs2.rh, hs2.nd⟩ (fun n hm => by rw [hss2.size]; exact hd n hm) fun r4 a4 w4 hs4 hss4 => ?_
        cases x3 with
        | normal => exact ih e3 h3 r4 a4 w4 hk3 hs4 (hss2.trans hss4) k
        | exit id => cases k; exact hn r4 a4 w4 ⟨hs4.re.head hk3, hs4.rh, hs4.nd⟩ (hss2.trans hss4)
        | ret => cases k; exact hn r4 a4 w4 ⟨hs4.re.head hk3, hs4.rh, hs4.nd⟩ (hss2.trans hss4)
    exact key N e h r a w (fun _ _ => rfl) hs SS.refl hr
  | .exit id, Q, r, e, e', h, h', x, a, w, k, hs, hd, hn => by
    simp only [den] at k; cases k
    exact wp_exit (hn r a w hs SS.refl)
  | .ret, Q, r, e, e', h, h', x, a, w, k, hs, hd, hn => by
    simp only [den] at k; cases k
    exact wp_ret (hn r a w hs SS.refl)
  | .scope c, Q, r, e, e', h, h', x, a, w, k, hs, hd, hn => by
    simp only [den] at k
    refine wp_scope_straight (den_sim hC hm c _ r e e' h h' x a w k hs hd fun r' a' w' hs' hss' => ?_)
    have := hn r' a' w' hs' hss'
    cases x <;> exact this
  | .label _, Q, r, e, e', h, h', x, a, w, k, hs, hd, hn => by
    simp only [den] at k; cases k
    exact wp_label (hn r a w hs SS.refl)
  | .rangeFunc .., Q, r, e, e', h, h', x, a, w, k, hs, hd, hn => by simp only [den] at k; cases k
  | .goto .., Q, r, e, e', h, h', x, a, w, k, hs, hd, hn => by simp only [den] at k; cases k
  | .refuse .., Q, r, e, e', h, h', x, a, w, k, hs, hd, hn => by simp only [den] at k; cases k

/-! ### Calls -/
def resV (tmps : Array Value) : ResultVar → Sem Value
  | .tmp t => pure (tmps.getD t undef)
  | .cell a t => do loadVar t (← asAddr (tmps.getD a undef))
theorem results_eq (fn : Func) (tmps : Array Value) : results fn tmps = (fn.results.mapM (resV tmps) >>= fun vs => pure (if h : vs.size = 1 then vs[0] else .tuple vs)) := rfl
theorem resA_sim {r : Ren} {e : Env} {h : Heap} {tmps : Array Value} {w : World} (hr : RH P base r h w) (he : RE r e tmps) : ∀ {l : List ResultVar} {vs : List Value}, resA P e h l = some vs → ∃ vs', RL r vs vs' ∧ (l.mapM (resV tmps)).run P w = .ok vs' w
  | [], vs, k => by simp only [resA] at k; cases k; exact ⟨[], RL.nil r, by simp⟩
  | .tmp t :: l, vs, k => by
    simp only [resA] at k
    obtain ⟨v, hv, k⟩ := bind_inv k
    obtain ⟨us, hus, hk⟩ := map_inv k
    subst hk
    obtain ⟨v', h1, h2⟩ := he t v hv
    obtain ⟨vs', h3, h4⟩ := resA_sim hr he hus
    refine ⟨v' :: vs', RL.cons h2 h3, ?_⟩
    have e1 : tmps.getD t undef = v' := by rw [Array.getD_eq_getD_getElem?, h1]; rfl
    simp only [List.mapM_cons, Sem.run_bind, resV, Sem.run_pure, Result.andThen_ok, h4, e1]
  | .cell a t :: l, vs, k => by
    simp only [resA] at k
    obtain ⟨p, hp, k⟩ := bind_inv k
    obtain ⟨v, hv, k⟩ := bind_inv k
    obtain ⟨us, hus, hk⟩ := map_inv k
    subst hk
    obtain ⟨p', h1, h2⟩ := he a p hp
    obtain ⟨v', h5, h6⟩ := loadA_sim hr h2 hv
    obtain ⟨vs', h3, h4⟩ := resA_sim hr he hus
    refine ⟨v' :: vs', RL.cons h6 h3, ?_⟩
    have e1 : tmps.getD a undef = p' := by rw [Array.getD_eq_getD_getElem?, h1]; rfl
    have e2 : (do loadVar t (← asAddr p') : Sem Value).run P w = .ok v' w := by
      unfold loadA at hv
      split at hv
      · cases h2 with
        | ptr b i x hx => exact h5
      · cases hv
    simp only [List.mapM_cons, Sem.run_bind, resV, e1]
    simp only [Sem.run_bind] at e2
    rw [e2]
    simp only [Sem.run_pure, Result.andThen_ok, h4]
theorem packR_sim {r : Ren} {l l' : List Value} (hl : RL r l l') : RV r (packR l) (if h : l'.toArray.size = 1 then l'.toArray[0] else .tuple l'.toArray) := by
  have hlen := hl.1
  match l, l', hl, hlen with
  | [v], [v'], hl, _ => exact (hl.head : RV r v v')
  | [], [], hl, _ => exact .tuple _ _ rfl (fun i v v' hv => by simp at hv)
  | v :: u :: l, v' :: u' :: l', hl, _ =>
    rw [dif_neg (by simp)]
    exact RV.of_tuple hl
theorem argE_sim {r : Ren} {args : List Value} {args' : Array Value} {n : Nat} (ha : RL r args args'.toList) : RE r (argE args n) (args' ++ Array.replicate (n - args'.size) undef) := by
  intro i v hv
  have hsz : args.length = args'.size := by simpa using ha.1
  unfold argE at hv
  split at hv
  · rename_i hi
    obtain ⟨v', h1, h2⟩ := ha.get hv
    exact ⟨v', by rw [Array.getElem?_append_left (by omega)]; simpa using h1, h2⟩
  · split at hv
    · rename_i hi hn
      cases hv
      refine ⟨undef, ?_, RV.undef r⟩
      rw [Array.getElem?_append_right (by omega), Array.getElem?_replicate, if_pos (by omega)]
    · cases hv
theorem funA_sim (hC : OSound P C) (hm : P.follows .mixedOrders = true) {f : FuncId} {fn : Func} (hf : P.funcs[f]? = some fn) {args : List Value} {h h' : Heap} {v : Value} (k : funA P H C fn args h = some (v, h')) :
    (∃ fn, P.funcs[f]? = some fn ∧ fn.body.isSome = true ∧ fn.name ≠ "runtime.NumGoroutine") ∧
    ∀ (base : Nat) (r : Ren) (w : World) (args' : Array Value), RL r args args'.toList → RH P base r h w →
      Calls P f args' w fun e w' => ∃ r' v', e = .returned v' ∧ RV r' v v' ∧ Step P base r h w r' h' w' := by
  unfold funA at k
  split at k
  · cases k
  rename_i hname
  split at k
  · cases k
  rename_i c hbody
  split at k
  case isFalse => cases k
  rename_i hasg
  refine ⟨⟨fn, hf, by rw [hbody]; rfl, hname⟩, fun base r w args' ha hr => ?_⟩
  obtain ⟨⟨x, e, h1⟩, hden, k⟩ := bind_inv k
  refine calls_of_wp hf hbody (den_sim hC hm c _ r _ e h h1 x _ w hden ⟨argE_sim ha, hr, rfl⟩ (fun n hn => ?_) fun r' a' w' hs hss => ?_)
  · have := List.all_eq_true.1 hasg n hn
    simp only [decide_eq_true_eq] at this
    simp only [Array.size_append, Array.size_replicate]
    omega
  · have fin : ∀ l, resA P e h1 fn.results.toList = some l → (packR l, h1) = (v, h') → a'.defers = [] ∧ ∃ v', (results fn a'.tmps).run P w' = .ok v' w' ∧ ∃ r' v2, Ending.returned v' = .returned v2 ∧ RV r' v v2 ∧ Step P base r h w r' h' w' := by
      intro l hl he
      cases he
      obtain ⟨vs', h2, h3⟩ := resA_sim hs.rh hs.re hl
      rw [results_eq, Array.mapM_eq_mapM_toList]
      refine ⟨hs.nd, (if h : vs'.toArray.size = 1 then vs'.toArray[0] else .tuple vs'.toArray), ?_, r', _, rfl, packR_sim h2, ⟨hss.le, hs.rh, hss.below, ⟨hss.fr.size, hss.fr.keep, hss.fr.img, hss.fr.nx, hss.fr.old, hss.fr.new⟩⟩⟩
      rw [Sem.run_bind, Sem.run_map, h3]
      rfl
    cases x with
    | exit id => cases k
    | normal =>
      obtain ⟨l, hl, hk⟩ := map_inv k
      exact fin l hl hk
    | ret =>
      obtain ⟨l, hl, hk⟩ := map_inv k
      exact fin l hl hk
end
section
variable {P : Program} {H : Hints} {X : FuncId → Option (List Value → Heap → Option (Value × Heap))}
/-- What is taken from outside is true of the model. -/
def XSound (P : Program) (X : FuncId → Option (List Value → Heap → Option (Value × Heap))) : Prop := OSound P fun f args h => (X f).bind fun g => g args h
theorem XSound.none {P : Program} : XSound P fun _ => none := fun f args h v h' k => by cases k
theorem callN_sim (hX : XSound P X) (hm : P.follows .mixedOrders = true) : ∀ n, OSound P (callN P H X n)
  | 0 => fun f args h v h' k => by simp only [callN] at k; cases k
  | n + 1 => fun f args h v h' k => by
    unfold callN at k
    cases hx : X f with
    | some g =>
      rw [hx] at k
      exact hX f args h v h' (by simp only [hx, Option.bind_some]; exact k)
    | none =>
      rw [hx] at k
      simp only at k
      cases hf : P.funcs[f]? with
      | none => rw [hf] at k; cases k
      | some fn =>
        rw [hf] at k
        have := funA_sim (callN_sim hX hm n) hm hf k
        rw [hf] at this
        exact this
theorem call_sim (hX : XSound P X) (hm : P.follows .mixedOrders = true) : OSound P (call P H X) := fun f args h v h' k => by
  unfold call at k
  split at k
  · exact callN_sim hX hm _ f args h v h' k
  · cases k
end
end Go.Proofs.YtlihmncbhaimkaaDoor.Am
/- A call is what its body comes to; a loop is a round and the loop again. -/
namespace Go.Proofs.YtlihmncbhaimkaaDoor.Am
open Go Go.RowKit

section
variable {P : Program} {H : Nat → Option (List Nat)} {C C' : Oracle}
/-- More is known. -/
def OLe (C C' : Oracle) : Prop := ∀ f args h r, C f args h = some r → C' f args h = some r
theorem OLe.refl (C : Oracle) : OLe C C := fun _ _ _ _ k => k
theorem callA_le (hC : OLe C C') {f : Value} {args : List Value} {h : Heap} {r : Value × Heap} (k : callA C f args h = some r) : callA C' f args h = some r := by
  unfold callA at k ⊢
  split at k
  · exact hC _ _ _ _ k
  · cases k
/-- An operation calls, or it does not ask the oracle. -/
theorem opA_ask (C : Oracle) (op : Op) (e : Env) (h : Heap) : (∀ C', opA P C' op e h = opA P C op e h) ∨ ∃ f args, ∀ C', opA P C' op e h = (ev P e f).bind fun f => (evs P e args).bind fun args => callA C' f args h := by
  unfold opA
  split
  all_goals first
    | exact .inl fun C' => rfl
    | (rename_i f args _; exact .inr ⟨f, args.toList, fun C' => rfl⟩)
theorem opA_le (hC : OLe C C') {op : Op} {e : Env} {h : Heap} {r : Value × Heap} (k : opA P C op e h = some r) : opA P C' op e h = some r := by
  rcases opA_ask (P := P) C op e h with h1 | ⟨f, args, h1⟩
  · rw [h1]; exact k
  · rw [h1] at k ⊢
    obtain ⟨f', hf, k⟩ := bind_inv k
    obtain ⟨as, ha, k⟩ := bind_inv k
    rw [hf, Option.bind_some, ha, Option.bind_some]
    exact callA_le hC k
theorem stepA_le (hC : OLe C C') {ops : List Oper} {o : Oper} {e : Env} {h : Heap} {r : Value × Heap} (k : stepA P C ops o e h = some r) : stepA P C' ops o e h = some r := by
  unfold stepA at k ⊢
  obtain ⟨b, hb, k⟩ := bind_inv k
  rw [hb, Option.bind_some]
  cases b with
  | true => exact opA_le hC k
  | false => exact k
theorem stepD_le (hC : OLe C C') {ops : List Oper} {n0 i : Nat} {o : Oper} {e : Env} {h : Heap} {r : Value × Heap} (k : stepD P C ops n0 i o e h = some r) : stepD P C' ops n0 i o e h = some r := by
  unfold stepD at k ⊢
  obtain ⟨b, hb, k⟩ := bind_inv k
  rw [hb, Option.bind_some]
  cases b with
  | true =>
    simp only [if_true] at k ⊢
    split at k
    · rename_i hf; rw [if_pos hf]; exact k
    · rename_i hf; rw [if_neg hf]; exact opA_le hC k
  | false => exact k
theorem opsA_le (hC : OLe C C') {ops : List Oper} : ∀ (l : List Oper) (e : Env) (h : Heap) r, opsA P C ops l e h = some r → opsA P C' ops l e h = some r
  | [], e, h, r, k => k
  | o :: l, e, h, r, k => by
    unfold opsA at k ⊢
    obtain ⟨⟨v, h1⟩, hs, k⟩ := bind_inv k
    rw [stepA_le hC hs, Option.bind_some]
    exact opsA_le hC l _ _ _ k
theorem drawA_le (hC : OLe C C') {ops : List Oper} {b : List Nat} {n0 : Nat} : ∀ (l : List (Oper × Nat)) (e : Env) (h : Heap) rs hs r, drawA P C ops b n0 l e h rs hs = some r → drawA P C' ops b n0 l e h rs hs = some r
  | [], e, h, rs, hs, r, k => k
  | (o, i) :: l, e, h, rs, hs, r, k => by
    unfold drawA at k ⊢
    obtain ⟨⟨v, h1⟩, hst, k⟩ := bind_inv k
    rw [stepD_le hC hst, Option.bind_some]
    simp only at k ⊢
    cases hc : clsOf o.op with
    | quiet => rw [hc] at k; exact drawA_le hC l _ _ _ _ _ k
    | read =>
      rw [hc] at k; simp only at k ⊢
      split at k
      · rename_i hall
        rw [if_pos fun x hx hord => stepA_le hC (hall x hx hord)]
        exact drawA_le hC l _ _ _ _ _ k
      · cases k
    | chain =>
      rw [hc] at k; simp only at k ⊢
      split at k
      · rename_i hall
        rw [if_pos fun x hx hord => stepA_le hC (hall x hx hord)]
        exact drawA_le hC l _ _ _ _ _ k
      · cases k
theorem regionA_le (hC : OLe C C') {ops : List Oper} {d : Bool} {e : Env} {h : Heap} {r : Env × Heap} (k : regionA P C ops d e h = some r) : regionA P C' ops d e h = some r := by
  unfold regionA at k ⊢
  split at k
  · rename_i hd
    rw [if_pos hd]
    simp only at k ⊢
    split at k
    · rename_i hok
      rw [if_pos hok]
      exact drawA_le hC _ _ _ _ _ _ k
    · cases k
  · rename_i hd
    rw [if_neg hd]
    exact opsA_le hC _ _ _ _ k

/-! ### Loops -/
section
variable {σ : Type} {F F' : σ → Option (Ex × σ)}
theorem loopN_le (hF : ∀ s r, F s = some r → F' s = some r) : ∀ n s r, loopN F n s = some r → loopN F' n s = some r
  | 0, s, r, k => by simp only [loopN] at k; cases k
  | n + 1, s, r, k => by
    unfold loopN at k ⊢
    obtain ⟨⟨x, s1⟩, hs, k⟩ := bind_inv k
    rw [hF _ _ hs, Option.bind_some]
    cases x with
    | normal => exact loopN_le hF n _ _ k
    | exit id => exact k
    | ret => exact k
theorem loopN_succ : ∀ n s r, loopN F n s = some r → loopN F (n + 1) s = some r
  | 0, s, r, k => by simp only [loopN] at k; cases k
  | n + 1, s, r, k => by
    unfold loopN at k ⊢
    obtain ⟨⟨x, s1⟩, hs, k⟩ := bind_inv k
    rw [hs, Option.bind_some]
    cases x with
    | normal => exact loopN_succ n _ _ k
    | exit id => exact k
    | ret => exact k
theorem loopN_add {n s r} (k : loopN F n s = some r) : ∀ m, loopN F (n + m) s = some r
  | 0 => k
  | m + 1 => loopN_succ _ _ _ (loopN_add k m)
theorem loopW_some {s : σ} {r : Ex × σ} : loopW F s = some r ↔ ∃ n, loopN F n s = some r := by
  constructor
  · intro k
    unfold loopW at k
    split at k
    · exact ⟨_, k⟩
    · cases k
  · rintro ⟨n, k⟩
    unfold loopW
    have hex : ∃ n r, loopN F n s = some r := ⟨n, r, k⟩
    rw [dif_pos hex]
    obtain ⟨r', hr'⟩ := hex.choose_spec
    have h1 := loopN_add hr' n
    have h2 := loopN_add k hex.choose
    rw [Nat.add_comm] at h2
    rw [h1] at h2
    rw [hr', h2]
theorem loopW_le (hF : ∀ s r, F s = some r → F' s = some r) {s r} (k : loopW F s = some r) : loopW F' s = some r := by
  obtain ⟨n, hn⟩ := loopW_some.1 k
  exact loopW_some.2 ⟨n, loopN_le hF n s r hn⟩
theorem loopW_done {s s' : σ} {x : Ex} (k : F s = some (x, s')) (hx : x ≠ .normal) : loopW F s = some (x, s') :=
  loopW_some.2 ⟨1, by
    unfold loopN
    rw [k, Option.bind_some]
    cases x with
    | normal => exact absurd rfl hx
    | exit id => rfl
    | ret => rfl⟩
theorem loopW_more {s s' : σ} (k : F s = some (.normal, s')) : loopW F s = loopW F s' := by
  have key : ∀ r, loopW F s = some r ↔ loopW F s' = some r := fun r => by
    rw [loopW_some, loopW_some]
    constructor
    · rintro ⟨n, hn⟩
      cases n with
      | zero => simp only [loopN] at hn; cases hn
      | succ n => unfold loopN at hn; rw [k, Option.bind_some] at hn; exact ⟨n, hn⟩
    · rintro ⟨n, hn⟩
      exact ⟨n + 1, by unfold loopN; rw [k, Option.bind_some]; exact hn⟩
  cases h : loopW F s' with
  | some r => exact (key r).2 h
  | none =>
    cases h2 : loopW F s with
    | none => rfl
    | some r => rw [(key r).1 h2] at h; cases h
/-- A loop with an invariant and a measure. -/
theorem loopW_rule (I : σ → Prop) (μ : σ → Nat) (R : Ex → σ → Prop) (hround : ∀ s, I s → ∃ x s', F s = some (x, s') ∧ (x = .normal → I s' ∧ μ s' < μ s) ∧ (x ≠ .normal → R x s')) : ∀ s, I s → ∃ x s', loopW F s = some (x, s') ∧ x ≠ .normal ∧ R x s' := by
  have key : ∀ n s, μ s ≤ n → I s → ∃ x s', loopW F s = some (x, s') ∧ x ≠ .normal ∧ R x s' := by
    intro n
    induction n using Nat.strongRecOn with
    | _ n ih =>
      intro s hn hs
      obtain ⟨x, s', h1, h2, h3⟩ := hround s hs
      by_cases hx : x = .normal
      · subst hx
        obtain ⟨h4, h5⟩ := h2 rfl
        obtain ⟨y, s2, k1, k2⟩ := ih (μ s') (by omega) s' (Nat.le_refl _) h4
        exact ⟨y, s2, by rw [loopW_more h1]; exact k1, k2⟩
      · exact ⟨x, s', loopW_done h1 hx, hx, h3 hx⟩
  exact fun s hs => key _ s (Nat.le_refl _) hs
end

theorem den_le (hC : OLe C C') : ∀ (c : Code) (e : Env) (h : Heap) r, den P H C c e h = some r → den P H C' c e h = some r
  | .skip, e, h, r, k => k
  | .region _ ops d, e, h, r, k => by
    simp only [den] at k ⊢
    obtain ⟨u, hu, hk⟩ := map_inv k
    rw [regionA_le hC hu, Option.map_some, hk]
  | .seq a b, e, h, r, k => by
    simp only [den] at k ⊢
    obtain ⟨⟨x, e1, h1⟩, hu, k⟩ := bind_inv k
    rw [den_le hC a _ _ _ hu, Option.bind_some]
    cases x with
    | normal => exact den_le hC b _ _ _ k
    | exit id => exact k
    | ret => exact k
  | .cond c a b, e, h, r, k => by
    simp only [den] at k ⊢
    obtain ⟨v, hv, k⟩ := bind_inv k
    rw [hv, Option.bind_some]
    cases v <;> try (cases k; done)
    rename_i t
    cases t with
    | true => exact den_le hC a _ _ _ k
    | false => exact den_le hC b _ _ _ k
  | .block id c, e, h, r, k => by
    simp only [den] at k ⊢
    obtain ⟨u, hu, hk⟩ := map_inv k
    rw [den_le hC c _ _ _ hu, Option.map_some, hk]
  | .loop c, e, h, r, k => by
    simp only [den] at k ⊢
    obtain ⟨u, hu, hk⟩ := map_inv k
    rw [loopW_le (fun s r hr => ?_) hu, Option.map_some, hk]
    obtain ⟨u', hu', hk'⟩ := map_inv hr
    rw [den_le hC c _ _ _ hu', Option.map_some, hk']
  | .exit id, e, h, r, k => k
  | .ret, e, h, r, k => k
  | .scope c, e, h, r, k => by simp only [den] at k ⊢; exact den_le hC c _ _ _ k
  | .label _, e, h, r, k => k
  | .rangeFunc .., e, h, r, k => k
  | .goto .., e, h, r, k => k
  | .refuse .., e, h, r, k => k
theorem funA_le (hC : OLe C C') {fn : Func} {args : List Value} {h : Heap} {r : Value × Heap} (k : funA P H C fn args h = some r) : funA P H C' fn args h = some r := by
  unfold funA at k ⊢
  split at k
  · cases k
  rename_i hname
  rw [if_neg hname]
  split at k
  · cases k
  rename_i c hb
  split at k
  · rename_i ha
    rw [if_pos ha]
    obtain ⟨u, hu, k⟩ := bind_inv k
    rw [den_le hC c _ _ _ hu, Option.bind_some]
    exact k
  · cases k
end

/-! ### A limit of oracles -/
section
variable {P : Program} {H : Nat → Option (List Nat)} {C : Oracle} {K : Nat → Oracle}
structure Lim (K : Nat → Oracle) (C : Oracle) : Prop where
  up : ∀ n, OLe (K n) (K (n + 1))
  lim : ∀ f args h r, C f args h = some r → ∃ n, K n f args h = some r
theorem Lim.le (L : Lim K C) {n m : Nat} (h : n ≤ m) : OLe (K n) (K m) := by
  obtain ⟨d, rfl⟩ := Nat.exists_eq_add_of_le h
  clear h
  induction d with
  | zero => exact OLe.refl _
  | succ d ih => exact fun f args h r k => L.up _ _ _ _ _ (ih _ _ _ _ k)
theorem Lim.opA (L : Lim K C) {op : Op} {e : Env} {h : Heap} {r : Value × Heap} (k : opA P C op e h = some r) : ∃ n, Am.opA P (K n) op e h = some r := by
  rcases opA_ask (P := P) C op e h with h1 | ⟨f, args, h1⟩
  · exact ⟨0, by rw [h1]; exact k⟩
  · rw [h1] at k
    obtain ⟨f', hf, k⟩ := bind_inv k
    obtain ⟨as, ha, k⟩ := bind_inv k
    unfold callA at k
    split at k
    · obtain ⟨n, hn⟩ := L.lim _ _ _ _ k
      exact ⟨n, by rw [h1, hf, Option.bind_some, ha, Option.bind_some]; exact hn⟩
    · cases k
theorem Lim.stepA (L : Lim K C) {ops : List Oper} {o : Oper} {e : Env} {h : Heap} {r : Value × Heap} (k : stepA P C ops o e h = some r) : ∃ n, Am.stepA P (K n) ops o e h = some r := by
  unfold Am.stepA at k ⊢
  obtain ⟨b, hb, k⟩ := bind_inv k
  cases b with
  | true => obtain ⟨n, hn⟩ := L.opA k; exact ⟨n, by rw [hb]; exact hn⟩
  | false => exact ⟨0, by rw [hb]; exact k⟩
theorem Lim.stepD (L : Lim K C) {ops : List Oper} {n0 i : Nat} {o : Oper} {e : Env} {h : Heap} {r : Value × Heap} (k : stepD P C ops n0 i o e h = some r) : ∃ n, Am.stepD P (K n) ops n0 i o e h = some r := by
  unfold Am.stepD at k ⊢
  obtain ⟨b, hb, k⟩ := bind_inv k
  cases b with
  | true =>
    simp only [if_true] at k
    split at k
    · rename_i hf
      exact ⟨0, by rw [hb, Option.bind_some, if_pos rfl, if_pos hf]; exact k⟩
    · rename_i hf
      obtain ⟨n, hn⟩ := L.opA k
      exact ⟨n, by rw [hb, Option.bind_some, if_pos rfl, if_neg hf]; exact hn⟩
  | false => exact ⟨0, by rw [hb]; exact k⟩
theorem Lim.opsA (L : Lim K C) {ops : List Oper} : ∀ (l : List Oper) (e : Env) (h : Heap) r, opsA P C ops l e h = some r → ∃ n, Am.opsA P (K n) ops l e h = some r
  | [], e, h, r, k => ⟨0, k⟩
  | o :: l, e, h, r, k => by
    unfold Am.opsA at k ⊢
    obtain ⟨⟨v, h1⟩, hs, k⟩ := bind_inv k
    obtain ⟨n, hn⟩ := L.stepA hs
    obtain ⟨m, hm⟩ := L.opsA l _ _ _ k
    exact ⟨max n m, by rw [stepA_le (L.le (Nat.le_max_left n m)) hn]; exact opsA_le (L.le (Nat.le_max_right n m)) _ _ _ _ hm⟩
theorem Lim.all {α : Type} (p : Nat → α → Prop) (hup : ∀ n m a, n ≤ m → p n a → p m a) : ∀ (l : List α), (∀ a ∈ l, ∃ n, p n a) → ∃ n, ∀ a ∈ l, p n a
  | [], _ => ⟨0, by simp⟩
  | a :: l, h => by
    obtain ⟨n, hn⟩ := h a (by simp)
    obtain ⟨m, hm⟩ := Lim.all p hup l fun a ha => h a (by simp [ha])
    refine ⟨max n m, fun b hb => ?_⟩
    rcases List.mem_cons.1 hb with rfl | hb
    · exact hup _ _ _ (Nat.le_max_left _ _) hn
    · exact hup _ _ _ (Nat.le_max_right _ _) (hm b hb)
theorem Lim.drawA (L : Lim K C) {ops : List Oper} {b : List Nat} {n0 : Nat} : ∀ (l : List (Oper × Nat)) (e : Env) (h : Heap) rs hs r, drawA P C ops b n0 l e h rs hs = some r → ∃ n, Am.drawA P (K n) ops b n0 l e h rs hs = some r
  | [], e, h, rs, hs, r, k => ⟨0, k⟩
  | (o, i) :: l, e, h, rs, hs, r, k => by
    unfold Am.drawA at k ⊢
    obtain ⟨⟨v, h1⟩, hst, k⟩ := bind_inv k
    obtain ⟨n, hn⟩ := L.stepD hst
    simp only at k ⊢
    cases hc : clsOf o.op with
    | quiet =>
      rw [hc] at k
      obtain ⟨m, hm⟩ := L.drawA l _ _ _ _ _ k
      exact ⟨max n m, by rw [stepD_le (L.le (Nat.le_max_left n m)) hn]; exact drawA_le (L.le (Nat.le_max_right n m)) _ _ _ _ _ _ hm⟩
    | read =>
      rw [hc] at k; simp only at k ⊢
      split at k
      · rename_i hall
        obtain ⟨m, hm⟩ := L.drawA l _ _ _ _ _ k
        obtain ⟨q, hq⟩ := Lim.all (fun q (x : Nat × Heap) => ordered b x.1 i = false → Am.stepA P (K q) ops o e x.2 = some (v, x.2)) (fun n m a hnm hp ho => stepA_le (L.le hnm) (hp ho)) hs (fun x hx => by
          cases ho : ordered b x.1 i with
          | true => exact ⟨0, fun h => by cases h⟩
          | false => obtain ⟨q, hq⟩ := L.stepA (hall x hx ho); exact ⟨q, fun _ => hq⟩)
        refine ⟨max n (max m q), ?_⟩
        rw [stepD_le (L.le (Nat.le_max_left _ _)) hn, Option.bind_some]
        simp only
        rw [if_pos fun x hx ho => stepA_le (L.le (Nat.le_trans (Nat.le_max_right m q) (Nat.le_max_right _ _))) (hq x hx ho)]
        exact drawA_le (L.le (Nat.le_trans (Nat.le_max_left m q) (Nat.le_max_right _ _))) _ _ _ _ _ _ hm
      · cases k
    | chain =>
      rw [hc] at k; simp only at k ⊢
      split at k
      · rename_i hall
        obtain ⟨m, hm⟩ := L.drawA l _ _ _ _ _ k
        obtain ⟨q, hq⟩ := Lim.all (fun q (x : Nat × Oper × Env × Value) => ordered b x.1 i = false → Am.stepA P (K q) ops x.2.1 x.2.2.1 h1 = some (x.2.2.2, h1)) (fun n m a hnm hp ho => stepA_le (L.le hnm) (hp ho)) rs (fun x hx => by
          cases ho : ordered b x.1 i with
          | true => exact ⟨0, fun h => by cases h⟩
          | false => obtain ⟨q, hq⟩ := L.stepA (hall x hx ho); exact ⟨q, fun _ => hq⟩)
        refine ⟨max n (max m q), ?_⟩
        rw [stepD_le (L.le (Nat.le_max_left _ _)) hn, Option.bind_some]
        simp only
        rw [if_pos fun x hx ho => stepA_le (L.le (Nat.le_trans (Nat.le_max_right m q) (Nat.le_max_right _ _))) (hq x hx ho)]
        exact drawA_le (L.le (Nat.le_trans (Nat.le_max_left m q) (Nat.le_max_right _ _))) _ _ _ _ _ _ hm
      · cases k
theorem Lim.regionA (L : Lim K C) {ops : List Oper} {d : Bool} {e : Env} {h : Heap} {r : Env × Heap} (k : regionA P C ops d e h = some r) : ∃ n, Am.regionA P (K n) ops d e h = some r := by
  unfold Am.regionA at k ⊢
  split at k
  · rename_i hd
    simp only at k
    split at k
    · rename_i hok
      obtain ⟨n, hn⟩ := L.drawA _ _ _ _ _ _ k
      exact ⟨n, by rw [if_pos hd]; simp only; rw [if_pos hok]; exact hn⟩
    · cases k
  · rename_i hd
    obtain ⟨n, hn⟩ := L.opsA _ _ _ _ k
    exact ⟨n, by rw [if_neg hd]; exact hn⟩
theorem Lim.den (L : Lim K C) : ∀ (c : Code) (e : Env) (h : Heap) r, den P H C c e h = some r → ∃ n, Am.den P H (K n) c e h = some r
  | .skip, e, h, r, k => ⟨0, k⟩
  | .region _ ops d, e, h, r, k => by
    simp only [Am.den] at k ⊢
    obtain ⟨u, hu, hk⟩ := map_inv k
    obtain ⟨n, hn⟩ := L.regionA hu
    exact ⟨n, by rw [hn, Option.map_some, hk]⟩
  | .seq a b, e, h, r, k => by
    simp only [Am.den] at k ⊢
    obtain ⟨⟨x, e1, h1⟩, hu, k⟩ := bind_inv k
    obtain ⟨n, hn⟩ := L.den a _ _ _ hu
    cases x with
    | normal =>
      obtain ⟨m, hm⟩ := L.den b _ _ _ k
      exact ⟨max n m, by rw [den_le (L.le (Nat.le_max_left n m)) _ _ _ _ hn]; exact den_le (L.le (Nat.le_max_right n m)) _ _ _ _ hm⟩
    | exit id => exact ⟨n, by rw [hn]; exact k⟩
    | ret => exact ⟨n, by rw [hn]; exact k⟩
  | .cond c a b, e, h, r, k => by
    simp only [Am.den] at k ⊢
    obtain ⟨v, hv, k⟩ := bind_inv k
    rw [hv]
    cases v <;> try (cases k; done)
    rename_i t
    cases t with
    | true => exact L.den a _ _ _ k
    | false => exact L.den b _ _ _ k
  | .block id c, e, h, r, k => by
    simp only [Am.den] at k ⊢
    obtain ⟨u, hu, hk⟩ := map_inv k
    obtain ⟨n, hn⟩ := L.den c _ _ _ hu
    exact ⟨n, by rw [hn, Option.map_some, hk]⟩
  | .loop c, e, h, r, k => by
    simp only [Am.den] at k ⊢
    obtain ⟨u, hu, hk⟩ := map_inv k
    obtain ⟨N, hN⟩ := loopW_some.1 hu
    have key : ∀ (N : Nat) (s : Vs × Heap) (u : Ex × (Vs × Heap)), loopN (fun (s : Vs × Heap) => (Am.den P H C c (headE e (loopH H c) (asg c) s.1) s.2).map fun (x, e', h') => (x, ((loopH H c).map e', h'))) N s = some u →
        ∃ n, loopN (fun (s : Vs × Heap) => (Am.den P H (K n) c (headE e (loopH H c) (asg c) s.1) s.2).map fun (x, e', h') => (x, ((loopH H c).map e', h'))) N s = some u := by
      intro N
      induction N with
      | zero => intro s u k; simp only [loopN] at k; cases k
      | succ N ih =>
        intro s u k
        unfold loopN at k
        obtain ⟨⟨x1, s1⟩, hF, k⟩ := bind_inv k
        obtain ⟨w, hw, hkw⟩ := map_inv hF
        obtain ⟨n, hn⟩ := L.den c _ _ _ hw
        cases x1 with
        | normal =>
          obtain ⟨m, hm⟩ := ih _ _ k
          refine ⟨max n m, ?_⟩
          unfold loopN
          rw [den_le (L.le (Nat.le_max_left n m)) _ _ _ _ hn, Option.map_some, hkw, Option.bind_some]
          refine loopN_le (fun s r hr => ?_) _ _ _ hm
          obtain ⟨u', hu', hk'⟩ := map_inv hr
          rw [den_le (L.le (Nat.le_max_right n m)) _ _ _ _ hu', Option.map_some, hk']
        | exit id =>
          refine ⟨n, ?_⟩
          unfold loopN
          rw [hn, Option.map_some, hkw, Option.bind_some]
          exact k
        | ret =>
          refine ⟨n, ?_⟩
          unfold loopN
          rw [hn, Option.map_some, hkw, Option.bind_some]
          exact k
    obtain ⟨n, hn⟩ := key N _ _ hN
    exact ⟨n, by rw [loopW_some.2 ⟨N, hn⟩, Option.map_some, hk]⟩
  | .exit id, e, h, r, k => ⟨0, k⟩
  | .ret, e, h, r, k => ⟨0, k⟩
  | .scope c, e, h, r, k => by simp only [Am.den] at k ⊢; exact L.den c _ _ _ k
  | .label _, e, h, r, k => ⟨0, k⟩
  | .rangeFunc .., e, h, r, k => ⟨0, k⟩
  | .goto .., e, h, r, k => ⟨0, k⟩
  | .refuse .., e, h, r, k => ⟨0, k⟩
theorem Lim.funA (L : Lim K C) {fn : Func} {args : List Value} {h : Heap} {r : Value × Heap} (k : Am.funA P H C fn args h = some r) : ∃ n, Am.funA P H (K n) fn args h = some r := by
  have key : ∀ c, fn.body = some c → ∀ u, Am.den P H C c (argE args fn.ntmps) h = some u → ∃ n, Am.den P H (K n) c (argE args fn.ntmps) h = some u := fun c _ u hu => L.den c _ _ _ hu
  unfold Am.funA at k
  split at k
  · cases k
  rename_i hname
  split at k
  · cases k
  rename_i c hb
  split at k
  · rename_i ha
    obtain ⟨u, hu, k⟩ := bind_inv k
    obtain ⟨n, hn⟩ := key c hb _ hu
    refine ⟨n, ?_⟩
    unfold Am.funA
    rw [if_neg hname]
    split
    · rename_i hb2; rw [hb2] at hb; cases hb
    · rename_i c2 hb2
      rw [hb2] at hb
      cases hb
      rw [if_pos ha, hn, Option.bind_some]
      exact k
  · cases k
end
section
variable {P : Program} {H : Hints} {X : FuncId → Option (List Value → Heap → Option (Value × Heap))}
theorem callN_up : ∀ n, OLe (callN P H X n) (callN P H X (n + 1))
  | 0 => fun f args h r k => by simp only [callN] at k; cases k
  | n + 1 => fun f args h r k => by
    unfold callN at k ⊢
    cases hx : X f with
    | some g => rw [hx] at k; exact k
    | none =>
      rw [hx] at k
      simp only at k ⊢
      cases hf : P.funcs[f]? with
      | none => rw [hf] at k; cases k
      | some fn => rw [hf] at k; exact funA_le (callN_up n) k
theorem call_lim : Lim (callN P H X) (call P H X) := ⟨callN_up, fun f args h r k => by
  unfold call at k
  split at k
  · exact ⟨_, k⟩
  · cases k⟩
theorem call_of {n : Nat} {f : FuncId} {args : List Value} {h : Heap} {r : Value × Heap} (k : callN P H X n f args h = some r) : call P H X f args h = some r := by
  have hex : ∃ n r, callN P H X n f args h = some r := ⟨n, r, k⟩
  unfold call
  rw [dif_pos hex]
  obtain ⟨r', hr'⟩ := hex.choose_spec
  have h1 := call_lim.le (Nat.le_max_left hex.choose n) _ _ _ _ hr'
  have h2 := call_lim.le (Nat.le_max_right hex.choose n) _ _ _ _ k
  rw [h1] at h2
  rw [hr', h2]
/-- A call is what the function's body comes to. -/
theorem call_fun {f : FuncId} {fn : Func} (hf : P.funcs[f]? = some fn) (hx : X f = none) (args : List Value) (h : Heap) : call P H X f args h = funA P (H f) (call P H X) fn args h := by
  have key : ∀ r, call P H X f args h = some r ↔ funA P (H f) (call P H X) fn args h = some r := fun r => by
    constructor
    · intro k
      obtain ⟨n, hn⟩ := call_lim.lim _ _ _ _ k
      cases n with
      | zero => simp only [callN] at hn; cases hn
      | succ n =>
        unfold callN at hn
        rw [hx] at hn
        simp only [hf] at hn
        exact funA_le (fun f args h r k => call_of k) hn
    · intro k
      obtain ⟨n, hn⟩ := call_lim.funA k
      exact call_of (n := n + 1) (by unfold callN; rw [hx]; simp only [hf]; exact hn)
  cases h2 : funA P (H f) (call P H X) fn args h with
  | some r => exact (key r).2 h2
  | none =>
    cases h3 : call P H X f args h with
    | none => rfl
    | some r => rw [(key r).1 h3] at h2; cases h2
theorem call_ext {f : FuncId} {g} (hx : X f = some g) (args : List Value) (h : Heap) : call P H X f args h = g args h := by
  have h1 : ∀ n, callN P H X (n + 1) f args h = g args h := fun n => by unfold callN; rw [hx]
  cases h2 : g args h with
  | some r => exact call_of (n := 1) (by rw [h1, h2])
  | none =>
    cases h3 : call P H X f args h with
    | none => rfl
    | some r =>
      obtain ⟨n, hn⟩ := call_lim.lim _ _ _ _ h3
      cases n with
      | zero => simp only [callN] at hn; cases hn
      | succ n => rw [h1, h2] at hn; cases hn
end
end Go.Proofs.YtlihmncbhaimkaaDoor.Am
/- The abstract machine as a calculus of propositions: what must hold for the code to come to something of which 'Q' holds. -/
namespace Go.Proofs.YtlihmncbhaimkaaDoor.Am
open Go Go.RowKit

/-! ### Words -/
/-- It is there, and 'K' holds of it. -/
def Bnd {α : Type} (o : Option α) (K : α → Prop) : Prop := ∃ v, o = some v ∧ K v
def Res (o : Option (Value × Heap)) (K : Value → Heap → Prop) : Prop := ∃ v h, o = some (v, h) ∧ K v h
def OnB (v : Value) (K : Bool → Prop) : Prop := ∃ t, v = .bool t ∧ K t
def Br (t : Bool) (A B : Prop) : Prop := (t = true → A) ∧ (t = false → B)
/-- Known beforehand. -/
def evW {α : Type} (x : Option α) (K : α → Prop) : Prop := match x with
  | some v => K v
  | none => False
/-- A heap, named. -/
def Nm (h : Heap) (K : Heap → Prop) : Prop := K h
def wantV (g : Value) (w : Bool) : Bool := match g with
  | .bool b => b == w
  | _ => false
/-- An operation that may be passed over. -/
def GdW (b : Bool) (A : (Value → Heap → Prop) → Prop) (h : Heap) (K : Value → Heap → Prop) : Prop :=
  ∃ v h', (b = true → A fun v1 h1 => v1 = v ∧ h1 = h') ∧ (b = false → v = undef ∧ h' = h) ∧ K v h'
def AllV : Nat → (List Value → Prop) → Prop
  | 0, p => p []
  | n + 1, p => ∀ v, AllV n fun l => p (v :: l)
theorem AllV.all : ∀ {n : Nat} {p : List Value → Prop}, AllV n p → ∀ l, l.length = n → p l
  | 0, p, h, l, e => by cases l with
    | nil => exact h
    | cons => cases e
  | n + 1, p, h, l, e => by cases l with
    | nil => cases e
    | cons v l => exact AllV.all (h v) l (by simpa using e)
def look (e : Env) : List Nat → Option (List Value)
  | [] => some []
  | n :: l => (e n).bind fun v => (look e l).map (v :: ·)
theorem look_map {e : Env} : ∀ {L : List Nat} {vs : List Value}, look e L = some vs → L.map e = vs.map some ∧ vs.length = L.length
  | [], vs, k => by simp only [look] at k; cases k; exact ⟨rfl, rfl⟩
  | n :: L, vs, k => by
    simp only [look] at k
    obtain ⟨v, hv, k⟩ := bind_inv k
    obtain ⟨us, hus, hk⟩ := map_inv k
    subst hk
    obtain ⟨h1, h2⟩ := look_map hus
    exact ⟨by simp [hv, h1], by simp [h2]⟩
/-- A loop: an invariant and a measure. -/
def LoopW (n : Nat) (body : List Value → Heap → (Ex → List Value → Heap → Prop) → Prop) (vs : List Value) (h : Heap) (Q : Ex → List Value → Heap → Prop) : Prop :=
  ∃ (I : List Value → Heap → Prop) (μ : List Value → Heap → Nat), I vs h ∧ AllV n fun vs => ∀ h, I vs h → body vs h fun x vs' h' => match x with
    | .normal => I vs' h' ∧ μ vs' h' < μ vs h
    | x => Q x vs' h'
/-- Two ways that meet. -/
def JoinW (n : Nat) (A : (List Value → Heap → Prop) → Prop) (B : List Value → Heap → Prop) : Prop :=
  ∃ R : List Value → Heap → Prop, A R ∧ AllV n fun vs => ∀ h, R vs h → B vs h

theorem evW_some {α : Type} {x : Option α} {K : α → Prop} (h : evW x K) : ∃ v, x = some v ∧ K v := by
  cases x with
  | none => exact h.elim
  | some v => exact ⟨v, rfl, h⟩

section
variable (P : Program) (H : Nat → Option (List Nat)) (C : Oracle)
def callW (f : Value) (args : List Value) (h : Heap) (K : Value → Heap → Prop) : Prop := match f with
  | .func (.func f) first captured => Res (C f (first.toList ++ args ++ captured.toList) h) K
  | f => Res (callA C f args h) K
def builtinW (b : Builtin) (ts : List TypeId) (args : List Value) (h : Heap) (K : Value → Heap → Prop) : Prop := match b, ts, args with
  | .len, t :: _, [x] => Bnd (lenA P t x h) fun v => K v h
  | b, ts, args => Res (builtinA P b ts args h) K
def opW (o : Op) (e : Env) (h : Heap) (K : Value → Heap → Prop) : Prop := match o with
  | .move x | .assign x => evW (ev P e x) fun v => K v h
  | .pick c a b => evW (ev P e c) fun c => evW (ev P e a) fun a => evW (ev P e b) fun b => OnB c fun t => K (bif t then a else b) h
  | .load t a => evW (ev P e a) fun a => Bnd (loadA P t h a) fun v => K v h
  | .store t a x => evW (ev P e a) fun a => evW (ev P e x) fun x => Bnd (storeA P t h a x) fun h => K undef h
  | .nilCheck x => evW (ev P e x) fun v => Bnd (nilCheckA v) fun v => K v h
  | .binOp op t x y _ => evW (ev P e x) fun a => evW (ev P e y) fun b => Bnd (binA P op t a b) fun v => K v h
  | .unOp op _ x => evW (ev P e x) fun v => Bnd (unA op v) fun v => K v h
  | .convert s d x => evW (ev P e x) fun v => Res (convA P s d v h) K
  | .makeInterface t x => evW (ev P e x) fun v => Bnd (makeInterfaceA P t v) fun v => K v h
  | .makeFunc (.func f) xs ys => evW (evs P e xs.toList) fun xs => evW (evs P e ys.toList) fun ys => K (.func (.func f) xs.toArray ys.toArray) h
  | .makeSlice t l c => evW (ev P e l) fun l => evW (ev P e c) fun c => Res (makeSliceA P t l c h) K
  | .slice t x lo hi mx => evW (ev P e x) fun x => evW (optE P e lo) fun lo => evW (optE P e hi) fun hi => evW (optE P e mx) fun mx => Bnd (sliceA P t x lo hi mx h) fun v => K v h
  | .fieldAddr s x f => evW (ev P e x) fun v => Bnd (fieldAddrA P s v f) fun v => K v h
  | .field s x f => evW (ev P e x) fun v => Bnd (fieldA P s v f) fun v => K v h
  | .indexAddr t x i => evW (ev P e x) fun v => evW (ev P e i) fun i => Bnd (indexAddrA P t v i) fun v => K v h
  | .index t x i => evW (ev P e x) fun v => evW (ev P e i) fun i => Bnd (indexA P t v i) fun v => K v h
  | .extract x i => evW (ev P e x) fun v => Bnd (extractA v i) fun v => K v h
  | .alloc t => Res ((zeroT P t).map fun z => newA P t h z) K
  | .box t x => evW (ev P e x) fun v => Res ((flatT P t v).map fun cs => newA P t h cs) K
  | .build t ps => evW (partsE P e ps.toList) fun ps => Bnd (buildA P t ps) fun v => K v h
  | .buildSlice t n ps => evW (partsE P e ps.toList) fun ps => Res (buildSliceA P t n ps h) K
  | .call { callee := .value f, args, .. } => evW (ev P e f) fun f => evW (evs P e args.toList) fun args => callW C f args h K
  | .call { callee := .builtin b, args, argTypes } => evW (evs P e args.toList) fun args => builtinW P b argTypes.toList args h K
  | _ => False
def stepW (ops : List Oper) (o : Oper) (e : Env) (h : Heap) (K : Value → Heap → Prop) : Prop := match o.guard with
  | none => opW P C o.op e h K
  | some (j, w) => evW (((ops[j]?).bind (·.dst)).bind e) fun g => GdW (wantV g w) (opW P C o.op e h) h K
/-- An operation that makes a block, at a number that was laid by. -/
def freshW (o : Op) (e : Env) (K : Option (Nat × Nat) → Nat → List Value → Prop) : Prop := match o with
  | .alloc t => Bnd (zeroT P t) fun z => K none (sz P t) z
  | .box t x => evW (ev P e x) fun v => Bnd (flatT P t v) fun cs => K none (sz P t) cs
  | .buildSlice t n ps => evW (partsE P e ps.toList) fun ps => Bnd (freshBS P t n ps) fun x => K x.1 x.2.1 x.2.2
  | .makeSlice t l c => evW (ev P e l) fun l => evW (ev P e c) fun c => Bnd (freshMS P t l c) fun x => K x.1 x.2.1 x.2.2
  | _ => False
def opDW (n0 i : Nat) (o : Op) (e : Env) (h : Heap) (K : Value → Heap → Prop) : Prop := match isFresh o with
  | true => freshW P o e fun s n cs => K (freshV (n0 + i) s) (h.set (n0 + i) (.cells cs n false false))
  | false => opW P C o e h K
def stepDW (ops : List Oper) (n0 i : Nat) (o : Oper) (e : Env) (h : Heap) (K : Value → Heap → Prop) : Prop := match o.guard with
  | none => opDW P C n0 i o.op e h K
  | some (j, w) => evW (((ops[j]?).bind (·.dst)).bind e) fun g => GdW (wantV g w) (opDW P C n0 i o.op e h) h K
def opsW (ops : List Oper) : List Oper → (Env → Heap → Prop) → Env → Heap → Prop
  | [], K, e, h => K e h
  | o :: r, K, e, h => stepW P C ops o e h fun v h => opsW ops r K (upd e o.dst (some v)) h
def condR (ops : List Oper) (b : List Nat) (i : Nat) (o : Oper) (e : Env) (v : Value) : List (Nat × Heap) → Prop → Prop
  | [], K => K
  | x :: r, K => bif ordered b x.1 i then condR ops b i o e v r K else (stepW P C ops o e x.2 fun v1 h1 => v1 = v ∧ h1 = x.2) ∧ condR ops b i o e v r K
def condC (ops : List Oper) (b : List Nat) (i : Nat) (h : Heap) : List (Nat × Oper × Env × Value) → Prop → Prop
  | [], K => K
  | x :: r, K => bif ordered b x.1 i then condC ops b i h r K else (stepW P C ops x.2.1 x.2.2.1 h fun v1 h1 => v1 = x.2.2.2 ∧ h1 = h) ∧ condC ops b i h r K
def drawW (ops : List Oper) (b : List Nat) (n0 : Nat) : List (Oper × Nat) → (Env → Heap → Prop) → Env → Heap → List (Nat × Oper × Env × Value) → List (Nat × Heap) → Prop
  | [], K, e, h, _, _ => K e h
  | (o, i) :: r, K, e, h, rs, hs => stepDW P C ops n0 i o e h fun v h' => match clsOf o.op with
    | .quiet => drawW ops b n0 r K (upd e o.dst (some v)) h' rs hs
    | .read => condR P C ops b i o e v hs (drawW ops b n0 r K (upd e o.dst (some v)) h' ((i, o, e, v) :: rs) hs)
    | .chain => condC P C ops b i h' rs (drawW ops b n0 r K (upd e o.dst (some v)) h' rs ((i, h) :: hs))
def regionW (ops : List Oper) (draw : Bool) (K : Env → Heap → Prop) (e : Env) (h : Heap) : Prop :=
  match draw with
  | true => drawW P C ops (Region.before ops.toArray).toList h.next ops.zipIdx K e (reserveD ops h) [] []
  | false => opsW P C ops ops K e h
def Ex.leave (id : Nat) : Ex → Ex
  | .exit i => bif Nat.beq i id then .normal else .exit i
  | x => x
def wp : Code → (Ex → Env → Heap → Prop) → Env → Heap → Prop
  | .skip, Q, e, h => Q .normal e h
  | .region _ ops d, Q, e, h => regionW P C ops.toList d (Q .normal) e h
  | .seq a b, Q, e, h => match joinH H b with
    | none => wp a (fun x e' h' => match x with
      | .normal => wp b Q e' h'
      | x => Q x e' h') e h
    | some L => JoinW L.length (fun R => wp a (fun x e' h' => match x with
      | .normal => evW (look e' L) fun vs => R vs h'
      | x => Q x e' h') e h) fun vs h' => wp b Q (headE e L (asg a) (vs.map some)) h'
  | .cond c a b, Q, e, h => evW (ev P e c) fun v => OnB v fun t => Br t (wp a Q e h) (wp b Q e h)
  | .block id c, Q, e, h => wp c (fun x e h => Q (x.leave id) e h) e h
  | .loop c, Q, e, h => evW (look e (loopH H c)) fun vs => LoopW (loopH H c).length (fun vs h K => wp c (fun x e' h' => evW (look e' (loopH H c)) fun vs' => K x vs' h') (headE e (loopH H c) (asg c) (vs.map some)) h) vs h
      fun x vs h => Q x (headE e (loopH H c) (asg c) (vs.map some)) h
  | .exit id, Q, e, h => Q (.exit id) e h
  | .ret, Q, e, h => Q .ret e h
  | .scope c, Q, e, h => wp c Q e h
  | .label _, Q, e, h => Q .normal e h
  | _, _, _, _ => False
def drawsOk : Code → Bool
  | .region _ ops d => match d with
    | true => drawOk ops.toList (Region.before ops.toList.toArray).toList
    | false => true
  | .seq a b => drawsOk a && drawsOk b
  | .cond _ a b => drawsOk a && drawsOk b
  | .block _ c | .loop c | .scope c => drawsOk c
  | _ => true
def fnOk (fn : Func) : Bool := decide (fn.name ≠ "runtime.NumGoroutine") && match fn.body with
  | some c => (asg c).all (· < fn.ntmps) && drawsOk c
  | none => false
def resW (e : Env) (h : Heap) : List ResultVar → (List Value → Prop) → Prop
  | [], K => K []
  | .tmp t :: r, K => evW (e t) fun v => resW e h r fun l => K (v :: l)
  | .cell a t :: r, K => evW (e a) fun p => Bnd (loadA P t h p) fun v => resW e h r fun l => K (v :: l)
def fnW (fn : Func) (args : List Value) (h : Heap) (Q : Value → Heap → Prop) : Prop := match fn.body with
  | none => False
  | some c => wp P H C c (fun x e h => match x with
    | .exit _ => False
    | _ => resW P e h fn.results.toList fun l => Q (packR l) h) (argE args fn.ntmps) h
end

/-! ### It is true of the machine -/
section
variable {P : Program} {H : Nat → Option (List Nat)} {C : Oracle}
theorem callW_sound {f : Value} {args : List Value} {h : Heap} {K : Value → Heap → Prop} (w : callW C f args h K) : Res (callA C f args h) K := by
  unfold callW at w
  split at w
  · exact w
  · exact w
theorem builtinW_sound {b : Builtin} {ts : List TypeId} {args : List Value} {h : Heap} {K : Value → Heap → Prop} (w : builtinW P b ts args h K) : Res (builtinA P b ts args h) K := by
  unfold builtinW at w
  split at w
  · obtain ⟨v, hv, k⟩ := w
    exact ⟨v, h, by simp [builtinA, hv], k⟩
  · exact w
theorem opW_sound {o : Op} {e : Env} {h : Heap} {K : Value → Heap → Prop} (w : opW P C o e h K) : Res (opA P C o e h) K := by
  unfold opW at w
  unfold opA
  split at w
  all_goals (try dsimp only)
  all_goals first
    | exact w
    | exact w.elim
    | (obtain ⟨v, hv, k⟩ := evW_some w; exact ⟨v, h, by simp [hv], k⟩)
    | (obtain ⟨c, hc, w⟩ := evW_some w
       obtain ⟨a, ha, w⟩ := evW_some w
       obtain ⟨b, hb, w⟩ := evW_some w
       obtain ⟨t, rfl, k⟩ := w
       exact ⟨_, h, by cases t <;> simp [hc, ha, hb], k⟩)
    | (obtain ⟨a, ha, w⟩ := evW_some w
       obtain ⟨v, hv, k⟩ := w
       exact ⟨v, h, by simp [ha, hv], k⟩)
    | (obtain ⟨a, ha, w⟩ := evW_some w
       obtain ⟨b, hb, w⟩ := evW_some w
       obtain ⟨v, hv, k⟩ := w
       exact ⟨_, v, by simp [ha, hb, hv], k⟩)
    | (obtain ⟨a, ha, w⟩ := evW_some w
       obtain ⟨b, hb, w⟩ := evW_some w
       obtain ⟨v, hv, k⟩ := w
       exact ⟨v, h, by simp [ha, hb, hv], k⟩)
    | (obtain ⟨a, ha, w⟩ := evW_some w
       obtain ⟨v, h1, hv, k⟩ := w
       exact ⟨v, h1, by rw [ha]; exact hv, k⟩)
    | (obtain ⟨a, ha, w⟩ := evW_some w
       obtain ⟨b, hb, w⟩ := evW_some w
       obtain ⟨v, h1, hv, k⟩ := w
       exact ⟨v, h1, by rw [ha, Option.bind_some, hb]; exact hv, k⟩)
    | (obtain ⟨a, ha, w⟩ := evW_some w
       obtain ⟨b, hb, k⟩ := evW_some w
       exact ⟨_, h, by simp [ha, hb], k⟩)
    | (obtain ⟨a, ha, w⟩ := evW_some w
       obtain ⟨b, hb, w⟩ := evW_some w
       obtain ⟨c, hc, w⟩ := evW_some w
       obtain ⟨d, hd, w⟩ := evW_some w
       obtain ⟨v, hv, k⟩ := w
       exact ⟨v, h, by simp [ha, hb, hc, hd, hv], k⟩)
    | (obtain ⟨a, ha, w⟩ := evW_some w
       obtain ⟨b, hb, w⟩ := evW_some w
       obtain ⟨v, h1, hv, k⟩ := callW_sound w
       exact ⟨v, h1, by rw [ha, Option.bind_some, hb]; exact hv, k⟩)
    | (obtain ⟨a, ha, w⟩ := evW_some w
       obtain ⟨v, h1, hv, k⟩ := builtinW_sound w
       exact ⟨v, h1, by rw [ha]; exact hv, k⟩)
theorem stepW_sound {ops : List Oper} {o : Oper} {e : Env} {h : Heap} {K : Value → Heap → Prop} (w : stepW P C ops o e h K) : Res (stepA P C ops o e h) K := by
  unfold stepW at w
  unfold stepA wantA
  split at w
  · rename_i hg
    rw [hg]
    exact opW_sound w
  · rename_i j wt hg
    obtain ⟨g, hgv, w⟩ := evW_some w
    obtain ⟨d, hd, hed⟩ := bind_inv hgv
    obtain ⟨v, h', h1, h2, k⟩ := w
    rw [hg]
    simp only [hd, Option.bind_some, hed, Option.map_some]
    change Res ((some (wantV g wt)).bind fun w => if w = true then opA P C o.op e h else some (undef, h)) K
    rw [Option.bind_some]
    cases hw : wantV g wt with
    | true =>
      obtain ⟨v1, h3, h4, rfl, rfl⟩ := opW_sound (h1 hw)
      exact ⟨v1, h3, h4, k⟩
    | false =>
      obtain ⟨rfl, rfl⟩ := h2 hw
      exact ⟨_, _, rfl, k⟩
theorem freshW_sound {o : Op} {e : Env} {K : Option (Nat × Nat) → Nat → List Value → Prop} (w : freshW P o e K) : ∃ s n cs, freshOp P o e = some (s, n, cs) ∧ K s n cs := by
  unfold freshW at w
  unfold freshOp
  split at w
  · obtain ⟨z, hz, k⟩ := w
    exact ⟨_, _, _, by dsimp only; rw [hz]; rfl, k⟩
  · obtain ⟨v, hv, w⟩ := evW_some w
    obtain ⟨z, hz, k⟩ := w
    exact ⟨_, _, _, by dsimp only; rw [hv, Option.bind_some, hz]; rfl, k⟩
  · obtain ⟨v, hv, w⟩ := evW_some w
    obtain ⟨z, hz, k⟩ := w
    exact ⟨_, _, _, by dsimp only; rw [hv, Option.bind_some, hz], k⟩
  · obtain ⟨v, hv, w⟩ := evW_some w
    obtain ⟨u, hu, w⟩ := evW_some w
    obtain ⟨z, hz, k⟩ := w
    exact ⟨_, _, _, by dsimp only; rw [hv, Option.bind_some, hu, Option.bind_some, hz], k⟩
  · exact w.elim
theorem opDW_sound {n0 i : Nat} {o : Op} {e : Env} {h : Heap} {K : Value → Heap → Prop} (w : opDW P C n0 i o e h K) : Res (if isFresh o then (freshOp P o e).map fun (s, n, cs) => (freshV (n0 + i) s, h.set (n0 + i) (.cells cs n false false)) else opA P C o e h) K := by
  unfold opDW at w
  cases hf : isFresh o with
  | true =>
    rw [hf] at w
    obtain ⟨s, n, cs, h1, k⟩ := freshW_sound w
    exact ⟨_, _, by rw [if_pos rfl, h1]; rfl, k⟩
  | false =>
    rw [hf] at w
    obtain ⟨v, h1, h2, k⟩ := opW_sound w
    exact ⟨v, h1, by rw [if_neg (by simp)]; exact h2, k⟩
theorem stepDW_sound {ops : List Oper} {n0 i : Nat} {o : Oper} {e : Env} {h : Heap} {K : Value → Heap → Prop} (w : stepDW P C ops n0 i o e h K) : Res (stepD P C ops n0 i o e h) K := by
  unfold stepDW at w
  unfold stepD wantA
  split at w
  · rename_i hg
    rw [hg]
    exact opDW_sound w
  · rename_i j wt hg
    obtain ⟨g, hgv, w⟩ := evW_some w
    obtain ⟨d, hd, hed⟩ := bind_inv hgv
    obtain ⟨v, h', h1, h2, k⟩ := w
    rw [hg]
    simp only [hd, Option.bind_some, hed, Option.map_some]
    change Res ((some (wantV g wt)).bind fun w => if w = true then (if isFresh o.op then (freshOp P o.op e).map fun (s, n, cs) => (freshV (n0 + i) s, h.set (n0 + i) (.cells cs n false false)) else opA P C o.op e h) else some (undef, h)) K
    rw [Option.bind_some]
    cases hw : wantV g wt with
    | true =>
      obtain ⟨v1, h3, h4, rfl, rfl⟩ := opDW_sound (h1 hw)
      exact ⟨v1, h3, by rw [if_pos rfl]; exact h4, k⟩
    | false =>
      obtain ⟨rfl, rfl⟩ := h2 hw
      exact ⟨_, _, rfl, k⟩
theorem opsW_sound {ops : List Oper} : ∀ (l : List Oper) (K : Env → Heap → Prop) (e : Env) (h : Heap), opsW P C ops l K e h → ∃ e' h', opsA P C ops l e h = some (e', h') ∧ K e' h'
  | [], K, e, h, w => ⟨e, h, rfl, w⟩
  | o :: l, K, e, h, w => by
    obtain ⟨v, h1, hs, w⟩ := stepW_sound w
    obtain ⟨e', h', h2, k⟩ := opsW_sound l K _ _ w
    exact ⟨e', h', by unfold opsA; rw [hs]; exact h2, k⟩
theorem condR_sound {ops : List Oper} {b : List Nat} {i : Nat} {o : Oper} {e : Env} {v : Value} {K : Prop} : ∀ (hs : List (Nat × Heap)), condR P C ops b i o e v hs K → (∀ x ∈ hs, ordered b x.1 i = false → stepA P C ops o e x.2 = some (v, x.2)) ∧ K
  | [], w => ⟨by simp, w⟩
  | x :: hs, w => by
    unfold condR at w
    cases ho : ordered b x.1 i with
    | true =>
      rw [ho] at w
      obtain ⟨h1, h2⟩ := condR_sound hs w
      exact ⟨fun y hy hoy => by
        rcases List.mem_cons.1 hy with rfl | hy
        · rw [ho] at hoy; cases hoy
        · exact h1 y hy hoy, h2⟩
    | false =>
      rw [ho] at w
      obtain ⟨w1, w2⟩ := w
      obtain ⟨h1, h2⟩ := condR_sound hs w2
      obtain ⟨v1, h3, h4, rfl, rfl⟩ := stepW_sound w1
      exact ⟨fun y hy hoy => by
        rcases List.mem_cons.1 hy with rfl | hy
        · exact h4
        · exact h1 y hy hoy, h2⟩
theorem condC_sound {ops : List Oper} {b : List Nat} {i : Nat} {h : Heap} {K : Prop} : ∀ (rs : List (Nat × Oper × Env × Value)), condC P C ops b i h rs K → (∀ x ∈ rs, ordered b x.1 i = false → stepA P C ops x.2.1 x.2.2.1 h = some (x.2.2.2, h)) ∧ K
  | [], w => ⟨by simp, w⟩
  | x :: rs, w => by
    unfold condC at w
    cases ho : ordered b x.1 i with
    | true =>
      rw [ho] at w
      obtain ⟨h1, h2⟩ := condC_sound rs w
      exact ⟨fun y hy hoy => by
        rcases List.mem_cons.1 hy with rfl | hy
        · rw [ho] at hoy; cases hoy
        · exact h1 y hy hoy, h2⟩
    | false =>
      rw [ho] at w
      obtain ⟨w1, w2⟩ := w
      obtain ⟨h1, h2⟩ := condC_sound rs w2
      obtain ⟨v1, h3, h4, h5, h6⟩ := stepW_sound w1
      subst h6
      exact ⟨fun y hy hoy => by
        rcases List.mem_cons.1 hy with rfl | hy
        · rw [← h5]; exact h4
        · exact h1 y hy hoy, h2⟩
theorem drawW_sound {ops : List Oper} {b : List Nat} {n0 : Nat} : ∀ (l : List (Oper × Nat)) (K : Env → Heap → Prop) (e : Env) (h : Heap) rs hs, drawW P C ops b n0 l K e h rs hs → ∃ e' h', drawA P C ops b n0 l e h rs hs = some (e', h') ∧ K e' h'
  | [], K, e, h, rs, hs, w => ⟨e, h, rfl, w⟩
  | (o, i) :: l, K, e, h, rs, hs, w => by
    unfold drawW at w
    obtain ⟨v, h1, hst, w⟩ := stepDW_sound w
    unfold drawA
    rw [hst, Option.bind_some]
    simp only
    cases hc : clsOf o.op with
    | quiet =>
      rw [hc] at w
      have := (stepA_quiet hc (by rwa [stepD_eq (not_fresh (by unfold isChain; rw [hc]))] at hst)).1
      subst this
      exact drawW_sound l K _ _ _ _ w
    | read =>
      rw [hc] at w
      have := stepA_read hc (by rwa [stepD_eq (not_fresh (by unfold isChain; rw [hc]))] at hst)
      subst this
      obtain ⟨h2, h3⟩ := condR_sound hs w
      simp only
      rw [if_pos h2]
      exact drawW_sound l K _ _ _ _ h3
    | chain =>
      rw [hc] at w
      obtain ⟨h2, h3⟩ := condC_sound rs w
      simp only
      rw [if_pos h2]
      exact drawW_sound l K _ _ _ _ h3
theorem regionW_sound {ops : List Oper} {d : Bool} {K : Env → Heap → Prop} {e : Env} {h : Heap} (ok : d = true → drawOk ops (Region.before ops.toArray).toList = true) (w : regionW P C ops d K e h) : ∃ e' h', regionA P C ops d e h = some (e', h') ∧ K e' h' := by
  cases d with
  | true =>
    unfold regionA
    rw [if_pos rfl]
    simp only
    rw [if_pos (ok rfl)]
    exact drawW_sound _ K _ _ _ _ w
  | false => exact opsW_sound _ K _ _ w
theorem leave_eq (id : Nat) (x : Ex) : x.leave id = if x = .exit id then .normal else x := by
  cases x with
  | exit i =>
    show (bif Nat.beq i id then Ex.normal else .exit i) = _
    by_cases h : i = id
    · subst h; simp
    · have : Nat.beq i id = false := by
        cases hb : Nat.beq i id with
        | false => rfl
        | true => exact absurd (Nat.eq_of_beq_eq_true hb) h
      rw [this, if_neg (by simpa using h)]; rfl
  | normal => rfl
  | ret => rfl
theorem wp_sound : ∀ (c : Code) (Q : Ex → Env → Heap → Prop) (e : Env) (h : Heap), drawsOk c = true → wp P H C c Q e h → ∃ x e' h', den P H C c e h = some (x, e', h') ∧ Q x e' h'
  | .skip, Q, e, h, ok, w => ⟨_, _, _, rfl, w⟩
  | .region _ ops d, Q, e, h, ok, w => by
    obtain ⟨e', h', k, q⟩ := regionW_sound (fun hd => by subst hd; exact ok) w
    exact ⟨_, _, _, by simp only [den, k]; rfl, q⟩
  | .seq a b, Q, e, h, ok, w => by
    simp only [wp] at w
    simp only [drawsOk, Bool.and_eq_true] at ok
    cases hj : joinH H b with
    | none =>
      rw [hj] at w
      obtain ⟨x, e1, h1, k, q⟩ := wp_sound a _ e h ok.1 w
      cases x with
      | normal =>
        obtain ⟨x2, e2, h2, k2, q2⟩ := wp_sound b Q e1 h1 ok.2 q
        exact ⟨x2, e2, h2, by simp only [den, k, Option.bind_some, hj, joinE]; exact k2, q2⟩
      | exit id => exact ⟨_, _, _, by simp only [den, k, Option.bind_some], q⟩
      | ret => exact ⟨_, _, _, by simp only [den, k, Option.bind_some], q⟩
    | some L =>
      rw [hj] at w
      obtain ⟨R, w1, w2⟩ := w
      obtain ⟨x, e1, h1, k, q⟩ := wp_sound a _ e h ok.1 w1
      cases x with
      | normal =>
        obtain ⟨vs, hvs, r⟩ := evW_some q
        obtain ⟨m1, m2⟩ := look_map hvs
        obtain ⟨x2, e2, h2, k2, q2⟩ := wp_sound b Q _ h1 ok.2 (w2.all vs m2 h1 r)
        exact ⟨x2, e2, h2, by simp only [den, k, Option.bind_some, hj, joinE, m1]; exact k2, q2⟩
      | exit id => exact ⟨_, _, _, by simp only [den, k, Option.bind_some], q⟩
      | ret => exact ⟨_, _, _, by simp only [den, k, Option.bind_some], q⟩
  | .cond c a b, Q, e, h, ok, w => by
    simp only [wp] at w
    simp only [drawsOk, Bool.and_eq_true] at ok
    obtain ⟨v, hv, t, rfl, w1, w2⟩ := evW_some w
    cases t with
    | true =>
      obtain ⟨x, e1, h1, k, q⟩ := wp_sound a Q e h ok.1 (w1 rfl)
      exact ⟨x, e1, h1, by simp only [den, hv, Option.bind_some]; exact k, q⟩
    | false =>
      obtain ⟨x, e1, h1, k, q⟩ := wp_sound b Q e h ok.2 (w2 rfl)
      exact ⟨x, e1, h1, by simp only [den, hv, Option.bind_some]; exact k, q⟩
  | .block id c, Q, e, h, ok, w => by
    simp only [wp] at w
    obtain ⟨x, e1, h1, k, q⟩ := wp_sound c _ e h ok w
    exact ⟨x.leave id, e1, h1, by simp only [den, k, Option.map_some, leave_eq], q⟩
  | .loop c, Q, e, h, ok, w => by
    simp only [wp] at w
    obtain ⟨vs, hvs, I, μ, hI, hround⟩ := evW_some w
    obtain ⟨m1, m2⟩ := look_map hvs
    have key := loopW_rule (F := fun (s : Vs × Heap) => (den P H C c (headE e (loopH H c) (asg c) s.1) s.2).map fun (x, e', h') => (x, ((loopH H c).map e', h')))
      (fun s => ∃ vs : List Value, s.1 = vs.map some ∧ vs.length = (loopH H c).length ∧ I vs s.2) (fun s => μ (s.1.map fun v => v.getD undef) s.2)
      (fun x s => ∃ vs : List Value, s.1 = vs.map some ∧ Q x (headE e (loopH H c) (asg c) (vs.map some)) s.2) (fun s hs => by
        obtain ⟨us, hus, hlen, hIu⟩ := hs
        obtain ⟨s1, s2⟩ := s
        simp only at hus hIu
        subst hus
        obtain ⟨x, e1, h1, k, q⟩ := wp_sound c _ _ _ ok (hround.all us hlen s2 hIu)
        obtain ⟨vs', hvs', q⟩ := evW_some q
        obtain ⟨n1, n2⟩ := look_map hvs'
        have back : ∀ l : List Value, (l.map some).map (fun v => v.getD undef) = l := fun l => by
          rw [List.map_map]
          exact (List.map_congr_left fun a _ => rfl).trans (List.map_id l)
        refine ⟨x, (vs'.map some, h1), by simp only [k, Option.map_some, n1], fun hx => ?_, fun hx => ?_⟩
        · subst hx
          obtain ⟨q1, q2⟩ := q
          exact ⟨⟨vs', rfl, n2, q1⟩, by simp only [back]; exact q2⟩
        · cases x with
          | normal => exact absurd rfl hx
          | exit id => exact ⟨vs', rfl, q⟩
          | ret => exact ⟨vs', rfl, q⟩)
    obtain ⟨x, s', k, hx, vs', hs', q⟩ := key ((loopH H c).map e, h) ⟨vs, m1, m2, hI⟩
    exact ⟨x, _, _, by simp only [den]; rw [k]; simp only [Option.map_some, hs'], q⟩
  | .exit id, Q, e, h, ok, w => ⟨_, _, _, rfl, w⟩
  | .ret, Q, e, h, ok, w => ⟨_, _, _, rfl, w⟩
  | .scope c, Q, e, h, ok, w => wp_sound c Q e h ok w
  | .label _, Q, e, h, ok, w => ⟨_, _, _, rfl, w⟩
  | .rangeFunc .., Q, e, h, ok, w => w.elim
  | .goto .., Q, e, h, ok, w => w.elim
  | .refuse .., Q, e, h, ok, w => w.elim
theorem resW_sound {e : Env} {h : Heap} : ∀ (l : List ResultVar) (K : List Value → Prop), resW P e h l K → ∃ vs, resA P e h l = some vs ∧ K vs
  | [], K, w => ⟨[], rfl, w⟩
  | .tmp t :: l, K, w => by
    simp only [resW] at w
    obtain ⟨v, hv, w⟩ := evW_some w
    obtain ⟨vs, h1, h2⟩ := resW_sound l _ w
    exact ⟨v :: vs, by simp [resA, hv, h1], h2⟩
  | .cell a t :: l, K, w => by
    simp only [resW] at w
    obtain ⟨p, hp, w⟩ := evW_some w
    obtain ⟨v, hv, w⟩ := w
    obtain ⟨vs, h1, h2⟩ := resW_sound l _ w
    exact ⟨v :: vs, by simp [resA, hp, hv, h1], h2⟩
theorem fnW_sound {fn : Func} {args : List Value} {h : Heap} {Q : Value → Heap → Prop} (ok : fnOk fn = true) (w : fnW P H C fn args h Q) : Res (funA P H C fn args h) Q := by
  unfold fnOk at ok
  simp only [Bool.and_eq_true, decide_eq_true_eq] at ok
  obtain ⟨hname, ok⟩ := ok
  have key0 : ∀ c, fn.body = some c → (asg c).all (· < fn.ntmps) = true ∧ drawsOk c = true := fun c hc => by rw [hc] at ok; simpa only [Bool.and_eq_true] using ok
  unfold funA
  rw [if_neg hname]
  unfold fnW at w
  split at w
  · exact w.elim
  rename_i c hb
  obtain ⟨ok, okd⟩ := key0 c hb
  obtain ⟨x, e1, h1, k, q⟩ := wp_sound c _ _ _ okd w
  have key : ∀ l, resA P e1 h1 fn.results.toList = some l → Q (packR l) h1 → x ≠ .exit 0 → (match x with | .exit _ => False | _ => True) → Res (if (asg c).all (· < fn.ntmps) = true then (den P H C c (argE args fn.ntmps) h).bind fun (x, e, h) => (match x with
    | .exit _ => none
    | _ => (resA P e h fn.results.toList).map fun l => (packR l, h)) else none) Q := by
    intro l hl hq _ hx
    rw [if_pos ok, k, Option.bind_some]
    cases x with
    | exit id => exact hx.elim
    | normal => exact ⟨_, _, by simp only [hl, Option.map_some], hq⟩
    | ret => exact ⟨_, _, by simp only [hl, Option.map_some], hq⟩
  cases x with
  | exit id => exact q.elim
  | normal =>
    obtain ⟨l, hl, q⟩ := resW_sound _ _ q
    have := key l hl q (by simp) trivial
    split
    · rename_i hb2; rw [hb2] at hb; cases hb
    · rename_i c2 hb2
      rw [hb2] at hb; cases hb
      exact this
  | ret =>
    obtain ⟨l, hl, q⟩ := resW_sound _ _ q
    have := key l hl q (by simp) trivial
    split
    · rename_i hb2; rw [hb2] at hb; cases hb
    · rename_i c2 hb2
      rw [hb2] at hb; cases hb
      exact this
end
section
variable {P : Program} {H : Hints} {X : FuncId → Option (List Value → Heap → Option (Value × Heap))}
/-- A call, out of its body's proposition. -/
theorem call_wp {f : FuncId} {fn : Func} (hf : P.funcs[f]? = some fn) (hx : X f = none) (ok : fnOk fn = true) {args : List Value} {h : Heap} {Q : Value → Heap → Prop} (w : fnW P (H f) (call P H X) fn args h Q) : Res (call P H X f args h) Q := by
  rw [call_fun hf hx]
  exact fnW_sound ok w
end
end Go.Proofs.YtlihmncbhaimkaaDoor.Am
/- Laws for proofs about bodies: words, heaps, slices. -/
namespace Go.Proofs.YtlihmncbhaimkaaDoor.Am
open Go Go.RowKit

/-! ### Words -/
theorem Bnd_some {α : Type} (v : α) (K : α → Prop) : Bnd (some v) K = K v := propext ⟨fun ⟨_, e, k⟩ => by cases e; exact k, fun k => ⟨v, rfl, k⟩⟩
theorem Res_some (v : Value) (h : Heap) (K : Value → Heap → Prop) : Res (some (v, h)) K = K v h := propext ⟨fun ⟨_, _, e, k⟩ => by cases e; exact k, fun k => ⟨v, h, rfl, k⟩⟩
theorem OnB_bool (t : Bool) (K : Bool → Prop) : OnB (.bool t) K = K t := propext ⟨fun ⟨_, e, k⟩ => by cases e; exact k, fun k => ⟨t, rfl, k⟩⟩
theorem Br_dec (p : Prop) [Decidable p] (A B : Prop) : Br (decide p) A B = ((p → A) ∧ (¬p → B)) := by
  unfold Br
  simp only [decide_eq_true_eq, decide_eq_false_iff_not]
theorem Br_not (t : Bool) (A B : Prop) : Br (!t) A B = Br t B A := by
  unfold Br
  cases t <;> simp
theorem Br_true (A B : Prop) : Br true A B = A := by simp [Br]
theorem Br_false (A B : Prop) : Br false A B = B := by simp [Br]
theorem Res.mono {o : Option (Value × Heap)} {K K' : Value → Heap → Prop} (r : Res o K) (h : ∀ v h, K v h → K' v h) : Res o K' := by
  obtain ⟨v, h1, e, k⟩ := r
  exact ⟨v, h1, e, h v h1 k⟩
theorem Bnd.of {α : Type} {o : Option α} {v : α} {K : α → Prop} (e : o = some v) (k : K v) : Bnd o K := ⟨v, e, k⟩

/-! ### Numbers -/
theorem wrap_in {n : Int} (h0 : -9223372036854775808 ≤ n) (h1 : n < 9223372036854775808) : IntKind.i64.wrap n = n := by
  have e : IntKind.i64.wrap n = if n % 18446744073709551616 ≥ 9223372036854775808 then n % 18446744073709551616 - 18446744073709551616 else n % 18446744073709551616 := by
    simp [IntKind.wrap, IntKind.signed, IntKind.bits]
  rw [e]
  split <;> omega
section
variable {P : Program}
theorem b_add (t : TypeId) (k : IntKind) (a b : Int) : binA P .add t (.int k a) (.int k b) = some (.int k (k.wrap (a + b))) := by simp [binA, intOp]
theorem b_sub (t : TypeId) (k : IntKind) (a b : Int) : binA P .sub t (.int k a) (.int k b) = some (.int k (k.wrap (a - b))) := by simp [binA, intOp]
theorem b_lss (t : TypeId) (k : IntKind) (a b : Int) : binA P .lss t (.int k a) (.int k b) = some (.bool (decide (a < b))) := by simp [binA, intOp]
theorem b_leq (t : TypeId) (k : IntKind) (a b : Int) : binA P .leq t (.int k a) (.int k b) = some (.bool (decide (a ≤ b))) := by simp [binA, intOp]
theorem b_gtr (t : TypeId) (k : IntKind) (a b : Int) : binA P .gtr t (.int k a) (.int k b) = some (.bool (decide (b < a))) := by simp [binA, intOp]
theorem b_geq (t : TypeId) (k : IntKind) (a b : Int) : binA P .geq t (.int k a) (.int k b) = some (.bool (decide (b ≤ a))) := by simp [binA, intOp]
theorem b_eql (t : TypeId) (k : IntKind) (a b : Int) : binA P .eql t (.int k a) (.int k b) = some (.bool (decide (a = b))) := by simp [binA, intOp]; rfl
theorem b_neq (t : TypeId) (k : IntKind) (a b : Int) : binA P .neq t (.int k a) (.int k b) = some (.bool (!decide (a = b))) := by simp [binA, intOp]; rfl
theorem u_not (b : Bool) : unA .not (.bool b) = some (.bool (!b)) := rfl
end

/-! ### Heaps -/
theorem get_push_self (h : Heap) (x : Blk) : (h.push x).get h.next = x := by simp [Heap.push]
theorem get_push_lt {h : Heap} {x : Blk} {b : Nat} (hb : b < h.next) : (h.push x).get b = h.get b := by
  show (if b = h.next then x else h.get b) = _
  rw [if_neg (by omega)]
theorem next_push (h : Heap) (x : Blk) : (h.push x).next = h.next + 1 := rfl
theorem get_set_self (h : Heap) (b : Nat) (x : Blk) : (h.set b x).get b = x := by simp [Heap.set]
theorem get_set_ne {h : Heap} {b c : Nat} {x : Blk} (hb : c ≠ b) : (h.set b x).get c = h.get c := by
  show (if c = b then x else h.get c) = _
  rw [if_neg hb]
theorem next_set (h : Heap) (b : Nat) (x : Blk) : (h.set b x).next = h.next := rfl
/-- Nothing older has turned. -/
structure Ext (h h' : Heap) : Prop where
  le : h.next ≤ h'.next
  same : ∀ b, b < h.next → h'.get b = h.get b
theorem Ext.refl (h : Heap) : Ext h h := ⟨Nat.le_refl _, fun _ _ => rfl⟩
theorem Ext.trans {a b c : Heap} (x : Ext a b) (y : Ext b c) : Ext a c := ⟨Nat.le_trans x.le y.le, fun n hn => (y.same n (Nat.lt_of_lt_of_le hn x.le)).trans (x.same n hn)⟩
theorem Ext.push {a h : Heap} (x : Ext a h) (o : Blk) : Ext a (h.push o) := x.trans ⟨by simp [next_push], fun _ hb => get_push_lt hb⟩
theorem Ext.set {a h : Heap} (x : Ext a h) {b : Nat} (hb : a.next ≤ b) (o : Blk) : Ext a (h.set b o) := ⟨x.le, fun n hn => (get_set_ne (by omega)).trans (x.same n hn)⟩

/-! ### Slices -/
/-- A slice that reads as a list; 'R' tells what an element's cells read as. -/
def RdSl {α : Type} (n : Nat) (R : Heap → List Value → α → Prop) (h : Heap) (v : Value) (l : List α) : Prop :=
  (∃ a, v = .slice a 0 0 ∧ l = []) ∨ ∃ b o c cs s g ro, v = .slice (some ⟨b, o, none⟩) l.length c ∧ b < h.next ∧ h.get b = .cells cs s g ro ∧ l.length ≤ c ∧ c ≤ 140737488355328 ∧ o + c * n ≤ cs.length ∧
    ∀ (i : Nat) x, l[i]? = some x → R h ((cs.drop (o + i * n)).take n) x
theorem RdSl.ext {α : Type} {n : Nat} {R : Heap → List Value → α → Prop} (hR : ∀ h h' cs x, Ext h h' → R h cs x → R h' cs x) {h h' : Heap} (e : Ext h h') {v : Value} {l : List α} (r : RdSl n R h v l) : RdSl n R h' v l := by
  rcases r with r | ⟨b, o, c, cs, s, g, ro, h1, h2, h3, h4, h5, h6, h7⟩
  · exact .inl r
  · exact .inr ⟨b, o, c, cs, s, g, ro, h1, Nat.lt_of_lt_of_le h2 e.le, by rw [e.same b h2]; exact h3, h4, h5, h6, fun i x hx => hR h h' _ _ e (h7 i x hx)⟩
section
variable {P : Program} {α : Type} {n : Nat} {R : Heap → List Value → α → Prop} {h : Heap} {v : Value} {l : List α} {t e : TypeId}
theorem RdSl.len (ht : P.underlying t = some (.slice e)) (r : RdSl n R h v l) (h' : Heap) : lenA P t v h' = some (.int .i64 l.length) := by
  rcases r with ⟨a, rfl, rfl⟩ | ⟨b, o, c, cs, s, g, ro, rfl, h2, h3, h4, h5, h6, h7⟩
  · simp [lenA, ht]
  · simp [lenA, ht]
theorem RdSl.bound (r : RdSl n R h v l) : l.length ≤ 140737488355328 := by
  rcases r with ⟨a, rfl, rfl⟩ | ⟨b, o, c, cs, s, g, ro, rfl, h2, h3, h4, h5, h6, h7⟩
  · simp
  · omega
/-- An element: its place and its cells. -/
theorem RdSl.at (ht : P.underlying t = some (.slice e)) (he : (P.info? e).isSome = true) (hs : sz P e = n) (r : RdSl n R h v l) {i : Int} {k : IntKind} (h0 : 0 ≤ i) {x : α} (hx : l[i.toNat]? = some x) :
    ∃ b o cs, indexAddrA P t v (.int k i) = some (ptr b o) ∧ b < h.next ∧ loadC h b o n = some cs ∧ R h cs x := by
  rcases r with ⟨a, rfl, rfl⟩ | ⟨b, o, c, cs, s, g, ro, rfl, h2, h3, h4, h5, h6, h7⟩
  · simp at hx
  · have hlt : i.toNat < l.length := (List.getElem?_eq_some_iff.1 hx).1
    have hm : i.toNat * n + n ≤ c * n := by
      have := Nat.mul_le_mul_right n (show i.toNat + 1 ≤ c by omega)
      rwa [Nat.add_mul, Nat.one_mul] at this
    refine ⟨b, o + i.toNat * n, (cs.drop (o + i.toNat * n)).take n, ?_, h2, ?_, h7 _ _ hx⟩
    · simp only [indexAddrA, ht, he, hs, true_and]
      rw [if_pos ⟨h0, by omega⟩]
      rfl
    · unfold loadC
      rw [h3]
      simp only [rdCells]
      rw [if_pos (by omega)]
end

/-! ### Rows of cells -/
theorem wrCells_eq : ∀ (vs cs : List Value) (i : Nat), i + vs.length ≤ cs.length → wrCells cs i vs = cs.take i ++ vs ++ cs.drop (i + vs.length)
  | [], cs, i, _ => by simp [wrCells]
  | v :: vs, cs, i, h => by
    simp only [List.length_cons] at h
    unfold wrCells
    rw [wrCells_eq vs (cs.set i v) (i + 1) (by simp; omega)]
    have e1 : (cs.set i v).take (i + 1) = cs.take i ++ [v] := by
      rw [List.take_add_one, List.take_set_of_le (Nat.le_refl i)]
      simp [show i < cs.length by omega]
    have e2 : (cs.set i v).drop (i + 1 + vs.length) = cs.drop (i + (v :: vs).length) := by
      rw [List.drop_set_of_lt (by omega)]
      simp only [List.length_cons]
      congr 1
      omega
    rw [e1, e2]
    simp
theorem wrCells_app {xs ys vs : List Value} {i : Nat} (hi : i = xs.length) (h : vs.length ≤ ys.length) : wrCells (xs ++ ys) i vs = xs ++ vs ++ ys.drop vs.length := by
  subst hi
  rw [wrCells_eq _ _ _ (by simp; omega)]
  simp [List.drop_append]
section
variable {α : Type} {f : α → List Value} {n : Nat}
theorem flat_len (hf : ∀ x, (f x).length = n) : ∀ (l : List α), (l.flatMap f).length = l.length * n
  | [] => by simp
  | x :: l => by simp only [List.flatMap_cons, List.length_append, hf, flat_len hf l, List.length_cons, Nat.add_mul, Nat.one_mul]; omega
theorem flat_at (hf : ∀ x, (f x).length = n) : ∀ (l : List α) (i : Nat) (x : α) (rest : List Value), l[i]? = some x → ((l.flatMap f ++ rest).drop (i * n)).take n = f x
  | [], i, x, _, h => by simp at h
  | y :: l, 0, x, rest, h => by
    simp at h
    subst h
    simp only [List.flatMap_cons, Nat.zero_mul, List.drop_zero, List.append_assoc]
    rw [List.take_append_of_le_length (by rw [hf]; omega), List.take_of_length_le (by rw [hf]; omega)]
  | y :: l, i + 1, x, rest, h => by
    simp only [List.getElem?_cons_succ] at h
    rw [← flat_at hf l i x rest h]
    simp only [List.flatMap_cons, List.append_assoc]
    have e : (i + 1) * n = (f y).length + i * n := by rw [hf, Nat.add_mul, Nat.one_mul]; omega
    rw [e, List.drop_append, Nat.add_sub_cancel_left, List.drop_eq_nil_of_le (by omega)]
    simp
theorem reps_len (m : Nat) (z : List Value) : (reps m z).length = m * z.length := by
  unfold reps
  simp [List.length_flatten]
theorem reps_drop (m : Nat) (z : List Value) : (reps (m + 1) z).drop z.length = reps m z := by
  unfold reps
  rw [List.replicate_succ, List.flatten_cons, List.drop_append]
  simp
end

/-! ### Places -/
theorem at_slice {P : Program} {t e : TypeId} {n : Nat} (ht : P.underlying t = some (.slice e)) (he : (P.info? e).isSome = true) (hs : sz P e = n) {k : IntKind} {i : Int} {b o len c : Nat} (h0 : 0 ≤ i) (h1 : i < len) :
    indexAddrA P t (.slice (some ⟨b, o, none⟩) len c) (.int k i) = some (ptr b (o + i.toNat * n)) := by
  simp only [indexAddrA, ht, he, hs, true_and]
  rw [if_pos ⟨h0, h1⟩]
  rfl
theorem st_cells {h : Heap} {b i s : Nat} {g : Bool} {cs vs : List Value} (e : h.get b = .cells cs s g false) (hi : i + vs.length ≤ cs.length) (hv : vs.all isOne = true) : storeC h b i vs = some (h.set b (.cells (wrCells cs i vs) s g false)) := by
  unfold storeC
  rw [e]
  simp only [Bool.false_eq_true, if_false]
  rw [if_pos hi, if_pos hv]
end Go.Proofs.YtlihmncbhaimkaaDoor.Am
/- From the abstract machine to the model: a call at the start. -/
namespace Go.Proofs.YtlihmncbhaimkaaDoor.Am
open Go Go.RowKit

section
variable (P : Program)
/-- At the start: the globals' places (some of them may be read), then blocks that are read and not written. -/
def startR (gl : Nat → Option (Nat × List Value)) (bs : List (RB × Option (List Value))) : Ren := fun n => if n < P.globals.size then (match gl n with
  | some (s, cs) => some ⟨n, 0, cs.length, s, cs.length, false⟩
  | none => some ⟨n, 0, 0, 0, 0, false⟩) else (bs[n - P.globals.size]?).map (·.1)
def startH (gl : Nat → Option (Nat × List Value)) (bs : List (RB × Option (List Value))) : Heap :=
  { next := P.globals.size + bs.length, get := fun n => if n < P.globals.size then (match gl n with
    | some (s, cs) => .cells cs s false true
    | none => .dead) else match bs[n - P.globals.size]? with
    | some (x, some cs) => .cells cs x.esz false true
    | _ => .dead }
structure StartOk (W : World) (gl : Nat → Option (Nat × List Value)) (bs : List (RB × Option (List Value))) : Prop where
  each : ∀ (i : Nat) x cs, bs[i]? = some (x, some cs) → x.len = cs.length ∧ x.grow = false ∧ x.o + x.len ≤ x.sz ∧ ∃ Cs ty fz, W.heap[x.c]? = some (.cells Cs ty fz) ∧ Cs.size = x.sz ∧ ∀ j v, cs[j]? = some v → ∃ v', Cs[x.o + j]? = some v' ∧ RV (startR P gl bs) v v'
  globs : ∀ (g s : Nat) cs, g < P.globals.size → gl g = some (s, cs) → ∃ Cs ty fz, W.heap[g]? = some (.cells Cs ty fz) ∧ Cs.size = cs.length ∧ ∀ (j : Nat) v, cs[j]? = some v → ∃ v', Cs[j]? = some v' ∧ RV (startR P gl bs) v v'
end
section
variable {P : Program} {W : World} {gl : Nat → Option (Nat × List Value)} {bs : List (RB × Option (List Value))}
theorem startR_at {i : Nat} {x : RB} {cs : Option (List Value)} (h : bs[i]? = some (x, cs)) : startR P gl bs (P.globals.size + i) = some x := by
  unfold startR
  rw [if_neg (by omega), Nat.add_sub_cancel_left, h]
  rfl
theorem startH_at {i : Nat} {x : RB} {cs : List Value} (h : bs[i]? = some (x, some cs)) : (startH P gl bs).get (P.globals.size + i) = .cells cs x.esz false true := by
  show (if P.globals.size + i < P.globals.size then _ else _) = _
  rw [if_neg (by omega), Nat.add_sub_cancel_left, h]
theorem startR_glob {g s : Nat} {cs : List Value} (hg : g < P.globals.size) (h : gl g = some (s, cs)) : startR P gl bs g = some ⟨g, 0, cs.length, s, cs.length, false⟩ := by
  unfold startR
  rw [if_pos hg, h]
theorem startH_glob {g s : Nat} {cs : List Value} (hg : g < P.globals.size) (h : gl g = some (s, cs)) : (startH P gl bs).get g = .cells cs s false true := by
  show (if g < P.globals.size then _ else _) = _
  rw [if_pos hg, h]
theorem startH_live {n : Nat} (h : ((startH P gl bs).get n).live = true) : (∃ i x cs, n = P.globals.size + i ∧ bs[i]? = some (x, some cs) ∧ (startH P gl bs).get n = .cells cs x.esz false true) ∨ ∃ s cs, n < P.globals.size ∧ gl n = some (s, cs) ∧ (startH P gl bs).get n = .cells cs s false true := by
  by_cases hn : n < P.globals.size
  · cases hg : gl n with
    | some p => exact .inr ⟨p.1, p.2, hn, rfl, startH_glob hn hg⟩
    | none =>
      exfalso
      have : (startH P gl bs).get n = .dead := by
        show (if n < P.globals.size then _ else _) = _
        rw [if_pos hn, hg]
      rw [this] at h
      cases h
  · have e : (startH P gl bs).get n = (match bs[n - P.globals.size]? with
      | some (x, some cs) => .cells cs x.esz false true
      | _ => .dead) := by
      show (if n < P.globals.size then _ else _) = _
      rw [if_neg hn]
    rw [e] at h ⊢
    split at h
    · rename_i x cs hb
      exact .inl ⟨n - P.globals.size, x, cs, by omega, hb, rfl⟩
    · cases h
theorem start_rh (s : StartOk P W gl bs) : RH P W.heap.size (startR P gl bs) (startH P gl bs) W where
  base_le := Nat.le_refl _
  dom := fun b x hb => by
    unfold startR at hb
    show b < P.globals.size + bs.length
    split at hb
    · omega
    · obtain ⟨u, hu, _⟩ := map_inv hb
      have := (List.getElem?_eq_some_iff.1 hu).1
      omega
  tot := fun b hb hl => by
    rcases startH_live hl with ⟨i, x, cs, rfl, h1, h2⟩ | ⟨s, cs, h0, h1, h2⟩
    · exact ⟨x, startR_at h1⟩
    · exact ⟨_, startR_glob h0 h1⟩
  cells := fun b x cs esz g ro hx hc => by
    rcases startH_live (P := P) (gl := gl) (bs := bs) (n := b) (by rw [hc]; rfl) with ⟨i, x', cs', rfl, h1, h2⟩ | ⟨s', cs', h0, h1, h2⟩
    · rw [startR_at h1] at hx
      cases hx
      rw [h2] at hc
      cases hc
      obtain ⟨e1, e2, e3, Cs, ty, fz, e4, e5, e6⟩ := s.each i _ _ h1
      exact ⟨rfl, e1, e2, e3, Cs, ty, fz, e4, e5, e6, fun h => by cases h⟩
    · rw [startR_glob h0 h1] at hx
      cases hx
      rw [h2] at hc
      cases hc
      obtain ⟨Cs, ty, fz, e4, e5, e6⟩ := s.globs b _ _ h0 h1
      exact ⟨rfl, rfl, rfl, by simp, Cs, ty, fz, e4, e5, fun i v hv => by simpa using e6 i v hv, fun h => by cases h⟩
  maps := fun b x es hx hc => by
    rcases startH_live (P := P) (gl := gl) (bs := bs) (n := b) (by rw [hc]; rfl) with ⟨i, x', cs', rfl, h1, h2⟩ | ⟨s', cs', h0, h1, h2⟩ <;> (rw [h2] at hc; cases hc)
  sep := fun b b' x x' _ _ _ hl _ hw => by
    rcases startH_live hl with ⟨i, x', cs', rfl, h1, h2⟩ | ⟨s', cs', h0, h1, h2⟩ <;> (rw [h2] at hw; cases hw)
  globs := fun g hg => by
    unfold startR
    rw [if_pos hg]
    split
    · exact ⟨_, rfl, rfl, rfl, rfl⟩
    · exact ⟨_, rfl, rfl, rfl, rfl⟩
/-- A law that holds of the abstract machine holds of the model. -/
theorem law_calls {H : Hints} {X : FuncId → Option (List Value → Heap → Option (Value × Heap))} (hX : XSound P X) (hm : P.follows .mixedOrders = true) {f : FuncId} {args : List Value} {args' : Array Value} (s : StartOk P W gl bs) (ha : RL (startR P gl bs) args args'.toList)
    (k : Res (call P H X f args (startH P gl bs)) fun v _ => v = .bool true) : Calls P f args' W fun e w' => e = .returned (.bool true) ∧ Below W.heap.size W w' := by
  obtain ⟨v, h', e, rfl⟩ := k
  refine ((call_sim hX hm f args _ _ h' e).2 W.heap.size _ W args' ha (start_rh s)).mono ?_
  rintro e w' ⟨r', v', rfl, hv, st⟩
  cases hv
  exact ⟨rfl, st.below⟩
end
end Go.Proofs.YtlihmncbhaimkaaDoor.Am
/- Arguments: what they are at the start. -/
namespace Go.Proofs.YtlihmncbhaimkaaDoor.Am
open Go Go.RowKit

/-- A slice of pairs of whole numbers, in the model. -/
def IsPairs (W : World) (a : Option Addr) (len cap : Nat) (zs : List (Int × Int)) : Prop :=
  (len = 0 ∧ cap = 0 ∧ zs = []) ∨ ∃ b o Cs ty fz, a = some ⟨b, o, none⟩ ∧ len ≤ cap ∧ cap ≤ maxLen ∧ 0 < cap ∧ zs.length = cap ∧ W.heap[b]? = some (.cells Cs ty fz) ∧ o + 2 * cap ≤ Cs.size ∧
    ∀ i x, zs[i]? = some x → Cs[o + 2 * i]? = some (.int .i64 x.1) ∧ Cs[o + 2 * i + 1]? = some (.int .i64 x.2)
section
variable {H : Type} {enc : TypeId × Value → H} {P : Program} {w : World}
theorem cell_cells {a : Addr} {v : Value} (h : w.cell? a = some v) : ∃ Cs ty fz, a.spot = none ∧ w.heap[a.block]? = some (.cells Cs ty fz) ∧ Cs[a.off]? = some v := by
  unfold World.cell? at h
  split at h
  · rename_i c ty fz hc
    split at h
    · cases h
    · rename_i hs
      exact ⟨c, ty, fz, by simpa using hs, hc, h⟩
  · cases h
theorem open_pairs {t e i0 i1 : TypeId} {f0 f1 : Field} {a : Option Addr} {len cap : Nat} {d : DataW H} {ps : List MemPlace} (ht : P.underlying t = some (.slice e)) (he : P.underlying e = some (.struct #[f0, f1])) (hc : P.cellsOf e = 2)
    (o0 : f0.offset = 0) (o1 : f1.offset = 1) (t0 : f0.type = i0) (t1 : f1.type = i1) (k0 : P.underlying i0 = some (.int .i64)) (k1 : P.underlying i1 = some (.int .i64)) (c0 : P.cellsOf i0 = 1) (c1 : P.cellsOf i1 = 1)
    (h : DataW.Trod enc P w 0 (fun _ => true) true t (.slice a len cap) d ps) : ∃ zs, IsPairs w a len cap zs ∧ (cap ≠ 0 → ∃ es rs, d = .slice es rs ∧ es.length + rs.length = cap) := by
  obtain ⟨fuel, h⟩ := h
  rcases DataW.trod_slice ht h with ⟨h0, _⟩ | ⟨a', len', cap', elems, rest, n, _, hcs, hdx, hb, hl, hm, hlen, hel, hsp, _⟩
  · simp [Value.cells] at h0
    obtain ⟨-, rfl, rfl⟩ := h0
    exact ⟨[], .inl ⟨rfl, rfl, rfl⟩, fun h => absurd rfl h⟩
  · simp [Value.cells] at hcs
    obtain ⟨rfl, rfl, rfl⟩ := hcs
    by_cases hz : cap = 0
    · subst hz
      exact ⟨[], .inl ⟨by omega, rfl, rfl⟩, fun h => absurd rfl h⟩
    obtain ⟨hrl, hr⟩ := hsp rfl
    -- an element
    have each : ∀ i, i < cap → ∃ x : Int × Int, w.cell? (a'.add (i * 2)) = some (.int .i64 x.1) ∧ w.cell? ((a'.add (i * 2)).add 1) = some (.int .i64 x.2) := by
      intro i hi
      have hb' : ∃ y, (w.cells? 0 (a'.add (i * P.cellsOf e)) (P.cellsOf e)).bind (DataW.trod enc P w 0 (fun _ => true) true n e) = some y := by
        by_cases hi' : i < len
        · have : i < elems.length := by omega
          exact ⟨elems[i], by rw [hel i hi']; simp [this]⟩
        · have h1 : i - len < rest.length := by omega
          refine ⟨rest[i - len], ?_⟩
          have := hr (i - len) (by omega)
          rw [show len + (i - len) = i by omega] at this
          rw [this]; simp [h1]
      obtain ⟨y, hy⟩ := hb'
      rw [hc, Option.bind_eq_some_iff] at hy
      obtain ⟨cs', hcs', hy'⟩ := hy
      obtain ⟨_, hlen', hcell⟩ := World.cells?_some hcs'
      obtain ⟨xs, m, _, _, _, hxl, hxs⟩ := DataW.trod_struct he hy'
      have hx0 := hxs 0 f0 rfl
      have hx1 := hxs 1 f1 rfl
      have hl0 : 0 < xs.length := by rw [hxl]; simp
      have hl1 : 1 < xs.length := by rw [hxl]; simp
      rw [o0, t0, c0, List.drop_zero] at hx0
      rw [o1, t1, c1] at hx1
      rw [show xs[0]? = some xs[0] by simp [hl0]] at hx0
      rw [show xs[1]? = some xs[1] by simp [hl1]] at hx1
      obtain ⟨m0, e0, _, _⟩ := DataW.trod_int k0 hx0
      obtain ⟨m1, e1, _, _⟩ := DataW.trod_int k1 hx1
      match cs', hlen', e0, e1, hcell with
      | [u, v], _, e0, e1, hcell =>
        simp at e0 e1
        have q0 := hcell 0 (by omega)
        have q1 := hcell 1 (by omega)
        refine ⟨(m0, m1), ?_, ?_⟩
        · rw [show (a'.add (i * 2)).add 0 = a'.add (i * 2) by simp [Addr.add]] at q0
          rw [q0]; simp [e0]
        · rw [q1]; simp [e1]
    obtain ⟨x0, h00, _⟩ := each 0 (by omega)
    have ea : a'.add (0 * 2) = a' := by simp [Addr.add]
    rw [ea] at h00
    obtain ⟨Cs, ty, fz, hs, hw, _⟩ := cell_cells h00
    obtain ⟨b, o, sp⟩ := a'
    simp only at hs hw
    subst hs
    have eadd : ∀ p j, (⟨b, p, none⟩ : Addr).add j = ⟨b, p + j, none⟩ := fun p j => by
      unfold Addr.add
      split
      · rename_i h; subst h; rfl
      · rfl
    have each2 : ∀ i, i < cap → ∃ x : Int × Int, Cs[o + 2 * i]? = some (.int .i64 x.1) ∧ Cs[o + 2 * i + 1]? = some (.int .i64 x.2) := by
      intro i hi
      obtain ⟨x, h1, h2⟩ := each i hi
      rw [eadd] at h1 h2
      rw [eadd] at h2
      obtain ⟨Cs1, _, _, _, w1, g1⟩ := cell_cells h1
      obtain ⟨Cs2, _, _, _, w2, g2⟩ := cell_cells h2
      simp only at w1 w2 g1 g2
      rw [hw] at w1 w2
      cases w1
      cases w2
      exact ⟨x, by rw [show o + 2 * i = o + i * 2 by omega]; exact g1, by rw [show o + 2 * i + 1 = o + i * 2 + 1 by omega]; exact g2⟩
    have hzs : ∃ zs : List (Int × Int), zs.length = cap ∧ ∀ i x, zs[i]? = some x → Cs[o + 2 * i]? = some (.int .i64 x.1) ∧ Cs[o + 2 * i + 1]? = some (.int .i64 x.2) := by
      have key : ∀ m, m ≤ cap → ∃ zs : List (Int × Int), zs.length = m ∧ ∀ i x, zs[i]? = some x → Cs[o + 2 * i]? = some (.int .i64 x.1) ∧ Cs[o + 2 * i + 1]? = some (.int .i64 x.2) := by
        intro m
        induction m with
        | zero => intro _; exact ⟨[], rfl, by simp⟩
        | succ m ih =>
          intro hm'
          obtain ⟨zs, z1, z2⟩ := ih (by omega)
          obtain ⟨x, h1, h2⟩ := each2 m (by omega)
          refine ⟨zs ++ [x], by simp [z1], fun i y hy => ?_⟩
          rcases Nat.lt_or_ge i m with hi | hi
          · rw [List.getElem?_append_left (by omega)] at hy
            exact z2 i y hy
          · rw [List.getElem?_append_right (by omega)] at hy
            have : i = m := by
              have := (List.getElem?_eq_some_iff.1 hy).1
              simp at this
              omega
            subst this
            simp [z1] at hy
            subst hy
            exact ⟨h1, h2⟩
      exact key cap (Nat.le_refl _)
    obtain ⟨zs, z1, z2⟩ := hzs
    refine ⟨zs, .inr ⟨b, o, Cs, ty, fz, rfl, hl, hm, by omega, z1, hw, ?_, z2⟩, fun _ => ⟨_, _, (congrArg (·.1) hdx), by simp only [List.length_map]; omega⟩⟩
    obtain ⟨x, h1, h2⟩ := each2 (cap - 1) (by omega)
    have := (Array.getElem?_eq_some_iff.1 h2).1
    omega
end
def Pr (_ : Heap) (cs : List Value) (x : Int × Int) : Prop := cs = [.int .i64 x.1, .int .i64 x.2]
abbrev prC (x : Int × Int) : List Value := [.int .i64 x.1, .int .i64 x.2]
theorem prC_len (x : Int × Int) : (prC x).length = 2 := rfl
theorem prC_get {l : List (Int × Int)} {j : Nat} {v : Value} (h : (l.flatMap prC)[j]? = some v) : ∃ i x, l[i]? = some x ∧ ((j = 2 * i ∧ v = .int .i64 x.1) ∨ (j = 2 * i + 1 ∧ v = .int .i64 x.2)) := by
  induction l generalizing j with
  | nil => simp at h
  | cons y l ih =>
    rw [List.flatMap_cons] at h
    match j with
    | 0 => exact ⟨0, y, rfl, .inl ⟨rfl, by simpa using h.symm⟩⟩
    | 1 => exact ⟨0, y, rfl, .inr ⟨rfl, by simpa using h.symm⟩⟩
    | j + 2 =>
      rw [List.getElem?_append_right (by rw [prC_len]; omega)] at h
      obtain ⟨i, x, h1, h2⟩ := ih (j := j) (by simpa [prC_len] using h)
      refine ⟨i + 1, x, by simpa using h1, ?_⟩
      rcases h2 with ⟨h2, h3⟩ | ⟨h2, h3⟩
      · exact .inl ⟨by omega, h3⟩
      · exact .inr ⟨by omega, h3⟩
/-- A slice of pairs at the start. -/
theorem pairs_start {W : World} {a : Option Addr} {len cap : Nat} {zs : List (Int × Int)} (h : IsPairs W a len cap zs) (hcap : cap ≤ 140737488355328) : ∃ (x : RB) (cs : Option (List Value)), ∀ (P : Program) gl bs (i : Nat), bs[i]? = some (x, cs) →
    (∀ cs', cs = some cs' → x.len = cs'.length ∧ x.grow = false ∧ x.o + x.len ≤ x.sz ∧ ∃ Cs ty fz, W.heap[x.c]? = some (.cells Cs ty fz) ∧ Cs.size = x.sz ∧ ∀ j v, cs'[j]? = some v → ∃ v', Cs[x.o + j]? = some v' ∧ RV (startR P gl bs) v v') ∧
    ∃ v, RV (startR P gl bs) v (.slice a len cap) ∧ RdSl 2 Pr (startH P gl bs) v (zs.take len) := by
  rcases h with ⟨rfl, rfl, rfl⟩ | ⟨b, o, Cs, ty, fz, rfl, h1, h2, h3, h4, h5, h6, h7⟩
  · refine ⟨⟨0, 0, 0, 0, 0, false⟩, none, fun P gl bs i hi => ⟨fun cs' h => (by cases h), ?_⟩⟩
    cases a with
    | none => exact ⟨.slice none 0 0, .nilSlice, .inl ⟨none, rfl, rfl⟩⟩
    | some a => exact ⟨.slice (some ⟨P.globals.size + i, 0, none⟩) 0 0, .slice _ _ _ _ _ _ _ (startR_at hi) (Nat.le_refl _) (Nat.le_refl _) (fun h => absurd rfl h) (.inl rfl), .inl ⟨_, rfl, rfl⟩⟩
  · refine ⟨⟨b, o, Cs.size, 2, 2 * cap, false⟩, some (zs.flatMap prC), fun P gl bs i hi => ⟨?_, .slice (some ⟨P.globals.size + i, 0, none⟩) len cap, ?_, ?_⟩⟩
    · intro cs' e
      cases e
      refine ⟨by rw [flat_len prC_len]; simp only []; omega, rfl, h6, Cs, ty, fz, h5, rfl, fun j v hv => ?_⟩
      obtain ⟨m, x, e1, ⟨rfl, rfl⟩ | ⟨rfl, rfl⟩⟩ := prC_get hv
      · exact ⟨_, (h7 m x e1).1, .int _ _⟩
      · exact ⟨_, by rw [← Nat.add_assoc]; exact (h7 m x e1).2, .int _ _⟩
    · exact .slice _ _ _ _ _ _ _ (startR_at hi) h1 (Nat.le_refl _) (fun _ => rfl) (.inl rfl)
    · have hlen : (zs.take len).length = len := by simp; omega
      refine .inr ⟨P.globals.size + i, 0, cap, zs.flatMap prC, 2, false, true, by rw [hlen], ?_, startH_at hi, by rw [hlen]; exact h1, hcap, by rw [flat_len prC_len]; omega, fun j x hx => ?_⟩
      · show P.globals.size + i < P.globals.size + bs.length
        have := (List.getElem?_eq_some_iff.1 hi).1
        omega
      · have hx' : zs[j]? = some x := by
          rw [List.getElem?_take] at hx
          split at hx
          · exact hx
          · cases hx
        have := flat_at prC_len zs j x [] hx'
        rw [List.append_nil] at this
        rw [Nat.zero_add, this]
        rfl

/-! ### Bytes -/
def IsBytes (W : World) (a : Option Addr) (len cap : Nat) (zs : List Int) : Prop :=
  (a = none ∧ len = 0 ∧ cap = 0 ∧ zs = []) ∨
  ∃ x, a = some x ∧ len ≤ cap ∧ cap ≤ maxLen ∧ zs.length = cap ∧ (∀ i, i < zs.length → W.cell? (x.add i) = some (.int .u8 (zs.getD i 0))) ∧ ∀ n ∈ zs, (Lit.int .u8 n).wf = true
def By (_ : Heap) (cs : List Value) (x : Int) : Prop := cs = [.int .u8 x]
theorem By.ext (h h' : Heap) (cs : List Value) (x : Int) (_ : Ext h h') (r : By h cs x) : By h' cs x := r
/-- A slice of bytes at the start. -/
theorem bytes_start {W : World} {a : Option Addr} {len cap : Nat} {zs : List Int} (h : IsBytes W a len cap zs) (hcap : cap ≤ 140737488355328) : ∃ (x : RB) (cs : Option (List Value)), ∀ (P : Program) gl bs (i : Nat), bs[i]? = some (x, cs) →
    (∀ cs', cs = some cs' → x.len = cs'.length ∧ x.grow = false ∧ x.o + x.len ≤ x.sz ∧ ∃ Cs ty fz, W.heap[x.c]? = some (.cells Cs ty fz) ∧ Cs.size = x.sz ∧ ∀ j v, cs'[j]? = some v → ∃ v', Cs[x.o + j]? = some v' ∧ RV (startR P gl bs) v v') ∧
    ∃ v, RV (startR P gl bs) v (.slice a len cap) ∧ RdSl 1 By (startH P gl bs) v (zs.take len) ∧ ∀ n ∈ zs.take len, 0 ≤ n ∧ n < 256 := by
  have wf : ∀ n : Int, (Lit.int .u8 n).wf = true → 0 ≤ n ∧ n < 256 := fun n hn => by
    have e1 : IntKind.u8.min = 0 := by decide
    have e2 : IntKind.u8.max = 255 := by decide
    simp [Lit.wf, e1, e2] at hn
    omega
  have empty : len = 0 → cap = 0 → ∃ (x : RB) (cs : Option (List Value)), ∀ (P : Program) gl bs (i : Nat), bs[i]? = some (x, cs) →
    (∀ cs', cs = some cs' → x.len = cs'.length ∧ x.grow = false ∧ x.o + x.len ≤ x.sz ∧ ∃ Cs ty fz, W.heap[x.c]? = some (.cells Cs ty fz) ∧ Cs.size = x.sz ∧ ∀ j v, cs'[j]? = some v → ∃ v', Cs[x.o + j]? = some v' ∧ RV (startR P gl bs) v v') ∧
    ∃ v, RV (startR P gl bs) v (.slice a len cap) ∧ RdSl 1 By (startH P gl bs) v (zs.take len) ∧ ∀ n ∈ zs.take len, 0 ≤ n ∧ n < 256 := by
    rintro rfl rfl
    refine ⟨⟨0, 0, 0, 0, 0, false⟩, none, fun P gl bs i hi => ⟨fun cs' h => (by cases h), ?_⟩⟩
    cases a with
    | none => exact ⟨.slice none 0 0, .nilSlice, .inl ⟨none, rfl, by simp⟩, by simp⟩
    | some a => exact ⟨.slice (some ⟨P.globals.size + i, 0, none⟩) 0 0, .slice _ _ _ _ _ _ _ (startR_at hi) (Nat.le_refl _) (Nat.le_refl _) (fun h => absurd rfl h) (.inl rfl), .inl ⟨_, rfl, by simp⟩, by simp⟩
  rcases h with ⟨rfl, rfl, rfl, rfl⟩ | ⟨x, rfl, h1, h2, h3, h4, h5⟩
  · exact empty rfl rfl
  · by_cases hz : cap = 0
    · exact empty (by omega) hz
    have h00 := h4 0 (by omega)
    obtain ⟨Cs, ty, fz, hs, hw, _⟩ := cell_cells h00
    obtain ⟨b, o, sp⟩ := x
    have hsp : sp = none := by simpa [Addr.add] using hs
    subst hsp
    have hwb : W.heap[b]? = some (.cells Cs ty fz) := by simpa [Addr.add] using hw
    have eadd : ∀ j, (⟨b, o, none⟩ : Addr).add j = ⟨b, o + j, none⟩ := fun j => by
      unfold Addr.add
      split
      · rename_i h; subst h; rfl
      · rfl
    have each : ∀ i, i < cap → Cs[o + i]? = some (.int .u8 (zs.getD i 0)) := fun i hi => by
      have := h4 i (by omega)
      rw [eadd] at this
      obtain ⟨Cs1, _, _, _, w1, g1⟩ := cell_cells this
      simp only at w1 g1
      rw [hwb] at w1
      cases w1
      exact g1
    have hsz : o + cap ≤ Cs.size := by
      have := (Array.getElem?_eq_some_iff.1 (each (cap - 1) (by omega))).1
      omega
    have hget : ∀ (j : Nat) v, (zs.map fun n => Value.int .u8 n)[j]? = some v → j < cap ∧ v = .int .u8 (zs.getD j 0) := fun j v hv => by
      rw [List.getElem?_map] at hv
      obtain ⟨n, hn, rfl⟩ := map_inv hv
      have hj := (List.getElem?_eq_some_iff.1 hn).1
      exact ⟨by omega, by rw [List.getD_eq_getElem?_getD, hn]; rfl⟩
    refine ⟨⟨b, o, Cs.size, 1, cap, false⟩, some (zs.map fun n => .int .u8 n), fun P gl bs i hi => ⟨?_, .slice (some ⟨P.globals.size + i, 0, none⟩) len cap, ?_, ?_, fun n hn => wf n (h5 n (List.mem_of_mem_take hn))⟩⟩
    · intro cs' e
      cases e
      refine ⟨by simp [h3], rfl, hsz, Cs, ty, fz, hwb, rfl, fun j v hv => ?_⟩
      obtain ⟨h6, rfl⟩ := hget j v hv
      exact ⟨_, each j h6, .int _ _⟩
    · exact .slice _ _ _ _ _ _ _ (startR_at hi) h1 (Nat.le_refl _) (fun _ => rfl) (.inl rfl)
    · have hlen : (zs.take len).length = len := by simp; omega
      refine .inr ⟨P.globals.size + i, 0, cap, zs.map fun n => .int .u8 n, 1, false, true, by rw [hlen], ?_, startH_at hi, by rw [hlen]; exact h1, hcap, by simp [h3], fun j x hx => ?_⟩
      · show P.globals.size + i < P.globals.size + bs.length
        have := (List.getElem?_eq_some_iff.1 hi).1
        omega
      · have hx' : zs[j]? = some x := by
          rw [List.getElem?_take] at hx
          split at hx
          · exact hx
          · cases hx
        have hj := (List.getElem?_eq_some_iff.1 hx').1
        show ((zs.map fun n => Value.int .u8 n).drop (0 + j * 1)).take 1 = [.int .u8 x]
        rw [Nat.zero_add, Nat.mul_one, List.drop_eq_getElem_cons (by simpa using hj)]
        simp only [List.take_succ_cons, List.take_zero, List.getElem_map]
        rw [(List.getElem?_eq_some_iff.1 hx').2]
end Go.Proofs.YtlihmncbhaimkaaDoor.Am
/- The pure calculus: functions that leave what they are given alone, over deep data instead of a heap. Definitions; what holds of them stands behind. -/
namespace Go.Proofs.YtlihmncbhaimkaaDoor.Am
open Go Go.RowKit

/-! ### Data -/
/-- Deep data: a cell, a struct or an array, several results, a slice (an element's cells, length, cells; the weak one is looked at alone), a pointer into cells that do not turn, a function with what it holds. -/
inductive D where
  | v (x : Value)
  | agg (ds : List D)
  | tup (ds : List D)
  | sl (z len : Nat) (ds : List D)
  | slw (z len : Nat) (ds : List D)
  | rp (ds : List D) (i : Nat)
  | fn (f : Nat) (xs ys : List D)
/-- What a variable holds: data (known to be one cell); or a pointer to a box of one's own; a slice that is a whole box; an empty slice that may be appended to; a slice's empty part that is cut off. -/
inductive LV where
  | d (o : Bool) (x : D)
  | ref (k i : Nat)
  | full (k len : Nat)
  | emp (z : Nat)
  | cl (x : D)
  | cf (f : Nat) (xs ys : List D)
inductive Ct where
  | cells (ls : List LV)
  | row (ds : List D)
inductive Sta where
  | rw | ro | shared | dead
/-- A box: an element's cells (0: it was handed in), what it holds, may it turn. -/
structure Bx where
  z : Nat
  ct : Ct
  st : Sta
/-- A condition: the variable that was asked, for what, is it so. -/
abbrev Cnd := Option (Nat × Bool × Bool)
/-- A variable: what it holds, if the condition is true. -/
abbrev Ent := Cnd × LV
abbrev PEnv := Nat → Option Ent
def pupd (e : PEnv) (d : Option Nat) (x : Option Ent) : PEnv := match d with
  | none => e
  | some d => fun n => if n = d then x else e n
/-- A parameter: data; a slice (an element's cells); a pointer to so many cells that the function may turn. -/
inductive PK where
  | val
  | sl (z : Nat)
  | obj (n : Nat)
abbrev Sig := Nat → List PK
inductive Arg where
  | val (x : D)
  | obj (ds : List D)
abbrev CallS := Nat → List Arg → D → List (List D) → Prop

abbrev D.int (n : Int) : D := .v (.int .i64 n)
abbrev D.bool (b : Bool) : D := .v (.bool b)
abbrev D.str (s : List UInt8) : D := .v (.string ⟨s.toArray⟩)
abbrev D.undef : D := .tup []

/-! ### Operations on data -/
def toVs : List D → Option (List Value)
  | [] => some []
  | .v x :: r => (toVs r).map (x :: ·)
  | _ :: _ => none
def toV : D → Option Value
  | .v x => some x
  | .agg ds => (toVs ds).map fun l => .agg l.toArray
  | _ => none
def isNilD : D → Option Bool
  | .v (.pointer none) | .v .nilFunc => some true
  | .rp _ _ | .fn _ _ _ => some false
  | _ => none
section
variable (P : Program)
def binD (op : BinOp) (t : TypeId) (x y : D) : Option D := match toV x, toV y with
  | some a, some b => (binA P op t a b).map .v
  | none, some (.pointer none) => (match x, P.underlying t, op with
    | .rp _ _, some (.pointer _), .eql => some (.bool false)
    | .rp _ _, some (.pointer _), .neq => some (.bool true)
    | _, _, _ => none)
  | _, _ => none
def unD (op : UnOp) (x : D) : Option D := match x with
  | .v a => (unA op a).map .v
  | _ => none
def u8s : List D → Option (List UInt8)
  | [] => some []
  | .v (.int .u8 n) :: r => (u8s r).map (UInt8.ofNat n.toNat :: ·)
  | _ => none
def convD (src dst : TypeId) (x : D) : Option D := match P.underlying src, P.underlying dst, x with
  | some _, some (.int k), .v (.int _ n) => some (.v (.int k (k.wrap n)))
  | some _, some .string, .v (.string s) => some (.v (.string s))
  | some (.slice e), some .string, .sl z len ds => if isU8 P e then (if z = 1 ∧ ds.length = len then (u8s ds).map fun l => .str l else none) else none
  | _, _, _ => none
def lenD (t : TypeId) (x : D) : Option D := match P.underlying t, x with
  | some .string, .v (.string s) => some (.int s.size)
  | some (.slice _), .sl _ n _ => some (.int n)
  | some (.slice _), .slw _ n _ => some (.int n)
  | _, _ => none
def rdD (ds : List D) (i n : Nat) : Option (List D) := if i + n ≤ ds.length then some ((ds.drop i).take n) else none
def partD (t : TypeId) (ds : List D) (off : Nat) : Option D := match aggT P t with
  | some true => (rdD ds off (sz P t)).map .agg
  | some false => ds[off]?
  | none => none
def loadD (t : TypeId) (x : D) : Option D := match x with
  | .rp ds i => partD P t ds i
  | _ => none
def offF (s : TypeId) (f : Nat) : Option Nat := match P.underlying s with
  | some (.struct fs) => (fs[f]?).bind fun fd => if sz P fd.type = 0 then none else some fd.offset
  | _ => none
def fieldAddrD (s : TypeId) (x : D) (f : Nat) : Option D := match x with
  | .rp ds i => (offF P s f).map fun o => .rp ds (i + o)
  | _ => none
def fieldD (s : TypeId) (x : D) (f : Nat) : Option D := match x with
  | .agg ds => (match P.underlying s with
    | some (.struct fs) => (fs[f]?).bind fun fd => partD P fd.type ds fd.offset
    | _ => none)
  | _ => none
def indexAddrD (t : TypeId) (x i : D) : Option D := match i with
  | .v (.int _ n) => (match P.underlying t, x with
    | some (.slice e), .sl z len ds => if (P.info? e).isSome ∧ z = sz P e ∧ 0 ≤ n ∧ n < len then some (.rp ds (n.toNat * z)) else none
    | some (.slice e), .slw z len ds => if (P.info? e).isSome ∧ z = sz P e ∧ 0 ≤ n ∧ n < len then some (.rp ds (n.toNat * z)) else none
    | some (.array len e), .rp ds o => if (P.info? e).isSome ∧ 0 ≤ n ∧ n < len then some (.rp ds (o + n.toNat * sz P e)) else none
    | _, _ => none)
  | _ => none
def indexD (t : TypeId) (x i : D) : Option D := match i with
  | .v (.int _ n) => (match P.underlying t, x with
    | some (.array len e), .agg ds => if (P.info? e).isSome ∧ 0 ≤ n ∧ n < len then partD P e ds (n.toNat * sz P e) else none
    | some .string, .v (.string s) => if 0 ≤ n then (s[n.toNat]?).map fun b => .v (.int .u8 b.toNat) else none
    | _, _ => none)
  | _ => none
def extractD (x : D) (i : Nat) : Option D := match x with
  | .tup ds => ds[i]?
  | _ => none
def boundD (dflt : Nat) : Option D → Option Nat
  | none => some dflt
  | some (.v (.int _ n)) => if 0 ≤ n then some n.toNat else none
  | _ => none
/-- A part of a slice or a string; with a bound on the capacity: only the empty one. -/
def sliceD (t : TypeId) (x : D) (lo hi : Option D) : Option D := match P.underlying t, x with
  | some .string, .v (.string s) => (boundD 0 lo).bind fun l => (boundD s.size hi).bind fun r => if l ≤ r ∧ r ≤ s.size then some (.v (.string (s.extract l r))) else none
  | some (.slice e), .sl z len ds => (boundD 0 lo).bind fun l => (boundD len hi).bind fun r => if (P.info? e).isSome ∧ z = sz P e ∧ l ≤ r ∧ r ≤ len ∧ ds.length = len * z then some (.sl z (r - l) ((ds.drop (l * z)).take ((r - l) * z))) else none
  | _, _ => none
/-- A slice's empty part that is cut off. -/
def clD (t : TypeId) (x : D) : Option D := match P.underlying t, x with
  | some (.slice e), .sl z len ds => if (P.info? e).isSome ∧ z = sz P e then some (.sl z len ds) else none
  | _, _ => none
def structOk (t : TypeId) : Bool := match P.underlying t with
  | some (.struct fs) => fs.toList.all fun f => (P.info? f.type).isSome
  | _ => false
/-- What is appended, as cells. -/
def srcD (e : TypeId) (x : D) : Option (Nat × List D) := match x with
  | .sl z len ds => if z = sz P e ∧ ds.length = len * z then some (len, ds) else none
  | _ => none
def roomD (e : TypeId) (m : Nat) : Bool := decide (m * by_ P e ≤ 70368744177664) && decide (m ≤ 70368744177664)
/-- 'append' to a row of 'len' elements: the new length and cells. -/
def appD (e : TypeId) (len : Nat) (ds : List D) (s : Option (Nat × List D)) : Option (Nat × List D) := s.bind fun (n, new) => if roomD P e (len + n) then some (len + n, ds ++ new) else none
/-- 'append' to an empty slice that is cut off ('s[:0:0]'). -/
def cloneD (e : TypeId) (x : D) (s : Option (Nat × List D)) : Option D := match x with
  | .sl z len ds => s.bind fun (n, new) => if z = sz P e ∧ ds.length = len * z ∧ roomD P e n ∧ (n = 0 ∨ 0 < len) then some (.sl z n new) else none
  | _ => none
/-- The cells of data of a type. -/
def cellsD (t : TypeId) (x : D) : Option (List D) := match aggT P t with
  | some true => (match x with
    | .agg ds => if ds.length = sz P t then some ds else none
    | _ => none)
  | some false => (match x with
    | .agg _ | .tup _ => none
    | x => if sz P t = 1 then some [x] else none)
  | none => none
def catD (t : TypeId) : List D → Option (List D)
  | [] => some []
  | x :: r => (cellsD P t x).bind fun c => (catD t r).map fun l => c ++ l
def oneD (x : D) : Option D := match x with
  | .agg _ | .tup _ => none
  | x => some x
def natD (x : D) : Option Nat := match x with
  | .v (.int .i64 n) => if 0 ≤ n then some n.toNat else none
  | _ => none

/-! ### Typed zeros -/
def fieldsZ (z : TypeId → Option (List (Option Nat))) : List Field → Option (List (Option Nat))
  | [] => some []
  | f :: r => (z f.type).bind fun a => (fieldsZ z r).map fun b => a ++ b
/-- Which of a type's cells are slices. -/
def zKinds : Nat → TypeId → Option (List (Option Nat))
  | 0, _ => none
  | n + 1, t => match P.underlying t with
    | some (.struct fs) => fieldsZ (zKinds n) fs.toList
    | some (.array m e) => (zKinds n e).map fun l => (List.replicate m l).flatten
    | some (.slice e) => some [some (sz P e)]
    | some _ => some [none]
    | none => none
def zipZ : List Value → List (Option Nat) → Option (List LV)
  | [], [] => some []
  | v :: vs, k :: ks => (match v, k with
    | .slice none 0 0, some z => some (LV.emp z)
    | v, none => if closedV 3 v then (if isOne v then some (.d true (.v v)) else none) else none
    | _, _ => none).bind fun a => (zipZ vs ks).map (a :: ·)
  | _, _ => none
def zeroL (t : TypeId) : Option (List LV) := (zeroT P t).bind fun vs => (zKinds P 4 t).bind fun ks => zipZ vs ks
def plainL : List LV → Option (List D)
  | [] => some []
  | .d _ x :: r => (plainL r).map (x :: ·)
  | .emp z :: r => (plainL r).map (.sl z 0 [] :: ·)
  | _ => none
def zeroDs (t : TypeId) : Option (List D) := (zeroL P t).bind plainL
def zOk (e : TypeId) : Bool := match zeroT P e with
  | some z => Nat.beq z.length (sz P e)
  | none => false
end

/-! ### Boxes -/
def frz (bx : List Bx) (k : Nat) : Option (List D × List Bx) := match bx[k]? with
  | some ⟨_, .row ds, .shared⟩ => some (ds, bx)
  | some ⟨z, .row ds, .rw⟩ => some (ds, bx.set k ⟨z, .row ds, .shared⟩)
  | _ => none
/-- A cell's value, given away. -/
def escC (bx : List Bx) : LV → Option (D × List Bx)
  | .d _ x => some (x, bx)
  | .cf f xs ys => some (.fn f xs ys, bx)
  | .emp z => some (.sl z 0 [], bx)
  | .full k len => match bx[k]? with
    | some b => (frz bx k).map fun (ds, bx) => (.sl b.z len ds, bx)
    | none => none
  | _ => none
def escCs (bx : List Bx) : List LV → Option (List D × List Bx)
  | [] => some ([], bx)
  | l :: r => (escC bx l).bind fun (x, bx) => (escCs bx r).map fun (xs, bx) => (x :: xs, bx)
/-- A variable's value, given away: what it leads to turns no more. -/
def esc (bx : List Bx) : LV → Option (D × List Bx)
  | .ref k i => match bx[k]? with
    | some ⟨z + 1, .cells ls, .rw⟩ => (escCs bx ls).bind fun (ds, bx) => (match bx[k]? with
      | some ⟨_ + 1, .cells _, .rw⟩ => some (.rp ds i, bx.set k ⟨z + 1, .cells (ds.map (.d true)), .shared⟩)
      | _ => none)
    | some ⟨_, .cells ls, .shared⟩ => (escCs bx ls).map fun (ds, bx) => (.rp ds i, bx)
    | _ => (frz bx k).map fun (ds, bx) => (.rp ds i, bx)
  | l => escC bx l
def escs (bx : List Bx) : List LV → Option (List D × List Bx)
  | [] => some ([], bx)
  | l :: r => (esc bx l).bind fun (x, bx) => (escs bx r).map fun (xs, bx) => (x :: xs, bx)

/-- What an operation comes to: known; data that there may be; cells of a known number; a new row; a place in a row; a call. -/
inductive Out where
  | fail
  | callv (x : D) (ds : List D) (bx : List Bx)
  | ok (x : LV) (bx : List Bx)
  | opt (one : Bool) (o : Option D) (bx : List Bx)
  | one (o : Option D) (f : D → LV × List Bx)
  | cells (n : Nat) (o : Option (List D)) (f : List D → LV × List Bx)
  | row (o : Option (Nat × List D)) (f : Nat → List D → LV × List Bx)
  | place (o : Option Nat) (f : Nat → LV) (bx : List Bx)
  | put (o : Option (List D)) (f : List D → List Bx)
  | call (f : Nat) (args : List Arg) (objs : List (Nat × Nat)) (bx : List Bx)
end Go.Proofs.YtlihmncbhaimkaaDoor.Am
/- The pure calculus, second part: what an operation comes to; propositions of code. -/
namespace Go.Proofs.YtlihmncbhaimkaaDoor.Am
open Go Go.RowKit

section
variable (P : Program) (J : Sig)
def normT (t : TypeId) (l : LV) : LV := match l with
  | .emp z => (match P.underlying t with
    | some (.slice e) => .emp (sz P e)
    | _ => .emp z)
  | l => l
def constL (x : Value) : Option Ent := match x with
  | .slice none 0 0 => some (none, .emp 0)
  | x => if closedV 3 x then (if isOne x then some (none, .d true (.v x)) else none) else none
def evL (E : PEnv) : Operand → Option Ent
  | .tmp t => E t
  | .const x => constL x
  | .global _ => none
  | .func f => some (none, .cf f [] [])
def evLs (E : PEnv) : List Operand → Option (List Ent)
  | [] => some []
  | x :: r => (evL E x).bind fun a => (evLs E r).map (a :: ·)
def opnds : Op → List Operand
  | .move x | .assign x | .nilCheck x | .unOp _ _ x | .convert _ _ x | .makeInterface _ x | .fieldAddr _ x _ | .field _ x _ | .extract x _ | .box _ x | .load _ x => [x]
  | .pick c a b => [c, a, b]
  | .build _ ps => ps.toList.map (·.2)
  | .buildSlice _ _ ps => ps.toList.map (·.2)
  | .store _ a x => [a, x]
  | .binOp _ _ x y _ => [x, y]
  | .makeFunc _ xs ys => xs.toList ++ ys.toList
  | .makeSlice _ l c => [l, c]
  | .slice _ x lo hi mx => x :: (lo.toList ++ hi.toList ++ mx.toList)
  | .indexAddr _ x i | .index _ x i => [x, i]
  | .call { callee := .value f, args, .. } => f :: args.toList
  | .call { args, .. } => args.toList
  | _ => []
def tmpOf : Operand → Option Nat
  | .tmp t => some t
  | _ => none
def opTmps (o : Op) : List Nat := (opnds o).filterMap tmpOf
def fresh1 (bx : List Bx) (x : LV) (b : Bx) : LV × List Bx := (x, bx ++ [b])
def dOf : LV → Option D
  | .d _ x => some x
  | .emp z => some (.sl z 0 [])
  | _ => none
def dOfs : List LV → Option (List D)
  | [] => some []
  | l :: r => (dOf l).bind fun x => (dOfs r).map (x :: ·)
def optD (l : Option LV) : Option (Option D) := match l with
  | none => some none
  | some l => (dOf l).map some
def memN (n : Nat) : List Nat → Bool
  | [] => false
  | x :: r => Nat.beq n x || memN n r
def mkArgs (bx : List Bx) : List PK → List LV → Option (List Arg × List (Nat × Nat) × List Bx)
  | [], [] => some ([], [], bx)
  | .val :: ks, l :: ls => (esc bx l).bind fun (x, bx) => (mkArgs bx ks ls).map fun (as, os, bx) => (.val x :: as, os, bx)
  | .sl z :: ks, l :: ls => (match l with
    | .emp _ => (mkArgs bx ks ls).map fun (as, os, bx) => (.val (.sl z 0 []) :: as, os, bx)
    | l => (esc bx l).bind fun (x, bx) => (mkArgs bx ks ls).map fun (as, os, bx) => (.val x :: as, os, bx))
  | .obj n :: ks, l :: ls => (match l with
    | .ref k 0 => (match bx[k]? with
      | some ⟨_, .cells cs, .rw⟩ => (escCs bx cs).bind fun (ds, bx) => if ds.length = n then (mkArgs bx ks ls).bind fun (as, os, bx) => (match bx[k]?, memN k (os.map (·.1)) with
        | some ⟨_, .cells _, .rw⟩, false => some (.obj ds :: as, (k, n) :: os, bx)
        | _, _ => none) else none
      | _ => none)
    | _ => none)
  | _, _ => none
def putObjs (bx : List Bx) : List (Nat × Nat) → List (List D) → List Bx
  | (k, _) :: os, ds :: outs => putObjs (match bx[k]? with
    | some b => bx.set k ⟨b.z, .cells (ds.map (.d true)), .rw⟩
    | none => bx) os outs
  | _, _ => bx
def pickD (c a b : D) : Option D := match c with
  | .v (.bool t) => some (bif t then a else b)
  | _ => none
def sameOp : Operand → Operand → Bool
  | .tmp a, .tmp b => Nat.beq a b
  | .const (.int .i64 m), .const (.int .i64 n) => m == n
  | _, _ => false
def isArr (t : TypeId) : Bool := match P.underlying t with
  | some (.array _ _) => true
  | _ => false
def isSl (t : TypeId) : Bool := match P.underlying t with
  | some (.slice _) => true
  | _ => false
def wrL (ls : List LV) (i : Nat) : List LV → List LV
  | [] => ls
  | x :: r => wrL (ls.set i x) (i + 1) r
def wrD (ds : List D) (i : Nat) : List D → List D
  | [] => ds
  | x :: r => wrD (ds.set i x) (i + 1) r
def putD (t : TypeId) (ds : List D) (i : Nat) (x : D) : Option (List D) := (cellsD P t x).bind fun c => if i + c.length ≤ ds.length then some (wrD ds i c) else none
def mkD (e : TypeId) (zs : List D) (n : D) : Option (Nat × List D) := match n with
  | .v (.int .i64 n) => if 0 ≤ n ∧ n * by_ P e ≤ 70368744177664 ∧ n ≤ 70368744177664 then some (n.toNat, (List.replicate n.toNat zs).flatten) else none
  | _ => none
def elemP (t : TypeId) (z len : Nat) (i : D) : Option Nat := match i, P.underlying t with
  | .v (.int _ n), some (.slice e) => if (P.info? e).isSome ∧ z = sz P e ∧ 0 ≤ n ∧ n < len then some (n.toNat * z) else none
  | _, _ => none
def elemA (t : TypeId) (o : Nat) (i : D) : Option Nat := match i, P.underlying t with
  | .v (.int _ n), some (.array len e) => if (P.info? e).isSome ∧ 0 ≤ n ∧ n < len then some (o + n.toNat * sz P e) else none
  | _, _ => none
def litS (t : TypeId) (n : Nat) (ps : List (Nat × D)) : Option (Nat × List D) := (elemT P t).bind fun e =>
  if zOk P e = true ∧ ps.map (·.1) = List.range n ∧ 0 < sz P e ∧ n * sz P e ≤ 65536 then (catD P e (ps.map (·.2))).map fun l => (n, l) else none
def nilCheckD (x : D) : Option D := match x with
  | .rp ds i => some (.rp ds i)
  | .fn f xs ys => some (.fn f xs ys)
  | _ => none
def minmaxD (mx : Bool) (xs : List D) : Option D := (toVs xs).bind fun l => (minmaxA mx l).map .v
def bytesD (x : D) : Option (Nat × List D) := match x with
  | .v (.string s) => if s.size ≤ 70368744177664 then some (s.size, s.data.toList.map fun b => .v (.int .u8 b.toNat)) else none
  | _ => none
def nilVs (op : BinOp) (t : TypeId) (y : D) : Option D := match y, P.underlying t, op with
  | .v (.pointer none), some (.pointer _), .eql => some (.bool false)
  | .v (.pointer none), some (.pointer _), .neq => some (.bool true)
  | _, _, _ => none
def partsL (E : PEnv) : List (Nat × Operand) → Option (List (Nat × LV))
  | [] => some []
  | p :: r => (evL E p.2).bind fun a => (partsL E r).map ((p.1, a.2) :: ·)
def escParts (bx : List Bx) : List (Nat × LV) → Option (List (Nat × D) × List Bx)
  | [] => some ([], bx)
  | p :: r => (esc bx p.2).bind fun (x, bx) => (escParts bx r).map fun (xs, bx) => ((p.1, x) :: xs, bx)
def slOf (bx : List Bx) (l : LV) : Option D := match l with
  | .d _ x => some x
  | .emp z => some (.sl z 0 [])
  | .full k len => (match bx[k]? with
    | some ⟨z, .row ds, .rw⟩ | some ⟨z, .row ds, .ro⟩ | some ⟨z, .row ds, .shared⟩ => some (.sl z len ds)
    | _ => none)
  | _ => none
def outO (o : Option Out) : Out := match o with
  | some x => x
  | none => .fail
def notAgg (t : TypeId) : Bool := match aggT P t with
  | some false => true
  | _ => false
def fieldP (t : TypeId) (i : Nat) : Option (Nat × TypeId) := match P.underlying t with
  | some (.struct fs) => (fs[i]?).map fun f => (f.offset, f.type)
  | _ => none
def fieldT (t : TypeId) (i : Nat) : TypeId := match fieldP P t i with
  | some (_, e) => e
  | none => 0
/-- A struct's cells with its parts put in. -/
def fillD (t : TypeId) : List D → List (Nat × D) → Option (List D)
  | cs, [] => some cs
  | cs, (i, x) :: r => match fieldP P t i with
    | none => none
    | some (off, e) => (cellsD P e x).bind fun c => if off + c.length ≤ cs.length then fillD t (wrD cs off c) r else none
/-- What an operation comes to. -/
def popE (o : Op) (E : PEnv) (bx : List Bx) : Out := outO <| match o with
  | .move x | .assign x => (evL E x).map fun a => .ok a.2 bx
  | .pick c a b => (evL E c).bind fun c => (evL E a).bind fun a => (evL E b).bind fun b => (match c.2, a.2, b.2 with
    | .d _ c, .d o a, .d o' b => some (.opt (o && o') (pickD c a b) bx)
    | _, _, _ => none)
  | .alloc t => if isArr P t then (zeroDs P t).map fun ds => .ok (.ref bx.length 0) (bx ++ [⟨sz P t, .row ds, .rw⟩])
    else (zeroL P t).map fun ls => .ok (.ref bx.length 0) (bx ++ [⟨sz P t, .cells ls, .rw⟩])
  | .box t x => (evL E x).bind fun a => (match aggT P t with
    | some true => (match a.2 with
      | .d _ x => if isArr P t then some (.row ((cellsD P t x).map fun ds => (0, ds)) fun _ ds => (.ref bx.length 0, bx ++ [⟨sz P t, .row ds, .rw⟩]))
        else some (.cells (sz P t) (cellsD P t x) fun ds => (.ref bx.length 0, bx ++ [⟨sz P t, .cells (ds.map (.d true)), .rw⟩]))
      | _ => none)
    | some false => if sz P t = 1 then (match normT P t a.2 with
      | .d false x => some (.one (oneD x) fun x => (.ref bx.length 0, bx ++ [⟨1, .cells [.d true x], .rw⟩]))
      | l => some (.ok (.ref bx.length 0) (bx ++ [⟨1, .cells [l], .rw⟩]))) else none
    | none => none)
  | .load t x => (evL E x).bind fun a => (match a.2 with
    | .d _ x => some (.opt (notAgg P t) (loadD P t x) bx)
    | .ref k i => (match bx[k]? with
      | some ⟨_, _, .dead⟩ => none
      | some ⟨_, .row ds, _⟩ => some (.opt (notAgg P t) (partD P t ds i) bx)
      | some ⟨_, .cells ls, _⟩ => (match aggT P t with
        | some true => if i + sz P t ≤ ls.length then (escCs bx ((ls.drop i).take (sz P t))).map fun (ds, bx) => .ok (.d false (.agg ds)) bx else none
        | some false => (ls[i]?).map fun l => .ok l bx
        | none => none)
      | none => none)
    | _ => none)
  | .store t p x => (evL E p).bind fun p => (evL E x).bind fun a => (match p.2 with
    | .ref k i => (match bx[k]? with
      | some ⟨z, .cells ls, .rw⟩ => (match aggT P t with
        | some true => (match a.2 with
          | .d _ x => if i + sz P t ≤ ls.length then some (.cells (sz P t) (cellsD P t x) fun ds => (.d false .undef, bx.set k ⟨z, .cells (wrL ls i (ds.map (.d true))), .rw⟩)) else none
          | _ => none)
        | some false => if i < ls.length ∧ sz P t = 1 then (match normT P t a.2 with
          | .d false x => some (.one (oneD x) fun x => (.d false .undef, bx.set k ⟨z, .cells (ls.set i (.d true x)), .rw⟩))
          | l => some (.ok (.d false .undef) (bx.set k ⟨z, .cells (ls.set i l), .rw⟩))) else none
        | none => none)
      | some ⟨_, .row _, .rw⟩ => (esc bx (normT P t a.2)).bind fun (x, bx) => (match bx[k]? with
        | some ⟨z, .row ds, .rw⟩ => some (.put (putD P t ds i x) fun ds => bx.set k ⟨z, .row ds, .rw⟩)
        | _ => none)
      | _ => none)
    | _ => none)
  | .nilCheck x => (evL E x).bind fun a => (match a.2 with
    | .d _ x => some (.opt true (nilCheckD x) bx)
    | .ref k i => some (.ok (.ref k i) bx)
    | .cf f xs ys => some (.ok (.cf f xs ys) bx)
    | _ => none)
  | .binOp op t x y _ => (evL E x).bind fun a => (evL E y).bind fun b => (match a.2, b.2 with
    | .d _ x, .d _ y => some (.opt true (binD P op t x y) bx)
    | .ref _ _, .d _ y => some (.opt true (nilVs P op t y) bx)
    | _, _ => none)
  | .unOp op _ x => (evL E x).bind fun a => (match a.2 with
    | .d _ x => some (.opt true (unD op x) bx)
    | _ => none)
  | .convert s d x => (evL E x).bind fun a => (match P.underlying d with
    | some (.slice e) => if isU8 P e ∧ sz P e = 1 then (match P.underlying s, a.2 with
      | some .string, .d _ x => some (.row (bytesD x) fun n ds => (.full bx.length n, bx ++ [⟨1, .row ds, .rw⟩]))
      | _, _ => none) else none
    | _ => (slOf bx a.2).map fun x => .opt true (convD P s d x) bx)
  | .makeFunc (.func f) xs ys => (evLs E xs.toList).bind fun xs => (evLs E ys.toList).bind fun ys => (escs bx (xs.map (·.2))).bind fun (xs, bx) => (escs bx (ys.map (·.2))).map fun (ys, bx) => .ok (.cf f xs ys) bx
  | .makeSlice t l c => if sameOp l c then (evL E l).bind fun a => (elemT P t).bind fun e => (zeroDs P e).bind fun zs => (match a.2 with
    | .d _ x => if zs.length = sz P e ∧ 0 < sz P e then some (.row (mkD P e zs x) fun n ds => (.full bx.length n, bx ++ [⟨sz P e, .row ds, .rw⟩])) else none
    | _ => none) else none
  | .buildSlice t n ps => (elemT P t).bind fun e => (partsL E ps.toList).bind fun ps => (escParts bx (ps.map fun p => (p.1, normT P e p.2))).map fun (ps, bx) =>
      .row (litS P t n ps) fun n ds => (.full bx.length n, bx ++ [⟨sz P e, .row ds, .rw⟩])
  | .build t ps => if structOk P t then (match aggT P t with
    | some true => (zeroDs P t).bind fun zs => (partsL E ps.toList).bind fun ps => (escParts bx (ps.map fun p => (p.1, normT P (fieldT P t p.1) p.2))).map fun (ps, bx) => .opt false ((fillD P t zs ps).map .agg) bx
    | _ => none) else none
  | .slice t x lo hi mx => (evL E x).bind fun a => (match mx with
    | none => (slOf bx a.2).bind fun _ => (evLs E lo.toList).bind fun los => (evLs E hi.toList).bind fun his => (optD (los.map (·.2)).head?).bind fun lo => (optD (his.map (·.2)).head?).bind fun hi => (match a.2 with
      | .d _ x => some (.opt true (sliceD P t x lo hi) bx)
      | _ => none)
    | some (.const (.int _ 0)) => (match lo, hi, a.2 with
      | none, some (.const (.int _ 0)), .d _ x => some (.one (clD P t x) fun x => (.cl x, bx))
      | _, _, _ => none)
    | _ => none)
  | .fieldAddr s x f => (evL E x).bind fun a => (match a.2 with
    | .d _ x => some (.opt true (fieldAddrD P s x f) bx)
    | .ref k i => (offF P s f).map fun o => .ok (.ref k (i + o)) bx
    | _ => none)
  | .field s x f => (evL E x).bind fun a => (match a.2 with
    | .d _ x => some (.opt false (fieldD P s x f) bx)
    | _ => none)
  | .indexAddr t x i => (evL E x).bind fun a => (evL E i).bind fun j => (match a.2, j.2 with
    | .d _ x, .d _ j => some (.opt true (indexAddrD P t x j) bx)
    | .full k len, .d _ j => (bx[k]?).map fun b => .place (elemP P t b.z len j) (fun o => .ref k o) bx
    | .ref k i, .d _ j => some (.place (elemA P t i j) (fun o => .ref k o) bx)
    | _, _ => none)
  | .index t x i => (evL E x).bind fun a => (evL E i).bind fun j => (match a.2, j.2 with
    | .d _ x, .d _ j => some (.opt false (indexD P t x j) bx)
    | _, _ => none)
  | .extract x i => (evL E x).bind fun a => (match a.2 with
    | .d _ x => some (.opt false (extractD x i) bx)
    | _ => none)
  | .call { callee := .value f, args, .. } => (evL E f).bind fun f => (evLs E args.toList).bind fun as => (match f.2 with
    | .cf g xs ys => (mkArgs bx (J g) (xs.map (.d false) ++ as.map (·.2) ++ ys.map (.d false))).map fun (as, os, bx) => .call g as os bx
    | .d _ x => (escs bx (as.map (·.2))).map fun (ds, bx) => .callv x ds bx
    | _ => none)
  | .call { callee := .builtin b, args, argTypes } => (evLs E args.toList).bind fun as => (match b, argTypes.toList, as.map (·.2) with
    | .len, t :: _, [l] => (match l with
      | .d _ x => some (.opt true (lenD P t x) bx)
      | .full _ n => if isSl P t then some (.ok (.d true (.int n)) bx) else none
      | .emp _ => if isSl P t then some (.ok (.d true (.int 0)) bx) else none
      | _ => none)
    | .append, t :: u :: _, [s, x] => if isIntT P u then none else (elemT P t).bind fun e => if sz P e = 0 ∨ 65536 < by_ P e ∨ zOk P e = false then none else (slOf bx x).bind fun x => (match s with
      | .emp _ => some (.row (appD P e 0 [] (srcD P e x)) fun n ds => (.full bx.length n, bx ++ [⟨sz P e, .row ds, .rw⟩]))
      | .full k len => (match bx[k]? with
        | some ⟨z, .row ds, .rw⟩ => if z = sz P e then some (.row (appD P e len ds (srcD P e x)) fun n es => (.full bx.length n, bx.set k ⟨z, .row ds, .dead⟩ ++ [⟨sz P e, .row es, .rw⟩])) else none
        | _ => none)
      | .cl y => some (.opt true (cloneD P e y (srcD P e x)) bx)
      | _ => none)
    | .max, _, ls => (dOfs ls).map fun xs => .opt true (minmaxD true xs) bx
    | .min, _, ls => (dOfs ls).map fun xs => .opt true (minmaxD false xs) bx
    | _, _, _ => none)
  | _ => none

/-! ### Propositions -/
def BndR (o : Option (Nat × List D)) (K : Nat → List D → Prop) : Prop := ∃ n ds, o = some (n, ds) ∧ K n ds
def ExD : Nat → (List D → Prop) → Prop
  | 0, K => K []
  | n + 1, K => ∃ d, ExD n fun l => K (d :: l)
def outsW : List Nat → (List (List D) → Prop) → Prop
  | [], K => K []
  | n :: r, K => ExD n fun c => outsW r fun o => K (c :: o)
def PCall (S : CallS) (g : Nat) (args : List Arg) (ns : List Nat) (K : D → List (List D) → Prop) : Prop := ∃ d, outsW ns fun outs => S g args d outs ∧ K d outs
def PCallV (S : CallS) (x : D) (ds : List D) (K : D → Prop) : Prop := ∃ g xs ys d, x = .fn g xs ys ∧ S g ((xs ++ ds ++ ys).map .val) d [] ∧ K d
def OnBD (x : D) (K : Bool → Prop) : Prop := ∃ t, x = .v (.bool t) ∧ K t
def pRun (S : CallS) (out : Out) (K : LV → List Bx → Prop) : Prop := match out with
  | .fail => False
  | .ok x bx => K x bx
  | .opt one o bx => Bnd o fun x => K (.d one x) bx
  | .one o f => Bnd o fun x => K (f x).1 (f x).2
  | .cells n o f => ExD n fun c => o = some c ∧ K (f c).1 (f c).2
  | .row o f => BndR o fun n ds => K (f n ds).1 (f n ds).2
  | .place o f bx => Bnd o fun j => K (f j) bx
  | .put o f => Bnd o fun ds => K (.d false .undef) (f ds)
  | .call g args objs bx => PCall S g args (objs.map (·.2)) fun d outs => K (.d false d) (putObjs bx objs outs)
  | .callv x ds bx => PCallV S x ds fun d => K (.d false d) bx
/-- Under a guard: what it comes to counts only if the guard is true. -/
def pRunG (S : CallS) (g : Bool) (out : Out) (K : LV → List Bx → Prop) : Prop := match out with
  | .ok x bx => K x bx
  | .opt one o bx => ∃ x, (g = true → o = some x) ∧ K (.d one x) bx
  | .row o f => ∃ n ds, (g = true → o = some (n, ds)) ∧ K (f n ds).1 (f n ds).2
  | .call h args [] bx => ∃ d, (g = true → S h args d []) ∧ K (.d false d) bx
  | .callv x ds bx => ∃ d, (g = true → ∃ h xs ys, x = .fn h xs ys ∧ S h ((xs ++ ds ++ ys).map .val) d []) ∧ K (.d false d) bx
  | _ => False
def wantD (x : D) (w : Bool) : Bool := match x with
  | .v (.bool b) => b == w
  | _ => false
def truD (x : D) : Bool := match x with
  | .v (.bool b) => b
  | _ => false
/-- The condition under which the operand holds, known ahead of it. -/
def need1 (G : Cnd) (c : Cnd) (K : Prop) : Prop := match c with
  | none => K
  | some (_, _, b) => (match G with
    | none => b = true ∧ K
    | some (_, _, g) => (g = true → b = true) ∧ K)
def needs (G : Cnd) : List Cnd → Prop → Prop
  | [], K => K
  | c :: r, K => need1 G c (needs G r K)
def entC : Option Ent → Cnd
  | some (c, _) => c
  | none => none
/-- 'pick': the one of two that is taken must hold. -/
def pick1 (G : Cnd) (b : Bool) (x : D) (a : Cnd) (K : Prop) : Prop := match a with
  | none => K
  | some (_, _, t) => (match G with
    | none => (truD x = b → t = true) ∧ K
    | some (_, _, g) => (g = true → truD x = b → t = true) ∧ K)
def needPick (G : Cnd) (x : D) (a b : Cnd) (K : Prop) : Prop := pick1 G true x a (pick1 G false x b K)
def needsOp (G : Cnd) (E : PEnv) (o : Op) (K : Prop) : Prop := match o with
  | .pick c a b => (match evL E c, evL E a, evL E b with
    | some (cc, .d _ x), some (ca, _), some (cb, _) => need1 G cc (needPick G x ca cb K)
    | _, _, _ => False)
  | o => needs G ((opnds o).map fun x => entC (evL E x)) K
/-- The guard, as a condition. -/
def guardC (E : PEnv) (j : Nat) (w : Bool) : Cnd := match E j with
  | some (none, .d _ x) => some (j, w, wantD x w)
  | some (some (_, _, b), .d _ x) => some (j, w, b && wantD x w)
  | _ => none
/-- May it stand under a guard? -/
def guardable : Op → Bool
  | .store .. => false
  | .call { callee := .builtin b, .. } => (match b with
    | .append => false
    | _ => true)
  | _ => true
def pstep (S : CallS) (ops : List Oper) (o : Oper) (E : PEnv) (bx : List Bx) (K : PEnv → List Bx → Prop) : Prop := match o.guard with
  | none => needsOp none E o.op (pRun S (popE P J o.op E bx) fun x bx => K (pupd E o.dst (some (none, x))) bx)
  | some (j, w) => (match (ops[j]?).bind (·.dst) with
    | some t => (match guardC E t w, guardable o.op with
      | some (t, w, g), true => needsOp (some (t, w, g)) E o.op (pRunG S g (popE P J o.op E bx) fun x bx => K (pupd E o.dst (some (some (t, w, g), x))) bx)
      | _, _ => False)
    | none => False)
def popsW (S : CallS) (ops : List Oper) : List Oper → (PEnv → List Bx → Prop) → PEnv → List Bx → Prop
  | [], K, E, bx => K E bx
  | o :: r, K, E, bx => pstep P J S ops o E bx fun E bx => popsW S ops r K E bx

/-! ### Regions that draw their order -/
def rdBox (o : Op) (E : PEnv) : Option Nat := match o with
  | .load _ x => (match evL E x with
    | some (_, .ref k _) => some k
    | _ => none)
  | _ => none
/-- The boxes that an operation may turn. -/
def effOf (o : Op) (E : PEnv) : List Nat := match o with
  | .store _ p _ => (match evL E p with
    | some (_, .ref k _) => [k]
    | _ => [])
  | .call { callee := .builtin .append, args, .. } => (match args.toList with
    | s :: _ => (match evL E s with
      | some (_, .full k _) => [k]
      | _ => [])
    | _ => [])
  | .call { callee := .value _, args, .. } => args.toList.filterMap fun a => (match evL E a with
      | some (_, .ref k _) => some k
      | _ => none)
  | _ => []
def anyBad (bad : List Nat) (o : Op) : Bool := (opTmps o).any fun t => memN t bad
def hitB (k : Option Nat) (eff : List Nat) : Bool := match k with
  | some k => memN k eff
  | none => false
/-- Does a load give away nothing of one's own? -/
def allD : List LV → Bool
  | [] => true
  | .d _ _ :: r => allD r
  | _ :: _ => false
def allDE : List (Nat × LV) → Bool
  | [] => true
  | (_, .d _ _) :: r => allDE r
  | (_, .emp _) :: r => allDE r
  | _ :: _ => false
def cleanOp (o : Op) (E : PEnv) (bx : List Bx) : Bool := match o with
  | .makeFunc .. => false
  | .build t ps => (match partsL E ps.toList with
    | some ps => allDE (ps.map fun p => (p.1, normT P (fieldT P t p.1) p.2))
    | none => true)
  | .load t x => (match evL E x with
    | some (_, .ref k i) => (match bx[k]? with
      | some ⟨_, .cells ls, _⟩ => (match aggT P t with
        | some true => allD ((ls.drop i).take (sz P t))
        | _ => true)
      | _ => true)
    | _ => true)
  | _ => true
/-- The boxes that operands lead to. -/
def refsL (E : PEnv) (l : List Operand) : List Nat := l.filterMap fun a => match evL E a with
  | some (_, .ref k _) => some k
  | _ => none
/-- The boxes that an operation may turn or give away. -/
def touch (o : Op) (E : PEnv) : List Nat := match o with
  | .makeFunc _ xs ys => refsL E (xs.toList ++ ys.toList)
  | .store _ p x => refsL E [p, x]
  | .buildSlice _ _ ps => refsL E (ps.toList.map (·.2))
  | .build _ ps => refsL E (ps.toList.map (·.2))
  | .call { callee := .value _, args, .. } => refsL E args.toList
  | o => effOf o E
abbrev Past := List (Nat × List Nat × List Nat)
def dstL (o : Oper) : List Nat := o.dst.toList
def pastQ (o : Oper) (k : Option Nat) (c : Bool) (e : List Nat) : Past → Past
  | [] => []
  | (j, bad, eff) :: r => (j, bif anyBad bad o.op || hitB k eff || !c then dstL o ++ bad else bad, e ++ eff) :: pastQ o k c e r
def pastC (o : Oper) (e : List Nat) : Past → Past
  | [] => []
  | (j, bad, eff) :: r => (j, dstL o ++ bad, e ++ eff) :: pastC o e r
def readOk (b : List Nat) (i : Nat) (o : Op) (k : Option Nat) (c : Bool) : Past → Bool
  | [] => true
  | (j, bad, eff) :: r => (ordered b j i || (!anyBad bad o && !hitB k eff && c)) && readOk b i o k c r
/-- The reads so far: place, is what was read out of reach by now, box. -/
abbrev Reads := List (Nat × Bool × Option Nat)
def chainOk (b : List Nat) (i : Nat) (e : List Nat) : Reads → Bool
  | [] => true
  | (j, lost, k) :: r => (ordered b j i || (!lost && !hitB k e)) && chainOk b i e r
def readsT (e : List Nat) : Reads → Reads
  | [] => []
  | (j, lost, k) :: r => (j, lost || hitB k e, k) :: readsT e r
/-- Takes part in a region that draws: no freezing, no clones. -/
def pdrawW (S : CallS) (ops : List Oper) (b : List Nat) : List (Oper × Nat) → (PEnv → List Bx → Prop) → PEnv → List Bx → Reads → Past → Prop
  | [], K, E, bx, _, _ => K E bx
  | (o, i) :: r, K, E, bx, rs, hs => match clsOf o.op with
    | .quiet => pstep P J S ops o E bx fun E' bx' => pdrawW S ops b r K E' bx' (readsT (touch o.op E) rs) (pastQ o none (cleanOp P o.op E bx) (touch o.op E) hs)
    | .read => match readOk b i o.op (rdBox o.op E) (cleanOp P o.op E bx) hs with
      | true => pstep P J S ops o E bx fun E' bx' => pdrawW S ops b r K E' bx' ((i, false, rdBox o.op E) :: rs) (pastQ o (rdBox o.op E) (cleanOp P o.op E bx) [] hs)
      | false => False
    | .chain => match chainOk b i (touch o.op E) rs with
      | true => pstep P J S ops o E bx fun E' bx' => pdrawW S ops b r K E' bx' (readsT (touch o.op E) rs) ((i, dstL o, touch o.op E) :: pastC o (touch o.op E) hs)
      | false => False
end
end Go.Proofs.YtlihmncbhaimkaaDoor.Am
/- The pure calculus, third part: propositions of code and of functions. -/
namespace Go.Proofs.YtlihmncbhaimkaaDoor.Am
open Go Go.RowKit

/-! ### What loops and joins hand on -/
inductive KK where
  | d (o : Bool) | s (z : Nat) | r | f
inductive Loc where
  | t (n : Nat)
  | c (k i : Nat)
  | r (k : Nat)
structure LH where
  kinds : List KK
  boxes : List Nat
abbrev PHints := Nat → LH
def kkCell (bx : List Bx) : LV → KK
  | .d o _ => .d o
  | .emp z => .s z
  | .full k _ => match bx[k]? with
    | some b => .s b.z
    | none => .f
  | _ => .f
def cellLocs (bx : List Bx) (k : Nat) : Nat → List LV → List (Loc × KK)
  | _, [] => []
  | i, l :: r => (.c k i, kkCell bx l) :: cellLocs bx k (i + 1) r
def boxLocs (bx : List Bx) : List Nat → List (Loc × KK)
  | [] => []
  | k :: r => (match bx[k]? with
    | some ⟨_, .cells ls, _⟩ => cellLocs bx k 0 ls
    | some ⟨_, .row _, _⟩ => [(.r k, .r)]
    | none => []) ++ boxLocs bx r
def tmpLocs : List Nat → List KK → List (Loc × KK)
  | n :: r, k :: ks => (.t n, k) :: tmpLocs r ks
  | _, _ => []
def locsOf (L : List Nat) (H : LH) (bx : List Bx) : List (Loc × KK) := tmpLocs L H.kinds ++ boxLocs bx H.boxes
def atLoc (E : PEnv) (bx : List Bx) : Loc → Option LV
  | .t n => match E n with
    | some (none, l) => some l
    | _ => none
  | .c k i => match bx[k]? with
    | some ⟨_, .cells ls, .rw⟩ => ls[i]?
    | _ => none
  | .r _ => none
def packLoc (E : PEnv) (bx : List Bx) : Loc × KK → Option D
  | (.r k, .r) => match bx[k]? with
    | some ⟨_, .row ds, .rw⟩ => some (.agg ds)
    | _ => none
  | (l, .d o) => match atLoc E bx l with
    | some (.d o' x) => bif !o || o' then some x else none
    | _ => none
  | (l, .s z) => match atLoc E bx l with
    | some (.full k len) => (match bx[k]? with
      | some ⟨z', .row ds, .rw⟩ => bif Nat.beq z z' then some (.sl z len ds) else none
      | _ => none)
    | some (.emp _) => some (.sl z 0 [])
    | _ => none
  | _ => none
def packLocs (E : PEnv) (bx : List Bx) : List (Loc × KK) → Option (List D)
  | [] => some []
  | l :: r => (packLoc E bx l).bind fun a => (packLocs E bx r).map (a :: ·)
/-- The boxes that turn are of the same make. -/
def hintOk (bx bx0 : List Bx) : List Nat → Bool
  | [] => true
  | k :: r => (match bx[k]?, bx0[k]? with
    | some ⟨z, .cells ls, .rw⟩, some ⟨z0, .cells ls0, .rw⟩ => Nat.beq z z0 && Nat.beq ls.length ls0.length
    | some ⟨z, .row _, .rw⟩, some ⟨z0, .row _, .rw⟩ => Nat.beq z z0
    | _, _ => false) && hintOk bx bx0 r
/-- What is handed on may turn. -/
def mvOk (bx0 : List Bx) : List Nat → Bool
  | [] => true
  | k :: r => (match bx0[k]? with
    | some ⟨_, _, .rw⟩ => true
    | _ => false) && mvOk bx0 r
/-- Where the rows that are handed on come from. -/
def srcsOf (E : PEnv) (bx : List Bx) : List (Loc × KK) → List (Option Nat)
  | [] => []
  | (l, .s _) :: r => (match atLoc E bx l with
    | some (.full k _) => some k
    | _ => none) :: srcsOf E bx r
  | _ :: r => srcsOf E bx r
def movedOf (E : PEnv) (bx : List Bx) (locs : List (Loc × KK)) : List Nat := (srcsOf E bx locs).filterMap id
/-- The rows that are handed on: one's own since, or handed in; no two the same. -/
def okMoved (n0 : Nat) (old hb : List Nat) : List Nat → Bool
  | [] => true
  | k :: r => (Nat.ble n0 k || (memN k old && !memN k hb)) && !memN k r && okMoved n0 old hb r
def roB (hb : List Nat) : Nat → List Bx → List Bx
  | _, [] => []
  | k, b :: r => (match memN k hb, b.st with
    | false, .rw => ⟨b.z, b.ct, .ro⟩
    | _, _ => b) :: roB hb (k + 1) r
def unB : List Bx → List Bx → List Bx
  | b0 :: r0, b :: r => (match b.st with
    | .ro => ⟨b.z, b.ct, b0.st⟩
    | _ => b) :: unB r0 r
  | _, r => r
def eqLoc : Loc → Loc → Bool
  | .t n, .t m => Nat.beq n m
  | .c k i, .c k' i' => Nat.beq k k' && Nat.beq i i'
  | .r k, .r k' => Nat.beq k k'
  | _, _ => false
/-- What stands at a place at a loop's head or behind a join. -/
def valOf : Nat → List (Loc × KK) → List D → Loc → Option LV
  | b, (l, .d o) :: r, x :: ds, q => bif eqLoc l q then some (.d o x) else valOf b r ds q
  | b, (l, .s _) :: r, x :: ds, q => bif eqLoc l q then (match x with
    | .sl _ len _ => some (.full b len)
    | _ => none) else valOf (b + 1) r ds q
  | b, _ :: r, _ :: ds, q => valOf b r ds q
  | _, _, _, _ => none
def rowOf' : List (Loc × KK) → List D → Nat → Option (List D)
  | (.r k, .r) :: r, x :: ds, k' => bif Nat.beq k k' then (match x with
    | .agg cs => some cs
    | _ => none) else rowOf' r ds k'
  | _ :: r, _ :: ds, k' => rowOf' r ds k'
  | _, _, _ => none
def rowsOf : List (Loc × KK) → List D → List Bx
  | (_, .s z) :: r, x :: ds => ⟨z, .row (match x with
    | .sl _ _ cs => cs
    | _ => []), .rw⟩ :: rowsOf r ds
  | _ :: r, _ :: ds => rowsOf r ds
  | _, _ => []
def newCells (b : Nat) (locs : List (Loc × KK)) (ds : List D) (k : Nat) : Nat → List LV → List LV
  | _, [] => []
  | i, l :: r => (match valOf b locs ds (.c k i) with
    | some l' => l'
    | none => l) :: newCells b locs ds k (i + 1) r
/-- A box at the head. -/
def headB (mv hb : List Nat) (ro : Bool) (b : Nat) (locs : List (Loc × KK)) (ds : List D) (k : Nat) (x : Bx) : Bx := match memN k hb with
  | true => (match x.ct with
    | .cells ls => ⟨x.z, .cells (newCells b locs ds k 0 ls), x.st⟩
    | .row cs => ⟨x.z, .row (match rowOf' locs ds k with
      | some cs => cs
      | none => cs), x.st⟩)
  | false => match memN k mv with
    | true => ⟨x.z, x.ct, .dead⟩
    | false => match ro, x.st with
      | true, .rw => ⟨x.z, x.ct, .ro⟩
      | _, _ => x
def headBs (mv hb : List Nat) (ro : Bool) (b : Nat) (locs : List (Loc × KK)) (ds : List D) : Nat → List Bx → List Bx
  | _, [] => []
  | k, x :: r => headB mv hb ro b locs ds k x :: headBs mv hb ro b locs ds (k + 1) r
def AllK : List (Loc × KK) → (List D → Prop) → Prop
  | [], p => p []
  | (_, .d _) :: r, p => ∀ x : D, AllK r fun l => p (x :: l)
  | (_, .s z) :: r, p => ∀ (n : Nat) (cs : List D), AllK r fun l => p (.sl z n cs :: l)
  | (_, .r) :: r, p => ∀ cs : List D, AllK r fun l => p (.agg cs :: l)
  | (_, .f) :: r, p => AllK r p
def leaveE (L K : List Nat) (E0 E : PEnv) : PEnv := fun n => if K.contains n then (if L.contains n then E n else none) else E0 n
def packP (E : PEnv) (bx : List Bx) (E0 : PEnv) (bx0 : List Bx) (L : List Nat) (H : LH) (K : List D → Prop) : Prop :=
  let locs := locsOf L H bx0
  match okMoved bx0.length (movedOf E0 bx0 locs) H.boxes (movedOf E bx locs) && hintOk bx bx0 H.boxes && mvOk bx0 (movedOf E0 bx0 locs) with
  | true => evW (packLocs E bx locs) K
  | false => False
def headE' (E0 : PEnv) (K : List Nat) (b : Nat) (locs : List (Loc × KK)) (ds : List D) : PEnv := fun n => match K.contains n with
  | true => (match valOf b locs ds (.t n) with
    | some l => some (none, l)
    | none => none)
  | false => E0 n
def headP (E0 : PEnv) (bx0 : List Bx) (L K : List Nat) (H : LH) (ro : Bool) (ds : List D) : PEnv × List Bx :=
  let locs := locsOf L H bx0
  (headE' E0 K bx0.length locs ds, headBs (movedOf E0 bx0 locs) H.boxes ro bx0.length locs ds 0 bx0 ++ rowsOf locs ds)

section
variable (P : Program) (J : Sig) (H : Nat → Option (List Nat)) (PH : PHints) (S : CallS)
def regionP (ops : List Oper) (draw : Bool) (K : PEnv → List Bx → Prop) (E : PEnv) (bx : List Bx) : Prop := match draw with
  | true => pdrawW P J S ops (Region.before ops.toArray).toList ops.zipIdx K E bx [] []
  | false => popsW P J S ops ops K E bx
def pwp : Code → (Ex → PEnv → List Bx → Prop) → PEnv → List Bx → Prop
  | .skip, Q, E, bx => Q .normal E bx
  | .region _ ops d, Q, E, bx => regionP P J S ops.toList d (Q .normal) E bx
  | .seq a b, Q, E, bx => match joinH H b with
    | none => pwp a (fun x E bx => match x with
      | .normal => pwp b Q E bx
      | x => Q x E bx) E bx
    | some L =>
      let LHk := PH (2 * (firstReg b).getD 0 + 1)
      let locs := locsOf L LHk bx
      ∃ R : List D → Prop, pwp a (fun x E' bx' => match x with
        | .normal => packP E' bx' E bx L LHk R
        | x => Q x E' (unB bx bx')) E (roB (LHk.boxes ++ movedOf E bx locs) 0 bx) ∧
        AllK locs fun ds => R ds → pwp b Q (headP E bx L (asg a) LHk false ds).1 (headP E bx L (asg a) LHk false ds).2
  | .cond c a b, Q, E, bx => match evL E c with
    | some (none, .d _ x) => OnBD x fun t => Br t (pwp a Q E bx) (pwp b Q E bx)
    | _ => False
  | .block id c, Q, E, bx => pwp c (fun x E bx => Q (x.leave id) E bx) E bx
  | .loop c, Q, E, bx =>
    let L := loopH H c
    let LHk := PH (2 * (firstReg c).getD 0)
    let locs := locsOf L LHk bx
    ∃ (I : List D → Prop) (m : List D → Nat), packP E bx E bx L LHk I ∧ AllK locs fun ds => I ds →
      pwp c (fun x E' bx' => match x with
        | .normal => packP E' bx' E bx L LHk fun ds' => I ds' ∧ m ds' < m ds
        | x => Q x (leaveE L (asg c) E E') (unB bx bx')) (headP E bx L (asg c) LHk true ds).1 (headP E bx L (asg c) LHk true ds).2
  | .exit id, Q, E, bx => Q (.exit id) E bx
  | .ret, Q, E, bx => Q .ret E bx
  | .scope c, Q, E, bx => pwp c Q E bx
  | .label _, Q, E, bx => Q .normal E bx
  | _, _, _, _ => False

/-! ### Functions -/
def resP (E : PEnv) : List ResultVar → List TypeId → List Bx → (List D → List Bx → Prop) → Prop
  | [], _, bx, K => K [] bx
  | .tmp t :: r, ty :: ts, bx, K => (match E t with
    | some (none, l) => evW (esc bx (normT P ty l)) fun p => resP E r ts p.2 fun xs bx => K (p.1 :: xs) bx
    | _ => False)
  | .cell a t :: r, ty :: ts, bx, K => (match E a with
    | some (none, _) => pRun S (popE P J (.load t (.tmp a)) E bx) fun l bx => evW (esc bx (normT P ty l)) fun p => resP E r ts p.2 fun xs bx => K (p.1 :: xs) bx
    | _ => False)
  | _, _, _, _ => False
def packD : List D → D
  | [d] => d
  | l => .tup l
def startBx : List Arg → List Bx
  | [] => []
  | .obj ds :: r => ⟨0, .cells (ds.map (.d true)), .rw⟩ :: startBx r
  | _ :: r => startBx r
def startEs : Nat → List Arg → List LV
  | _, [] => []
  | k, .obj _ :: r => .ref k 0 :: startEs (k + 1) r
  | k, .val x :: r => .d false x :: startEs k r
def startE (args : List Arg) (ntmps : Nat) : PEnv := fun n => match (startEs 0 args)[n]? with
  | some l => some (none, l)
  | none => if n < ntmps then some (none, .d false .undef) else none
def objsP (bx : List Bx) : Nat → List Arg → Option (List (List D))
  | _, [] => some []
  | k, .obj _ :: r => (match bx[k]? with
    | some ⟨_, .cells ls, .rw⟩ => (escCs bx ls).bind fun (ds, bx) => (objsP bx (k + 1) r).map fun o => ds :: o
    | _ => none)
  | k, .val _ :: r => objsP bx k r
def pfnW (fn : Func) (args : List Arg) (Q : D → List (List D) → Prop) : Prop := match fn.body with
  | none => False
  | some c => pwp P J H PH S c (fun x E bx => match x with
    | .exit _ => False
    | _ => resP P J S E fn.results.toList fn.resultTypes.toList bx fun l bx => evW (objsP bx 0 args) fun outs => Q (packD l) outs) (startE args fn.ntmps) (startBx args)
end
end Go.Proofs.YtlihmncbhaimkaaDoor.Am
/- The pure calculus, fourth part: what the data stand for in a heap. -/
namespace Go.Proofs.YtlihmncbhaimkaaDoor.Am
open Go Go.RowKit

def Sta.priv : Sta → Bool
  | .rw | .ro => true
  | _ => false
def Sta.alive : Sta → Bool
  | .dead => false
  | _ => true
/-- The blocks of boxes that are one's own. -/
def Pv (O : Nat → Prop) (bx : List Bx) (ρ : Nat → Option Nat) (n : Nat) : Prop := O n ∨ ∃ k b, bx[k]? = some b ∧ b.st.priv = true ∧ ρ k = some n
inductive RD (h : Heap) (p : Nat → Prop) : D → Value → Prop
  | v (x : Value) : closedV 3 x = true → isOne x = true → RD h p (.v x) x
  | agg (ds : List D) (vs : List Value) : ds.length = vs.length → vs.all isOne = true → (∀ (i : Nat) d v, ds[i]? = some d → vs[i]? = some v → RD h p d v) → RD h p (.agg ds) (.agg vs.toArray)
  | tup (ds : List D) (vs : List Value) : ds.length = vs.length → (∀ (i : Nat) d v, ds[i]? = some d → vs[i]? = some v → RD h p d v) → RD h p (.tup ds) (.tuple vs.toArray)
  | nil (z : Nat) : RD h p (.sl z 0 []) (.slice none 0 0)
  | sl (z len : Nat) (ds : List D) (b o c : Nat) (cs : List Value) (s : Nat) (g ro : Bool) : h.get b = .cells cs s g ro → ¬ p b → (s = z ∨ g = false) → len ≤ c → o + ds.length ≤ cs.length → ((cs.drop o).take ds.length).all isOne = true →
      (∀ (i : Nat) d v, ds[i]? = some d → cs[o + i]? = some v → RD h p d v) → RD h p (.sl z len ds) (.slice (some ⟨b, o, none⟩) len c)
  | we (z : Nat) (a : Option Addr) : RD h p (.slw z 0 []) (.slice a 0 0)
  | slw (z len : Nat) (ds : List D) (b o c : Nat) (cs : List Value) (s : Nat) (g ro : Bool) : h.get b = .cells cs s g ro → ¬ p b → len ≤ c → o + ds.length ≤ cs.length → ((cs.drop o).take ds.length).all isOne = true →
      (∀ (i : Nat) d v, ds[i]? = some d → cs[o + i]? = some v → RD h p d v) → RD h p (.slw z len ds) (.slice (some ⟨b, o, none⟩) len c)
  | rp (ds : List D) (i b o : Nat) (cs : List Value) (s : Nat) (g ro : Bool) : h.get b = .cells cs s g ro → ¬ p b → o + ds.length ≤ cs.length → ((cs.drop o).take ds.length).all isOne = true →
      (∀ (i : Nat) d v, ds[i]? = some d → cs[o + i]? = some v → RD h p d v) → RD h p (.rp ds i) (.pointer (some ⟨b, o + i, none⟩))
  | fn (f : Nat) (xs ys : List D) (vs us : List Value) : xs.length = vs.length → ys.length = us.length → (∀ (i : Nat) d v, xs[i]? = some d → vs[i]? = some v → RD h p d v) → (∀ (i : Nat) d v, ys[i]? = some d → us[i]? = some v → RD h p d v) →
      RD h p (.fn f xs ys) (.func (.func f) vs.toArray us.toArray)
/-- Rows of data and of values. -/
def RDs (h : Heap) (p : Nat → Prop) (ds : List D) (vs : List Value) : Prop := ds.length = vs.length ∧ ∀ (i : Nat) d v, ds[i]? = some d → vs[i]? = some v → RD h p d v
theorem RDs.nil {h : Heap} {p : Nat → Prop} : RDs h p [] [] := ⟨rfl, by simp⟩
theorem RDs.cons {h : Heap} {p : Nat → Prop} {d : D} {v : Value} {ds : List D} {vs : List Value} (a : RD h p d v) (b : RDs h p ds vs) : RDs h p (d :: ds) (v :: vs) :=
  ⟨by simp [b.1], fun i x y hx hy => by
    cases i with
    | zero => simp at hx hy; subst hx; subst hy; exact a
    | succ i => exact b.2 i x y (by simpa using hx) (by simpa using hy)⟩
theorem RDs.cons_inv {h : Heap} {p : Nat → Prop} {d : D} {ds : List D} {vs : List Value} (a : RDs h p (d :: ds) vs) : ∃ v us, vs = v :: us ∧ RD h p d v ∧ RDs h p ds us := by
  cases vs with
  | nil => have := a.1; simp at this
  | cons v us => exact ⟨v, us, rfl, a.2 0 d v rfl rfl, by simpa using a.1, fun i x y hx hy => a.2 (i + 1) x y (by simpa using hx) (by simpa using hy)⟩
theorem RDs.nil_inv {h : Heap} {p : Nat → Prop} {vs : List Value} (a : RDs h p [] vs) : vs = [] := by
  have := a.1
  cases vs with
  | nil => rfl
  | cons => simp at this
theorem RDs.append {h : Heap} {p : Nat → Prop} {ds es : List D} {vs us : List Value} (a : RDs h p ds vs) (b : RDs h p es us) : RDs h p (ds ++ es) (vs ++ us) := by
  refine ⟨by simp [a.1, b.1], fun i x y hx hy => ?_⟩
  rw [List.getElem?_append] at hx hy
  rw [← a.1] at hy
  split at hx
  · rename_i hi; rw [if_pos hi] at hy; exact a.2 _ _ _ hx hy
  · rename_i hi; rw [if_neg hi] at hy; exact b.2 _ _ _ hx hy
theorem RDs.drop {h : Heap} {p : Nat → Prop} {ds : List D} {vs : List Value} (a : RDs h p ds vs) (n : Nat) : RDs h p (ds.drop n) (vs.drop n) :=
  ⟨by simp [a.1], fun i x y hx hy => a.2 (n + i) x y (by simpa using hx) (by simpa using hy)⟩
theorem RDs.take {h : Heap} {p : Nat → Prop} {ds : List D} {vs : List Value} (a : RDs h p ds vs) (n : Nat) : RDs h p (ds.take n) (vs.take n) := by
  refine ⟨by simp [a.1], fun i x y hx hy => ?_⟩
  rw [List.getElem?_take] at hx hy
  split at hx
  · rename_i hi; rw [if_pos hi] at hy; exact a.2 _ _ _ hx hy
  · cases hx
theorem RDs.set {h : Heap} {p : Nat → Prop} {ds : List D} {vs : List Value} (a : RDs h p ds vs) (n : Nat) {d : D} {v : Value} (r : RD h p d v) : RDs h p (ds.set n d) (vs.set n v) := by
  refine ⟨by simp [a.1], fun i x y hx hy => ?_⟩
  rw [List.getElem?_set] at hx hy
  rw [← a.1] at hy
  split at hx
  · rename_i e
    rw [if_pos e] at hy
    split at hx
    · rename_i hl; rw [if_pos hl] at hy; cases hx; cases hy; exact r
    · cases hx
  · rename_i e
    rw [if_neg e] at hy
    exact a.2 _ _ _ hx hy
theorem RDs.get {h : Heap} {p : Nat → Prop} {ds : List D} {vs : List Value} (a : RDs h p ds vs) {i : Nat} {d : D} (hd : ds[i]? = some d) : ∃ v, vs[i]? = some v ∧ RD h p d v := by
  have hi : i < vs.length := by rw [← a.1]; exact (List.getElem?_eq_some_iff.1 hd).1
  exact ⟨vs[i], by simp [hi], a.2 i d _ hd (by simp [hi])⟩
theorem RDs.getv {h : Heap} {p : Nat → Prop} {ds : List D} {vs : List Value} (a : RDs h p ds vs) {i : Nat} {v : Value} (hv : vs[i]? = some v) : ∃ d, ds[i]? = some d ∧ RD h p d v := by
  have hi : i < ds.length := by rw [a.1]; exact (List.getElem?_eq_some_iff.1 hv).1
  exact ⟨ds[i], by simp [hi], a.2 i _ v (by simp [hi]) hv⟩
theorem RDs.rep {h : Heap} {p : Nat → Prop} {ds : List D} {vs : List Value} (a : RDs h p ds vs) : ∀ n, RDs h p (List.replicate n ds).flatten (List.replicate n vs).flatten
  | 0 => by simp; exact RDs.nil
  | n + 1 => by simp only [List.replicate_succ, List.flatten_cons]; exact a.append (a.rep n)

/-- A heap in which what is not one's own stands as it stood. -/
structure Keep (h : Heap) (p : Nat → Prop) (h' : Heap) (p' : Nat → Prop) : Prop where
  same : ∀ b, (h.get b).live = true → ¬ p b → h'.get b = h.get b
  own : ∀ b, (h.get b).live = true → ¬ p b → ¬ p' b
theorem Keep.refl (h : Heap) (p : Nat → Prop) : Keep h p h p := ⟨fun _ _ _ => rfl, fun _ _ h => h⟩
theorem Keep.trans {h h1 h2 : Heap} {p p1 p2 : Nat → Prop} (a : Keep h p h1 p1) (b : Keep h1 p1 h2 p2) : Keep h p h2 p2 :=
  ⟨fun n hl hp => by rw [b.same n (by rw [a.same n hl hp]; exact hl) (a.own n hl hp), a.same n hl hp], fun n hl hp => b.own n (by rw [a.same n hl hp]; exact hl) (a.own n hl hp)⟩
theorem RD.keep {h h' : Heap} {p p' : Nat → Prop} (k : Keep h p h' p') {d : D} {v : Value} (r : RD h p d v) : RD h' p' d v := by
  induction r with
  | v x h1 h2 => exact .v x h1 h2
  | agg ds vs h1 h2 _ ih => exact .agg ds vs h1 h2 ih
  | tup ds vs h1 _ ih => exact .tup ds vs h1 ih
  | nil z => exact .nil z
  | sl z len ds b o c cs s g ro h1 h2 h3 h4 h5 h6 _ ih =>
    have hl : (h.get b).live = true := by rw [h1]; rfl
    exact .sl z len ds b o c cs s g ro (by rw [k.same b hl h2]; exact h1) (k.own b hl h2) h3 h4 h5 h6 ih
  | we z a => exact .we z a
  | slw z len ds b o c cs s g ro h1 h2 h4 h5 h6 _ ih =>
    have hl : (h.get b).live = true := by rw [h1]; rfl
    exact .slw z len ds b o c cs s g ro (by rw [k.same b hl h2]; exact h1) (k.own b hl h2) h4 h5 h6 ih
  | rp ds i b o cs s g ro h1 h2 h4 h5 _ ih =>
    have hl : (h.get b).live = true := by rw [h1]; rfl
    exact .rp ds i b o cs s g ro (by rw [k.same b hl h2]; exact h1) (k.own b hl h2) h4 h5 ih
  | fn f xs ys vs us h1 h2 _ _ i1 i2 => exact .fn f xs ys vs us h1 h2 i1 i2
theorem RDs.keep {h h' : Heap} {p p' : Nat → Prop} (k : Keep h p h' p') {ds : List D} {vs : List Value} (r : RDs h p ds vs) : RDs h' p' ds vs := ⟨r.1, fun i d v hd hv => (r.2 i d v hd hv).keep k⟩

/-! ### Variables and boxes -/
def RLV (O : Nat → Prop) (h : Heap) (bx : List Bx) (ρ : Nat → Option Nat) (l : LV) (v : Value) : Prop := match l with
  | .d o x => RD h (Pv O bx ρ) x v ∧ (o = true → isOne v = true)
  | .ref k i => ∃ n, ρ k = some n ∧ v = ptr n i ∧ k < bx.length
  | .full k len => ∃ b ds, bx[k]? = some b ∧ b.ct = .row ds ∧ ds.length = len * b.z ∧ ((∃ n, ρ k = some n ∧ v = .slice (some ⟨n, 0, none⟩) len len) ∨ (ρ k = none ∧ len = 0 ∧ v = .slice none 0 0))
  | .emp _ => v = .slice none 0 0
  | .cf f xs ys => RD h (Pv O bx ρ) (.fn f xs ys) v
  | .cl x => ∃ z len ds, x = .sl z len ds ∧ ((len = 0 ∧ v = .slice none 0 0) ∨ ∃ b o cs s g ro, v = .slice (some ⟨b, o, none⟩) 0 0 ∧ h.get b = .cells cs s g ro ∧ ¬ Pv O bx ρ b ∧ (s = z ∨ g = false) ∧ o + ds.length ≤ cs.length)
/-- What a box's block holds. -/
def RC (O : Nat → Prop) (h : Heap) (bx : List Bx) (ρ : Nat → Option Nat) (b : Bx) (n : Nat) : Prop := match b.ct with
  | .cells ls => ∃ cs s g ro, h.get n = .cells cs s g ro ∧ (b.st.priv = true → ro = false) ∧ cs.length = ls.length ∧ cs.all isOne = true ∧ ∀ (i : Nat) l v, ls[i]? = some l → cs[i]? = some v → RLV O h bx ρ l v
  | .row ds => ∃ cs g ro, h.get n = .cells cs b.z g ro ∧ (b.st.priv = true → ro = false) ∧ cs.all isOne = true ∧ RDs h (Pv O bx ρ) ds cs
def cOk : Cnd → Prop
  | none => True
  | some (_, _, b) => b = true
/-- The state: the heap ahead of the function, the blocks handed in to be turned. -/
structure PR (h0 : Heap) (M O : Nat → Prop) (h : Heap) (e : Env) (E : PEnv) (bx : List Bx) (ρ : Nat → Option Nat) : Prop where
  le : h0.next ≤ h.next
  fr : ∀ b, b < h0.next → ¬ M b → h.get b = h0.get b
  lt : ∀ b, (h.get b).live = true → b < h.next
  env : ∀ n c l, E n = some (c, l) → ∃ v, e n = some v ∧ (cOk c → RLV O h bx ρ l v) ∧ (¬ cOk c → v = Go.undef)
  box : ∀ (k : Nat) b n, bx[k]? = some b → b.st.alive = true → ρ k = some n → RC O h bx ρ b n
  inj : ∀ (k k' : Nat) b b' n, bx[k]? = some b → bx[k']? = some b' → b.st.priv = true → b'.st.alive = true → ρ k = some n → ρ k' = some n → k = k'
  own : ∀ (k : Nat) b n, bx[k]? = some b → b.st.priv = true → ρ k = some n → h0.next ≤ n ∨ (M n ∧ b.z = 0 ∧ ∃ ls, b.ct = .cells ls)
  shr : ∀ (k : Nat) b n, bx[k]? = some b → b.st = .shared → ρ k = some n → h0.next ≤ n
  olt : ∀ n, O n → n < h0.next
theorem Sta.priv_alive {s : Sta} (h : s.priv = true) : s.alive = true := by cases s <;> simp_all [Sta.priv, Sta.alive]

/-- From one state of the boxes to a later one. -/
structure BStep (O : Nat → Prop) (h : Heap) (bx : List Bx) (ρ : Nat → Option Nat) (h' : Heap) (bx' : List Bx) (ρ' : Nat → Option Nat) : Prop where
  keep : Keep h (Pv O bx ρ) h' (Pv O bx' ρ')
  len : bx.length ≤ bx'.length
  ren : ∀ k, k < bx.length → ρ' k = ρ k
  row : ∀ (k : Nat) b ds, bx[k]? = some b → b.ct = .row ds → ∃ b' ds', bx'[k]? = some b' ∧ b'.ct = .row ds' ∧ b'.z = b.z ∧ ds'.length = ds.length
  ro : ∀ (k : Nat) b, bx[k]? = some b → b.st = .ro ∨ b.st = .shared → bx'[k]? = some b
  al : ∀ (k : Nat) b b', bx[k]? = some b → bx'[k]? = some b' → b'.st.alive = true → b.st.alive = true
theorem BStep.refl {O : Nat → Prop} (h : Heap) (bx : List Bx) (ρ : Nat → Option Nat) : BStep O h bx ρ h bx ρ := ⟨Keep.refl _ _, Nat.le_refl _, fun _ _ => rfl, fun _ b ds h1 h2 => ⟨b, ds, h1, h2, rfl, rfl⟩, fun _ _ h _ => h, fun _ b b' h1 h2 h3 => by rw [h1] at h2; cases h2; exact h3⟩
theorem BStep.trans {O : Nat → Prop} {h h1 h2 : Heap} {bx bx1 bx2 : List Bx} {ρ ρ1 ρ2 : Nat → Option Nat} (a : BStep O h bx ρ h1 bx1 ρ1) (b : BStep O h1 bx1 ρ1 h2 bx2 ρ2) : BStep O h bx ρ h2 bx2 ρ2 :=
  ⟨a.keep.trans b.keep, Nat.le_trans a.len b.len, fun k hk => by rw [b.ren k (Nat.lt_of_lt_of_le hk a.len), a.ren k hk], fun k x ds h1 h2 => by
    obtain ⟨y, es, h3, h4, h5, h6⟩ := a.row k x ds h1 h2
    obtain ⟨u, fs, h7, h8, h9, h10⟩ := b.row k y es h3 h4
    exact ⟨u, fs, h7, h8, h9.trans h5, h10.trans h6⟩, fun k x h1 h2 => b.ro k x (a.ro k x h1 h2) h2, fun k x y h1 h2 h3 => by
    have hk : k < bx1.length := Nat.lt_of_lt_of_le (List.getElem?_eq_some_iff.1 h1).1 a.len
    have h4 : bx1[k]? = some bx1[k] := by simp [hk]
    exact a.al k x _ h1 h4 (b.al k _ y h4 h2 h3)⟩
theorem RLV.step {O : Nat → Prop} {h h' : Heap} {bx bx' : List Bx} {ρ ρ' : Nat → Option Nat} (s : BStep O h bx ρ h' bx' ρ') {l : LV} {v : Value} (r : RLV O h bx ρ l v) : RLV O h' bx' ρ' l v := by
  cases l with
  | d o x => exact ⟨RD.keep s.keep r.1, r.2⟩
  | ref k i =>
    obtain ⟨n, h1, h2, h3⟩ := r
    exact ⟨n, by rw [s.ren k h3]; exact h1, h2, Nat.lt_of_lt_of_le h3 s.len⟩
  | full k len =>
    obtain ⟨b, ds, h1, h2, h3, h4⟩ := r
    obtain ⟨b', ds', g1, g2, g3, g4⟩ := s.row k b ds h1 h2
    have hk := (List.getElem?_eq_some_iff.1 h1).1
    exact ⟨b', ds', g1, g2, by rw [g3, g4]; exact h3, by rw [s.ren k hk]; exact h4⟩
  | emp z => exact r
  | cf f xs ys => exact RD.keep s.keep r
  | cl x =>
    obtain ⟨z, len, ds, h1, h2⟩ := r
    refine ⟨z, len, ds, h1, h2.imp id ?_⟩
    rintro ⟨b, o, cs, sz, g, ro, k1, k2, k3, k4, k5⟩
    have hl : (h.get b).live = true := by rw [k2]; rfl
    exact ⟨b, o, cs, sz, g, ro, k1, by rw [s.keep.same b hl k3]; exact k2, s.keep.own b hl k3, k4, k5⟩
end Go.Proofs.YtlihmncbhaimkaaDoor.Am
/- The pure calculus, fifth part: giving away; new boxes; stores. -/
namespace Go.Proofs.YtlihmncbhaimkaaDoor.Am
open Go Go.RowKit

section
variable {h0 h h' : Heap} {M O : Nat → Prop} {e : Env} {E : PEnv} {bx bx' : List Bx} {ρ ρ' : Nat → Option Nat}
theorem RC.step (s : BStep O h bx ρ h' bx' ρ') {b : Bx} {n : Nat} (hn : h'.get n = h.get n) (r : RC O h bx ρ b n) : RC O h' bx' ρ' b n := by
  unfold RC at r ⊢
  split at r
  · obtain ⟨cs, sz, g, ro, h1, h2, h3, h4, h5⟩ := r
    exact ⟨cs, sz, g, ro, by rw [hn]; exact h1, h2, h3, h4, fun i l v hl hv => (h5 i l v hl hv).step s⟩
  · obtain ⟨cs, g, ro, h1, h2, h3, h4⟩ := r
    exact ⟨cs, g, ro, by rw [hn]; exact h1, h2, h3, h4.keep s.keep⟩
theorem PR.live (pr : PR h0 M O h e E bx ρ) {k : Nat} {b : Bx} {n : Nat} (hb : bx[k]? = some b) (ha : b.st.alive = true) (hn : ρ k = some n) : (h.get n).live = true := by
  have := pr.box k b n hb ha hn
  unfold RC at this
  split at this
  · obtain ⟨cs, sz, g, ro, h1, _⟩ := this; rw [h1]; rfl
  · obtain ⟨cs, g, ro, h1, _⟩ := this; rw [h1]; rfl
/-- The table of boxes turns; the heap does not. -/
theorem PR.table (pr : PR h0 M O h e E bx ρ) (hl : bx'.length = bx.length) (hro : ∀ (k : Nat) b, bx[k]? = some b → b.st = .ro ∨ b.st = .shared → bx'[k]? = some b) (hp : ∀ (k : Nat) b', bx'[k]? = some b' → ∃ b, bx[k]? = some b ∧ (b'.st.priv = true → b.st.priv = true) ∧ (b'.st.alive = true → b.st.alive = true) ∧ (∀ ds, b.ct = .row ds → b'.ct = .row ds ∧ b'.z = b.z) ∧ (b'.st.priv = true → ∀ ls, b.ct = .cells ls → b.z = 0 → b'.z = 0 ∧ ∃ ls, b'.ct = .cells ls) ∧ (b'.st = .shared → b.st = .shared ∨ (b.st.priv = true ∧ (b.z ≠ 0 ∨ ∃ ds, b.ct = .row ds))))
    (hr : ∀ (k : Nat) b' n, bx'[k]? = some b' → b'.st.alive = true → ρ k = some n → BStep O h bx ρ h bx' ρ → RC O h bx' ρ b' n) : PR h0 M O h e E bx' ρ ∧ BStep O h bx ρ h bx' ρ := by
  have s : BStep O h bx ρ h bx' ρ := by
    refine ⟨⟨fun _ _ _ => rfl, fun b hl hb => ?_⟩, by omega, fun _ _ => rfl, fun k b ds h1 h2 => ?_, hro, fun k b b' h1 h2 h3 => ?_⟩
    · rintro (ho | ⟨k, b', h1, h2, h3⟩)
      · exact hb (.inl ho)
      · obtain ⟨b0, g1, g2, _⟩ := hp k b' h1
        exact hb (.inr ⟨k, b0, g1, g2 h2, h3⟩)
    · have hk := (List.getElem?_eq_some_iff.1 h1).1
      have h3 : bx'[k]? = some bx'[k] := by simp [hl, hk]
      obtain ⟨b0, g1, _, _, g4, _⟩ := hp k _ h3
      rw [g1] at h1
      cases h1
      exact ⟨_, ds, h3, (g4 ds h2).1, (g4 ds h2).2, rfl⟩
    · obtain ⟨b0, g1, _, g3, _⟩ := hp k b' h2
      rw [h1] at g1
      cases g1
      exact g3 h3
  refine ⟨⟨pr.le, pr.fr, pr.lt, fun n c l hn => ?_, fun k b n h1 h2 h3 => hr k b n h1 h2 h3 s, fun k k' b b' n h1 h2 h3 h4 h5 h6 => ?_, fun k b n h1 h2 h3 => ?_, fun k b n h1 h2 h3 => ?_, pr.olt⟩, s⟩
  · obtain ⟨v, h1, h2⟩ := pr.env n c l hn
    exact ⟨v, h1, fun hc => (h2.1 hc).step s, h2.2⟩
  · obtain ⟨b0, g1, g2, _⟩ := hp k b h1
    obtain ⟨b0', g1', _, g3', _⟩ := hp k' b' h2
    exact pr.inj k k' b0 b0' n g1 g1' (g2 h3) (g3' h4) h5 h6
  · obtain ⟨b0, g1, g2, _, _, g5, _⟩ := hp k b h1
    rcases pr.own k b0 n g1 (g2 h2) h3 with h4 | ⟨h4, h5, ls, h6⟩
    · exact .inl h4
    · exact .inr ⟨h4, g5 h2 ls h6 h5⟩
  · obtain ⟨b0, g1, g2, _, _, _, g6⟩ := hp k b h1
    rcases g6 h2 with h4 | ⟨h4, h5⟩
    · exact pr.shr k b0 n g1 h4 h3
    · rcases pr.own k b0 n g1 h4 h3 with h6 | ⟨_, h7, ls, h8⟩
      · exact h6
      · rcases h5 with h5 | ⟨ds, h5⟩
        · exact absurd h7 h5
        · rw [h8] at h5; cases h5
theorem set_at {α : Type} {l : List α} {k j : Nat} {b c : α} (h : (l.set k b)[j]? = some c) : (j = k ∧ c = b ∧ k < l.length) ∨ (j ≠ k ∧ l[j]? = some c) := by
  by_cases hjk : j = k
  · subst hjk
    have hj : j < l.length := by have := (List.getElem?_eq_some_iff.1 h).1; simpa using this
    rw [List.getElem?_set_self hj] at h
    cases h
    exact .inl ⟨rfl, rfl, hj⟩
  · rw [List.getElem?_set_ne (fun e => hjk e.symm)] at h
    exact .inr ⟨hjk, h⟩
theorem set_self {α : Type} {l : List α} {k : Nat} {b c : α} (h : l[k]? = some c) : (l.set k b)[k]? = some b := List.getElem?_set_self (List.getElem?_eq_some_iff.1 h).1
/-- One box turns. -/
theorem PR.setBx (pr : PR h0 M O h e E bx ρ) {k : Nat} {b b' : Bx} (hb : bx[k]? = some b) (hnr : ¬(b.st = .ro ∨ b.st = .shared)) (h1 : b'.st.priv = true → b.st.priv = true) (h2 : b'.st.alive = true → b.st.alive = true) (h3 : ∀ ds, b.ct = .row ds → b'.ct = .row ds ∧ b'.z = b.z) (h4 : b'.st.priv = true → ∀ ls, b.ct = .cells ls → b.z = 0 → b'.z = 0 ∧ ∃ ls, b'.ct = .cells ls) (h5 : b'.st = .shared → b.st = .shared ∨ (b.st.priv = true ∧ (b.z ≠ 0 ∨ ∃ ds, b.ct = .row ds)))
    (hr : ∀ n, b'.st.alive = true → ρ k = some n → BStep O h bx ρ h (bx.set k b') ρ → RC O h (bx.set k b') ρ b' n) : PR h0 M O h e E (bx.set k b') ρ ∧ BStep O h bx ρ h (bx.set k b') ρ := by
  refine pr.table (by simp) (fun j c hj hc => by
    by_cases hjk : j = k
    · subst hjk; rw [hb] at hj; cases hj; exact absurd hc hnr
    · rw [List.getElem?_set_ne (fun e => hjk e.symm)]; exact hj) (fun j c hj => ?_) (fun j c n hj ha hn s => ?_)
  · rcases set_at hj with ⟨rfl, rfl, _⟩ | ⟨_, hj⟩
    · exact ⟨b, hb, h1, h2, h3, h4, h5⟩
    · exact ⟨c, hj, id, id, fun ds hd => ⟨hd, rfl⟩, fun _ ls hl hz => ⟨hz, ls, hl⟩, fun h => .inl h⟩
  · rcases set_at hj with ⟨rfl, rfl, _⟩ | ⟨_, hj⟩
    · exact hr n ha hn s
    · exact (pr.box j c n hj ha hn).step s rfl
/-- What freezing comes to. -/
theorem frz_sound (pr : PR h0 M O h e E bx ρ) {k : Nat} {ds : List D} (hf : frz bx k = some (ds, bx')) : PR h0 M O h e E bx' ρ ∧ BStep O h bx ρ h bx' ρ ∧ ∃ z, (∃ st, bx[k]? = some ⟨z, .row ds, st⟩) ∧ bx'[k]? = some ⟨z, .row ds, .shared⟩ := by
  unfold frz at hf
  split at hf
  · rename_i z ds' hb
    cases hf
    exact ⟨pr, BStep.refl _ _ _, z, ⟨_, hb⟩, hb⟩
  · rename_i z ds' hb
    cases hf
    obtain ⟨p1, p2⟩ := pr.setBx (b' := ⟨z, .row ds, .shared⟩) hb (by simp) (fun h => by cases h) (fun _ => rfl) (fun es he => ⟨he, rfl⟩) (fun h => by cases h) (fun _ => .inr ⟨rfl, .inr ⟨_, rfl⟩⟩) (fun n ha hn s => by
      have r := (pr.box k _ n hb rfl hn).step s rfl
      obtain ⟨cs, g, ro, h1, h2, h3, h4⟩ := r
      exact ⟨cs, g, ro, h1, (fun h => by cases h), h3, h4⟩)
    exact ⟨p1, p2, z, ⟨_, hb⟩, set_self hb⟩
  · cases hf
/-- A shared row's block is no longer one's own. -/
theorem PR.shared (pr : PR h0 M O h e E bx ρ) {k : Nat} {b : Bx} {n : Nat} (hb : bx[k]? = some b) (hs : b.st = .shared) (hn : ρ k = some n) : ¬ Pv O bx ρ n := by
  rintro (ho | ⟨j, c, h1, h2, h3⟩)
  · have := pr.olt n ho
    have := pr.shr k b n hb hs hn
    omega
  have := pr.inj j k c b n h1 hb h2 (by rw [hs]; rfl) h3 hn
  subst this
  rw [hb] at h1
  cases h1
  rw [hs] at h2
  cases h2
theorem all_take_drop {cs : List Value} (h : cs.all isOne = true) (o n : Nat) : ((cs.drop o).take n).all isOne = true := by
  rw [List.all_eq_true] at h ⊢
  exact fun v hv => h v (List.mem_of_mem_drop (List.mem_of_mem_take hv))
theorem escC_sound (pr : PR h0 M O h e E bx ρ) {l : LV} {x : D} (hf : escC bx l = some (x, bx')) : PR h0 M O h e E bx' ρ ∧ BStep O h bx ρ h bx' ρ ∧ ∀ v, RLV O h bx ρ l v → RD h (Pv O bx' ρ) x v := by
  unfold escC at hf
  split at hf
  · cases hf; exact ⟨pr, BStep.refl _ _ _, fun v r => r.1⟩
  · cases hf; exact ⟨pr, BStep.refl _ _ _, fun v r => r⟩
  · rename_i z
    cases hf
    refine ⟨pr, BStep.refl _ _ _, fun v r => ?_⟩
    change v = _ at r
    subst r
    exact .nil z
  · rename_i k len
    split at hf
    · rename_i b hb
      obtain ⟨⟨ds, bx1⟩, h1, h2⟩ := map_inv hf
      cases h2
      obtain ⟨p1, p2, z, ⟨st, h3⟩, h4⟩ := frz_sound pr h1
      rw [hb] at h3
      cases h3
      refine ⟨p1, p2, fun v r => ?_⟩
      obtain ⟨b', ds', g1, g2, g3, g4⟩ := r
      rw [hb] at g1
      cases g1
      simp only [Ct.row.injEq] at g2
      subst g2
      rcases g4 with ⟨n, g4, rfl⟩ | ⟨g4, g5, rfl⟩
      · obtain ⟨cs, g, ro, r1, r2, r3, r4⟩ := p1.box k _ n h4 rfl g4
        exact .sl _ _ _ _ _ _ cs _ g ro r1 (p1.shared h4 rfl g4) (.inl rfl) (Nat.le_refl _) (by rw [Nat.zero_add, r4.1]; exact Nat.le_refl _) (all_take_drop r3 _ _) (fun i d v hd hv => r4.2 i d v hd (by simpa using hv))
      · subst g5
        have : ds = [] := List.eq_nil_of_length_eq_zero (by simpa using g3)
        subst this
        exact .nil _
    · cases hf
  · cases hf
set_option linter.unusedVariables false in
theorem escCs_sound : ∀ {ls : List LV} {bx bx' : List Bx} {xs : List D} (pr : PR h0 M O h e E bx ρ) (hf : escCs bx ls = some (xs, bx')), PR h0 M O h e E bx' ρ ∧ BStep O h bx ρ h bx' ρ ∧ xs.length = ls.length ∧ ∀ (i : Nat) l x v, ls[i]? = some l → xs[i]? = some x → RLV O h bx ρ l v → RD h (Pv O bx' ρ) x v
  | [], bx, bx', xs, pr, hf => by
    unfold escCs at hf
    cases hf
    exact ⟨pr, BStep.refl _ _ _, rfl, by simp⟩
  | l :: ls, bx, bx', xs, pr, hf => by
    unfold escCs at hf
    obtain ⟨⟨x, bx1⟩, h1, hf⟩ := bind_inv hf
    obtain ⟨⟨ys, bx2⟩, h2, h3⟩ := map_inv hf
    cases h3
    obtain ⟨p1, s1, r1⟩ := escC_sound pr h1
    obtain ⟨p2, s2, l2, r2⟩ := escCs_sound p1 h2
    refine ⟨p2, s1.trans s2, by simp [l2], fun i l' x' v hl hx hr => ?_⟩
    cases i with
    | zero =>
      simp at hl hx
      subst hl; subst hx
      exact (r1 v hr).keep s2.keep
    | succ i => exact r2 i l' x' v (by simpa using hl) (by simpa using hx) (hr.step s1)
theorem RD.rp_of {p : Nat → Prop} {ds : List D} {i n : Nat} {cs : List Value} {s : Nat} {g ro : Bool} (h1 : h.get n = .cells cs s g ro) (hp : ¬ p n) (hl : cs.length = ds.length) (h3 : cs.all isOne = true) (hr : ∀ (i : Nat) d v, ds[i]? = some d → cs[i]? = some v → RD h p d v) : RD h p (.rp ds i) (ptr n i) := by
  have := RD.rp ds i n 0 cs s g ro h1 hp (by omega) (all_take_drop h3 _ _) (fun j d v hd hv => hr j d v hd (by simpa using hv))
  rwa [Nat.zero_add] at this
theorem esc_sound (pr : PR h0 M O h e E bx ρ) {l : LV} {x : D} (hf : esc bx l = some (x, bx')) : PR h0 M O h e E bx' ρ ∧ BStep O h bx ρ h bx' ρ ∧ ∀ v, RLV O h bx ρ l v → RD h (Pv O bx' ρ) x v := by
  unfold esc at hf
  split at hf
  · rename_i k i
    split at hf
    · rename_i z ls hb
      obtain ⟨⟨ds, bx1⟩, h1, hf⟩ := bind_inv hf
      simp only at hf
      split at hf
      · rename_i z1 ct1 hb1
        cases hf
        obtain ⟨p1, s1, l1, r1⟩ := escCs_sound pr h1
        have hcell : ∀ n, ρ k = some n → ∃ cs sz g ro, h.get n = .cells cs sz g ro ∧ cs.length = ds.length ∧ cs.all isOne = true ∧ ∀ (i : Nat) d v, ds[i]? = some d → cs[i]? = some v → RD h (Pv O bx1 ρ) d v := fun n hn => by
          obtain ⟨cs, sz, g, ro, c1, c2, c3, c4, c5⟩ := pr.box k _ n hb rfl hn
          refine ⟨cs, sz, g, ro, c1, by rw [c3, l1], c4, fun j d v hd hv => ?_⟩
          have hj : j < ls.length := by rw [← c3]; exact (List.getElem?_eq_some_iff.1 hv).1
          exact r1 j ls[j] d v (by simp [hj]) hd (c5 j ls[j] v (by simp [hj]) hv)
        obtain ⟨p2, s2⟩ := p1.setBx (b' := ⟨z + 1, .cells (ds.map (.d true)), .shared⟩) hb1 (by simp) (fun h => by cases h) (fun _ => rfl) (fun es he => by cases he) (fun h => by cases h) (fun _ => .inr ⟨rfl, .inl (by simp)⟩) (fun n ha hn s => by
          obtain ⟨cs, sz, g, ro, c1, c2, c3, c4⟩ := hcell n hn
          refine ⟨cs, sz, g, ro, c1, (fun h => by cases h), by simpa using c2, c3, fun j l v hl hv => ?_⟩
          rw [List.getElem?_map] at hl
          obtain ⟨d, hd, rfl⟩ := map_inv hl
          exact ⟨RD.keep s.keep (c4 j d v hd hv), fun _ => List.all_eq_true.1 c3 v (List.mem_of_getElem? hv)⟩)
        refine ⟨p2, s1.trans s2, fun v r => ?_⟩
        obtain ⟨n, r1, rfl, r3⟩ := r
        obtain ⟨cs, sz, g, ro, c1, c2, c3, c4⟩ := hcell n r1
        exact RD.rp_of c1 (p2.shared (set_self hb1) rfl r1) c2 c3 (fun j d v hd hv => (c4 j d v hd hv).keep s2.keep)
      · cases hf
    · rename_i z ls hb
      obtain ⟨⟨ds, bx1⟩, h1, h2⟩ := map_inv hf
      cases h2
      obtain ⟨p1, s1, l1, r1⟩ := escCs_sound pr h1
      refine ⟨p1, s1, fun v r => ?_⟩
      obtain ⟨n, q1, rfl, q3⟩ := r
      obtain ⟨cs, sz, g, ro, c1, c2, c3, c4, c5⟩ := pr.box k _ n hb rfl q1
      have hp : ¬ Pv O bx' ρ n := s1.keep.own n (by rw [c1]; rfl) (pr.shared hb rfl q1)
      exact RD.rp_of c1 hp (by rw [c3, l1]) c4 (fun j d v hd hv => by
        have hj : j < ls.length := by rw [← c3]; exact (List.getElem?_eq_some_iff.1 hv).1
        exact r1 j ls[j] d v (by simp [hj]) hd (c5 j ls[j] v (by simp [hj]) hv))
    · obtain ⟨⟨ds, bx1⟩, h1, h2⟩ := map_inv hf
      cases h2
      obtain ⟨p1, s1, z, ⟨st, h3⟩, h4⟩ := frz_sound pr h1
      refine ⟨p1, s1, fun v r => ?_⟩
      obtain ⟨n, r1, rfl, r3⟩ := r
      obtain ⟨cs, g, ro, c1, c2, c3, c4⟩ := p1.box k _ n h4 rfl r1
      exact RD.rp_of c1 (p1.shared h4 rfl r1) c4.1.symm c3 c4.2
  · exact escC_sound pr hf
end
end Go.Proofs.YtlihmncbhaimkaaDoor.Am
/- The pure calculus, sixth part: new boxes, boxes that turn, boxes that die. -/
namespace Go.Proofs.YtlihmncbhaimkaaDoor.Am
open Go Go.RowKit

def rput (ρ : Nat → Option Nat) (k : Nat) (x : Option Nat) : Nat → Option Nat := fun j => if j = k then x else ρ j
theorem rput_self (ρ : Nat → Option Nat) (k : Nat) (x : Option Nat) : rput ρ k x k = x := by simp [rput]
theorem rput_ne {ρ : Nat → Option Nat} {k j : Nat} {x : Option Nat} (h : j ≠ k) : rput ρ k x j = ρ j := by simp [rput, h]
theorem app_at {α : Type} {l : List α} {b c : α} {k : Nat} (h : (l ++ [b])[k]? = some c) : (k < l.length ∧ l[k]? = some c) ∨ (k = l.length ∧ c = b) := by
  rw [List.getElem?_append] at h
  split at h
  · rename_i hk; exact .inl ⟨hk, h⟩
  · rename_i hk
    have : k - l.length < 1 := by have := (List.getElem?_eq_some_iff.1 h).1; simpa using this
    have e : k - l.length = 0 := by omega
    rw [e] at h
    simp at h
    exact .inr ⟨by omega, h.symm⟩
section
variable {h0 h h' : Heap} {M O : Nat → Prop} {e : Env} {E : PEnv} {bx bx' : List Bx} {ρ ρ' : Nat → Option Nat}
/-- A new box; it may have no block. -/
theorem PR.new (pr : PR h0 M O h e E bx ρ) {b : Bx} {n : Nat} (hn0 : h0.next ≤ n) (hd : (h.get n).live = false) (hs : ∀ m, m ≠ n → h'.get m = h.get m) (hx : h.next ≤ h'.next) (hn : n < h'.next)
    (hst : b.st = .rw) (hr : BStep O h bx ρ h' (bx ++ [b]) (rput ρ bx.length (some n)) → RC O h' (bx ++ [b]) (rput ρ bx.length (some n)) b n) :
    PR h0 M O h' e E (bx ++ [b]) (rput ρ bx.length (some n)) ∧ BStep O h bx ρ h' (bx ++ [b]) (rput ρ bx.length (some n)) := by
  have hlt : ∀ {k : Nat} {c : Bx}, bx[k]? = some c → rput ρ bx.length (some n) k = ρ k := fun hk => rput_ne (by have := (List.getElem?_eq_some_iff.1 hk).1; omega)
  have s : BStep O h bx ρ h' (bx ++ [b]) (rput ρ bx.length (some n)) := by
    refine ⟨⟨fun m hl _ => hs m (fun e => by subst e; rw [hd] at hl; cases hl), fun m hl hp => ?_⟩, by simp, fun k hk => rput_ne (by omega), fun k c ds h1 h2 => ?_, fun k c h1 _ => by rw [List.getElem?_append_left (List.getElem?_eq_some_iff.1 h1).1]; exact h1, fun k c c' h1 h2 h3 => by rw [List.getElem?_append_left (List.getElem?_eq_some_iff.1 h1).1, h1] at h2; cases h2; exact h3⟩
    · rintro (ho | ⟨k, c, h1, h2, h3⟩)
      · exact hp (.inl ho)
      · rcases app_at h1 with ⟨hk, h1⟩ | ⟨rfl, rfl⟩
        · rw [hlt h1] at h3; exact hp (.inr ⟨k, c, h1, h2, h3⟩)
        · rw [rput_self] at h3; cases h3; rw [hd] at hl; cases hl
    · have hk := (List.getElem?_eq_some_iff.1 h1).1
      exact ⟨c, ds, by rw [List.getElem?_append_left hk]; exact h1, h2, rfl, rfl⟩
  have hold : ∀ {k : Nat} {c : Bx} {m : Nat}, bx[k]? = some c → c.st.alive = true → ρ k = some m → m ≠ n := fun h1 h2 h3 e => by
    subst e
    have := pr.live h1 h2 h3
    rw [hd] at this; cases this
  refine ⟨⟨Nat.le_trans pr.le hx, fun m hm hM => by rw [hs m (by omega)]; exact pr.fr m hm hM, fun m hl => ?_, fun j c l hj => ?_, fun k c m h1 h2 h3 => ?_, fun k k' c c' m h1 h2 h3 h4 h5 h6 => ?_, fun k c m h1 h2 h3 => ?_, fun k c m h1 h2 h3 => ?_, pr.olt⟩, s⟩
  · by_cases hm : m = n
    · subst hm; exact hn
    · rw [hs m hm] at hl
      exact Nat.lt_of_lt_of_le (pr.lt m hl) hx
  · obtain ⟨v, h1, h2⟩ := pr.env j c l hj
    exact ⟨v, h1, fun hc => (h2.1 hc).step s, h2.2⟩
  · rcases app_at h1 with ⟨hk, h1⟩ | ⟨rfl, rfl⟩
    · rw [hlt h1] at h3
      exact (pr.box k c m h1 h2 h3).step s (hs m (hold h1 h2 h3))
    · rw [rput_self] at h3; cases h3; exact hr s
  · rcases app_at h1 with ⟨hk, g1⟩ | ⟨k1, c1⟩
    · rw [hlt g1] at h5
      rcases app_at h2 with ⟨hk', g2⟩ | ⟨k2, c2⟩
      · rw [hlt g2] at h6; exact pr.inj k k' c c' m g1 g2 h3 h4 h5 h6
      · rw [k2, rput_self] at h6; cases h6; exact absurd rfl (hold g1 (Sta.priv_alive h3) h5)
    · rw [k1, rput_self] at h5; cases h5
      rcases app_at h2 with ⟨hk', g2⟩ | ⟨k2, c2⟩
      · rw [hlt g2] at h6; exact absurd rfl (hold g2 h4 h6)
      · rw [k1, k2]
  · rcases app_at h1 with ⟨hk, h1⟩ | ⟨rfl, rfl⟩
    · rw [hlt h1] at h3; exact pr.own k c m h1 h2 h3
    · rw [rput_self] at h3; cases h3; exact .inl hn0
  · rcases app_at h1 with ⟨hk, h1⟩ | ⟨rfl, rfl⟩
    · rw [hlt h1] at h3; exact pr.shr k c m h1 h2 h3
    · rw [hst] at h2; cases h2
theorem PR.new0 (pr : PR h0 M O h e E bx ρ) {b : Bx} : PR h0 M O h e E (bx ++ [b]) (rput ρ bx.length none) ∧ BStep O h bx ρ h (bx ++ [b]) (rput ρ bx.length none) := by
  have hlt : ∀ {k : Nat} {c : Bx}, bx[k]? = some c → rput ρ bx.length none k = ρ k := fun hk => rput_ne (by have := (List.getElem?_eq_some_iff.1 hk).1; omega)
  have s : BStep O h bx ρ h (bx ++ [b]) (rput ρ bx.length none) := by
    refine ⟨⟨fun m hl _ => rfl, fun m hl hp => ?_⟩, by simp, fun k hk => rput_ne (by omega), fun k c ds h1 h2 => ?_, fun k c h1 _ => by rw [List.getElem?_append_left (List.getElem?_eq_some_iff.1 h1).1]; exact h1, fun k c c' h1 h2 h3 => by rw [List.getElem?_append_left (List.getElem?_eq_some_iff.1 h1).1, h1] at h2; cases h2; exact h3⟩
    · rintro (ho | ⟨k, c, h1, h2, h3⟩)
      · exact hp (.inl ho)
      · rcases app_at h1 with ⟨hk, h1⟩ | ⟨rfl, rfl⟩
        · rw [hlt h1] at h3; exact hp (.inr ⟨k, c, h1, h2, h3⟩)
        · rw [rput_self] at h3; cases h3
    · have hk := (List.getElem?_eq_some_iff.1 h1).1
      exact ⟨c, ds, by rw [List.getElem?_append_left hk]; exact h1, h2, rfl, rfl⟩
  refine ⟨⟨pr.le, pr.fr, pr.lt, fun j c l hj => ?_, fun k c m h1 h2 h3 => ?_, fun k k' c c' m h1 h2 h3 h4 h5 h6 => ?_, fun k c m h1 h2 h3 => ?_, fun k c m h1 h2 h3 => ?_, pr.olt⟩, s⟩
  · obtain ⟨v, h1, h2⟩ := pr.env j c l hj
    exact ⟨v, h1, fun hc => (h2.1 hc).step s, h2.2⟩
  · rcases app_at h1 with ⟨hk, h1⟩ | ⟨rfl, rfl⟩
    · rw [hlt h1] at h3
      exact (pr.box k c m h1 h2 h3).step s rfl
    · rw [rput_self] at h3; cases h3
  · rcases app_at h1 with ⟨hk, h1⟩ | ⟨rfl, rfl⟩
    · rw [hlt h1] at h5
      rcases app_at h2 with ⟨hk', h2⟩ | ⟨rfl, rfl⟩
      · rw [hlt h2] at h6; exact pr.inj k k' c c' m h1 h2 h3 h4 h5 h6
      · rw [rput_self] at h6; cases h6
    · rw [rput_self] at h5; cases h5
  · rcases app_at h1 with ⟨hk, h1⟩ | ⟨rfl, rfl⟩
    · rw [hlt h1] at h3; exact pr.own k c m h1 h2 h3
    · rw [rput_self] at h3; cases h3
  · rcases app_at h1 with ⟨hk, h1⟩ | ⟨rfl, rfl⟩
    · rw [hlt h1] at h3; exact pr.shr k c m h1 h2 h3
    · rw [rput_self] at h3; cases h3
/-- A box of one's own turns, or dies. -/
theorem PR.put (pr : PR h0 M O h e E bx ρ) {k n : Nat} {b b' : Bx} (hb : bx[k]? = some b) (hnr : ¬(b.st = .ro ∨ b.st = .shared)) (hp : b.st.priv = true) (hk : ρ k = some n) (hs : ∀ m, m ≠ n → h'.get m = h.get m) (hx : h'.next = h.next)
    (hst : b'.st = b.st ∨ b'.st = .dead) (hz : b'.z = b.z) (hc : (∃ ls ls', b.ct = .cells ls ∧ b'.ct = .cells ls') ∨ ∃ ds ds', b.ct = .row ds ∧ b'.ct = .row ds' ∧ ds'.length = ds.length)
    (hr : b'.st.alive = true → BStep O h bx ρ h' (bx.set k b') ρ → RC O h' (bx.set k b') ρ b' n) : PR h0 M O h' e E (bx.set k b') ρ ∧ BStep O h bx ρ h' (bx.set k b') ρ := by
  have hown : Pv O bx ρ n := .inr ⟨k, b, hb, hp, hk⟩
  have hlive : (h.get n).live = true := pr.live hb (Sta.priv_alive hp) hk
  have s : BStep O h bx ρ h' (bx.set k b') ρ := by
    refine ⟨⟨fun m hl hm => hs m (fun e => by subst e; exact hm hown), fun m hl hm => ?_⟩, by simp, fun _ _ => rfl, fun j c ds h1 h2 => ?_, fun j c hj hc => by
      by_cases hjk : j = k
      · subst hjk; rw [hb] at hj; cases hj; exact absurd hc hnr
      · rw [List.getElem?_set_ne (fun e => hjk e.symm)]; exact hj, fun j c c' h1 h2 h3 => by
      rcases set_at h2 with ⟨rfl, rfl, _⟩ | ⟨_, h2⟩
      · rw [hb] at h1; cases h1; exact Sta.priv_alive hp
      · rw [h1] at h2; cases h2; exact h3⟩
    · rintro (ho | ⟨j, c, h1, h2, h3⟩)
      · exact hm (.inl ho)
      · rcases set_at h1 with ⟨rfl, rfl, _⟩ | ⟨_, h1⟩
        · exact hm (.inr ⟨_, b, hb, hp, h3⟩)
        · exact hm (.inr ⟨j, c, h1, h2, h3⟩)
    · by_cases hj : j = k
      · subst hj
        rw [hb] at h1
        cases h1
        rcases hc with ⟨ls, ls', g1, g2⟩ | ⟨es, es', g1, g2, g3⟩
        · rw [g1] at h2; cases h2
        · rw [g1] at h2; cases h2; exact ⟨b', es', set_self hb, g2, hz, g3⟩
      · exact ⟨c, ds, by rw [List.getElem?_set_ne (fun e => hj e.symm)]; exact h1, h2, rfl, rfl⟩
  have hne : ∀ {j : Nat} {c : Bx} {m : Nat}, j ≠ k → bx[j]? = some c → c.st.alive = true → ρ j = some m → m ≠ n := fun hj h1 h2 h3 e => by
    subst e
    exact hj (pr.inj k _ b _ _ hb h1 hp h2 hk h3).symm
  have hpriv : b'.st.priv = true → b.st.priv = true := fun _ => hp
  refine ⟨⟨by rw [hx]; exact pr.le, fun m hm hM => ?_, fun m hl => ?_, fun j c l hj => ?_, fun j c m h1 h2 h3 => ?_, fun j j' c c' m h1 h2 h3 h4 h5 h6 => ?_, fun j c m h1 h2 h3 => ?_, fun j c m h1 h2 h3 => ?_, pr.olt⟩, s⟩
  · rw [hs m (fun e => by
      subst e
      rcases pr.own k b m hb hp hk with h1 | ⟨h1, _⟩
      · omega
      · exact hM h1)]
    exact pr.fr m hm hM
  · rw [hx]
    by_cases hm : m = n
    · subst hm; exact pr.lt m hlive
    · rw [hs m hm] at hl; exact pr.lt m hl
  · obtain ⟨v, h1, h2⟩ := pr.env j c l hj
    exact ⟨v, h1, fun hc => (h2.1 hc).step s, h2.2⟩
  · rcases set_at h1 with ⟨rfl, rfl, _⟩ | ⟨hj, h1⟩
    · rw [hk] at h3; cases h3; exact hr h2 s
    · exact (pr.box j c m h1 h2 h3).step s (hs m (hne hj h1 h2 h3))
  · rcases set_at h1 with ⟨k1, c1, _⟩ | ⟨hj, g1⟩
    · rcases set_at h2 with ⟨k2, c2, _⟩ | ⟨hj', g2⟩
      · rw [k1, k2]
      · rw [k1] at h5 ⊢; exact pr.inj _ j' b c' m hb g2 hp h4 h5 h6
    · rcases set_at h2 with ⟨k2, c2, _⟩ | ⟨hj', g2⟩
      · rw [k2] at h6 ⊢; exact pr.inj j _ c b m g1 hb h3 (Sta.priv_alive hp) h5 h6
      · exact pr.inj j j' c c' m g1 g2 h3 h4 h5 h6
  · rcases set_at h1 with ⟨rfl, rfl, _⟩ | ⟨hj, h1⟩
    · rcases pr.own _ b m hb hp h3 with h4 | ⟨h4, h5, ls, h6⟩
      · exact .inl h4
      · refine .inr ⟨h4, hz.trans h5, ?_⟩
        rcases hc with ⟨_, ls', _, g2⟩ | ⟨es, es', g1, _⟩
        · exact ⟨ls', g2⟩
        · rw [g1] at h6; cases h6
    · exact pr.own j c m h1 h2 h3
  · rcases set_at h1 with ⟨rfl, rfl, _⟩ | ⟨hj, h1⟩
    · rcases hst with h4 | h4
      · rw [h4] at h2; rw [h2] at hp; cases hp
      · rw [h4] at h2; cases h2
    · exact pr.shr j c m h1 h2 h3
/-- A box dies; its block stands. -/
theorem PR.die (pr : PR h0 M O h e E bx ρ) {k : Nat} {b : Bx} (hb : bx[k]? = some b) (hnr : ¬(b.st = .ro ∨ b.st = .shared)) : PR h0 M O h e E (bx.set k ⟨b.z, b.ct, .dead⟩) ρ ∧ BStep O h bx ρ h (bx.set k ⟨b.z, b.ct, .dead⟩) ρ :=
  pr.setBx hb hnr (fun h => by cases h) (fun h => by cases h) (fun ds hd => ⟨hd, rfl⟩) (fun h => by cases h) (fun h => by cases h) (fun n ha => by cases ha)
end
end Go.Proofs.YtlihmncbhaimkaaDoor.Am
/- The pure calculus, seventh part: operations on data are operations on values. -/
namespace Go.Proofs.YtlihmncbhaimkaaDoor.Am
open Go Go.RowKit

section
variable {P : Program} {h : Heap} {p : Nat → Prop}
def scal (v : Value) : Bool := closedV 3 v && isOne v
theorem scal_rd {v : Value} (k : scal v = true) : RD h p (.v v) v := by
  simp only [scal, Bool.and_eq_true] at k
  exact .v v k.1 k.2
theorem toVs_sound : ∀ {ds : List D} {l vs : List Value}, toVs ds = some l → RDs h p ds vs → vs = l
  | [], l, vs, k, r => by
    unfold toVs at k
    cases k
    exact r.nil_inv
  | d :: ds, l, vs, k, r => by
    obtain ⟨v, us, rfl, r1, r2⟩ := r.cons_inv
    unfold toVs at k
    split at k
    · rename_i e; cases e
    · rename_i x r' e
      cases e
      obtain ⟨l', h1, h2⟩ := map_inv k
      subst h2
      cases r1
      rw [toVs_sound h1 r2]
    · cases k
theorem toV_sound {x : D} {a v : Value} (k : toV x = some a) (r : RD h p x v) : v = a := by
  unfold toV at k
  split at k
  · cases k; cases r; rfl
  · obtain ⟨l, h1, h2⟩ := map_inv k
    subst h2
    cases r with
    | agg ds vs h3 h4 h5 => rw [toVs_sound h1 ⟨h3, h5⟩]
  · cases k
theorem intOp_scal {op : BinOp} {k : IntKind} {a b : Int} {v : Value} (h : intOp op k a b = some v) : scal v = true := by
  unfold intOp at h
  split at h
  all_goals first
    | (cases h; rfl)
    | (cases h; done)
    | (split at h <;> first | (cases h; rfl) | (cases h; done))
theorem binA_scal {op : BinOp} {t : TypeId} {a b v : Value} (h : binA P op t a b = some v) : scal v = true := by
  unfold binA at h
  split at h
  · split at h
    · unfold shiftOp at h
      split at h
      · cases h
      · split at h <;> first | (cases h; rfl) | (cases h; done)
    · unfold shiftOp at h
      split at h
      · cases h
      · split at h <;> first | (cases h; rfl) | (cases h; done)
    · split at h
      · exact intOp_scal h
      · cases h
  · unfold strOp at h
    split at h
    all_goals first
      | (cases h; rfl)
      | (cases h; done)
      | (split at h <;> first | (cases h; rfl) | (cases h; done))
  · split at h
    · obtain ⟨x, _, h2⟩ := map_inv h; subst h2; rfl
    · obtain ⟨x, _, h2⟩ := map_inv h; subst h2; rfl
    · cases h
theorem binD_sound {op : BinOp} {t : TypeId} {x y z : D} {a b : Value} (k : binD P op t x y = some z) (ra : RD h p x a) (rb : RD h p y b) : ∃ v, binA P op t a b = some v ∧ RD h p z v := by
  unfold binD at k
  split at k
  · rename_i a' b' e1 e2
    obtain ⟨v, h1, h2⟩ := map_inv k
    subst h2
    rw [toV_sound e1 ra, toV_sound e2 rb]
    exact ⟨v, h1, scal_rd (binA_scal h1)⟩
  · rename_i e1 e2
    have hb := toV_sound e2 rb
    subst hb
    split at k
    · rename_i hu
      cases k
      cases ra
      exact ⟨.bool false, by simp [binA, eqDepth, eqA, hu], scal_rd rfl⟩
    · rename_i hu
      cases k
      cases ra
      exact ⟨.bool true, by simp [binA, eqDepth, eqA, hu], scal_rd rfl⟩
    · cases k
  · cases k
theorem unD_sound {op : UnOp} {x z : D} {a : Value} (k : unD op x = some z) (ra : RD h p x a) : ∃ v, unA op a = some v ∧ RD h p z v := by
  unfold unD at k
  split at k
  · rename_i a'
    cases ra
    obtain ⟨v, h1, h2⟩ := map_inv k
    subst h2
    refine ⟨v, h1, scal_rd ?_⟩
    unfold unA at h1
    split at h1
    · cases h1; rfl
    · exact intOp_scal h1
    · cases h1; rfl
    · cases h1
  · cases k
/-- A row's part. -/
theorem row_at {cs : List Value} {ds : List D} {o i : Nat} {d : D} (hl : o + ds.length ≤ cs.length) (hr : ∀ (i : Nat) d v, ds[i]? = some d → cs[o + i]? = some v → RD h p d v) (hd : ds[i]? = some d) : ∃ v, cs[o + i]? = some v ∧ RD h p d v := by
  have hi := (List.getElem?_eq_some_iff.1 hd).1
  have : cs[o + i]? = some (cs[o + i]'(by omega)) := by simp [show o + i < cs.length by omega]
  exact ⟨_, this, hr i d _ hd this⟩
theorem all_at {cs : List Value} {o n i : Nat} {v : Value} (ha : ((cs.drop o).take n).all isOne = true) (hi : i < n) (hv : cs[o + i]? = some v) : isOne v = true := by
  rw [List.all_eq_true] at ha
  refine ha v (List.mem_of_getElem? (i := i) ?_)
  rw [List.getElem?_take, if_pos hi, List.getElem?_drop]
  exact hv
theorem partD_sound {t : TypeId} {ds : List D} {i o b s : Nat} {g ro : Bool} {cs : List Value} {y : D} (k : partD P t ds i = some y) (hb : h.get b = .cells cs s g ro) (hl : o + ds.length ≤ cs.length) (ha : ((cs.drop o).take ds.length).all isOne = true)
    (hr : ∀ (i : Nat) d v, ds[i]? = some d → cs[o + i]? = some v → RD h p d v) : ∃ v, loadA P t h (ptr b (o + i)) = some v ∧ RD h p y v := by
  unfold partD at k
  unfold loadA ptr
  simp only
  split at k
  · rename_i hg
    obtain ⟨l, h1, h2⟩ := map_inv k
    subst h2
    unfold rdD at h1
    split at h1
    · rename_i hle
      cases h1
      rw [hg]
      simp only [Option.bind_some, if_true, loadC, hb, rdCells]
      rw [if_pos (by omega)]
      refine ⟨_, rfl, .agg _ _ (by simp; omega) ?_ fun j d v hd hv => ?_⟩
      · rw [List.all_eq_true]
        intro v hv
        obtain ⟨j, hj⟩ := List.mem_iff_getElem?.1 hv
        rw [List.getElem?_take] at hj
        split at hj
        · rename_i hjn
          rw [List.getElem?_drop] at hj
          exact all_at ha (i := i + j) (by omega) (by rw [← hj]; congr 1; omega)
        · cases hj
      · rw [List.getElem?_take] at hd hv
        split at hd
        · rename_i hjn
          rw [if_pos hjn, List.getElem?_drop] at hv
          rw [List.getElem?_drop] at hd
          exact hr (i + j) d v hd (by rw [← hv]; congr 1; omega)
        · cases hd
    · cases h1
  · rename_i hg
    rw [hg]
    simp only [Option.bind_some, Bool.false_eq_true, if_false, load1, hb]
    obtain ⟨v, h1, h2⟩ := row_at hl hr k
    exact ⟨v, h1, h2⟩
  · cases k
theorem loadD_sound {t : TypeId} {x y : D} {a : Value} (k : loadD P t x = some y) (ra : RD h p x a) : ∃ v, loadA P t h a = some v ∧ RD h p y v := by
  unfold loadD at k
  split at k
  · rename_i ds i
    cases ra with
    | rp ds i b o cs s g ro h1 h2 h3 h4 h5 => exact partD_sound k h1 h3 h4 h5
  · cases k
theorem lenD_sound {t : TypeId} {x y : D} {a : Value} (k : lenD P t x = some y) (ra : RD h p x a) : ∃ v, lenA P t a h = some v ∧ RD h p y v := by
  unfold lenD at k
  split at k
  · rename_i hu
    cases k
    cases ra
    exact ⟨_, by simp [lenA, hu], scal_rd rfl⟩
  · rename_i hu
    cases k
    cases ra with
    | nil => exact ⟨_, by simp [lenA, hu], scal_rd rfl⟩
    | sl => exact ⟨_, by simp [lenA, hu], scal_rd rfl⟩
  · rename_i hu
    cases k
    cases ra with
    | we => exact ⟨_, by simp [lenA, hu], scal_rd rfl⟩
    | slw => exact ⟨_, by simp [lenA, hu], scal_rd rfl⟩
  · cases k
theorem offF_sound {s : TypeId} {f o b i : Nat} (k : offF P s f = some o) : fieldAddrA P s (ptr b i) f = some (ptr b (i + o)) := by
  unfold offF at k
  unfold fieldAddrA ptr
  split at k
  · rename_i fs hu
    simp only [hu]
    obtain ⟨fd, h1, k⟩ := bind_inv k
    rw [h1, Option.bind_some]
    split at k
    · cases k
    · rename_i hz
      cases k
      rw [if_neg hz]
  · cases k
theorem fieldAddrD_sound {s : TypeId} {f : Nat} {x y : D} {a : Value} (k : fieldAddrD P s x f = some y) (ra : RD h p x a) : ∃ v, fieldAddrA P s a f = some v ∧ RD h p y v := by
  unfold fieldAddrD at k
  split at k
  · rename_i ds i
    obtain ⟨o, h1, h2⟩ := map_inv k
    subst h2
    cases ra with
    | rp ds i b o' cs s g ro h3 h4 h5 h6 h7 =>
      refine ⟨_, offF_sound (b := b) (i := o' + i) h1, ?_⟩
      have := RD.rp ds (i + o) b o' cs s g ro h3 h4 h5 h6 h7
      rwa [show o' + (i + o) = o' + i + o by omega] at this
  · cases k
theorem partA_sound {t : TypeId} {ds : List D} {vs : List Value} {i : Nat} {y : D} (k : partD P t ds i = some y) (r : RDs h p ds vs) (ha : vs.all isOne = true) : ∃ v, partA P t vs i = some v ∧ RD h p y v := by
  unfold partD at k
  unfold partA
  split at k
  · rename_i hg
    obtain ⟨l, h1, h2⟩ := map_inv k
    subst h2
    unfold rdD at h1
    split at h1
    · rename_i hle
      cases h1
      rw [hg]
      simp only [Option.bind_some, if_true, rdCells]
      rw [if_pos (by rw [← r.1]; omega)]
      have r2 := (r.drop i).take (sz P t)
      exact ⟨_, rfl, .agg _ _ r2.1 (all_take_drop ha _ _) r2.2⟩
    · cases h1
  · rename_i hg
    rw [hg]
    obtain ⟨v, h1, h2⟩ := r.get k
    exact ⟨v, h1, h2⟩
  · cases k
theorem fieldD_sound {s : TypeId} {f : Nat} {x y : D} {a : Value} (k : fieldD P s x f = some y) (ra : RD h p x a) : ∃ v, fieldA P s a f = some v ∧ RD h p y v := by
  unfold fieldD at k
  split at k
  · split at k
    · rename_i fs hu
      obtain ⟨fd, h1, k⟩ := bind_inv k
      cases ra with
      | agg ds vs h3 h4 h5 =>
        obtain ⟨v, h6, h7⟩ := partA_sound k ⟨h3, h5⟩ h4
        exact ⟨v, by simp [fieldA, hu, h1, h6], h7⟩
    · cases k
  · cases k
theorem indexAddrD_sound {t : TypeId} {x i y : D} {a j : Value} (k : indexAddrD P t x i = some y) (ra : RD h p x a) (rj : RD h p i j) : ∃ v, indexAddrA P t a j = some v ∧ RD h p y v := by
  unfold indexAddrD at k
  split at k
  · cases rj
    split at k
    · rename_i hu
      split at k
      · rename_i hc
        cases k
        obtain ⟨h1, h2, h3, h4⟩ := hc
        subst h2
        cases ra with
        | nil => simp at h4; omega
        | sl z len ds b o c cs s g ro k1 k2 k3 k4 k5 k6 k7 =>
          refine ⟨_, by simp only [indexAddrA, hu]; rw [if_pos ⟨h1, h3, h4⟩], .rp _ _ _ _ _ _ _ _ k1 k2 k5 k6 k7⟩
      · cases k
    · rename_i hu
      split at k
      · rename_i hc
        cases k
        obtain ⟨h1, h2, h3, h4⟩ := hc
        subst h2
        cases ra with
        | we => simp at h4; omega
        | slw z len ds b o c cs s g ro k1 k2 k4 k5 k6 k7 =>
          refine ⟨_, by simp only [indexAddrA, hu]; rw [if_pos ⟨h1, h3, h4⟩], .rp _ _ _ _ _ _ _ _ k1 k2 k5 k6 k7⟩
      · cases k
    · rename_i hu
      split at k
      · rename_i hc
        cases k
        cases ra with
        | rp ds i b o cs s g ro k1 k2 k5 k6 k7 =>
          refine ⟨_, by simp only [indexAddrA, hu]; rw [if_pos hc], ?_⟩
          rw [Nat.add_assoc]
          exact RD.rp _ _ b o cs s g ro k1 k2 k5 k6 k7
      · cases k
    · cases k
  · cases k
theorem indexD_sound {t : TypeId} {x i y : D} {a j : Value} (k : indexD P t x i = some y) (ra : RD h p x a) (rj : RD h p i j) : ∃ v, indexA P t a j = some v ∧ RD h p y v := by
  unfold indexD at k
  split at k
  · cases rj
    split at k
    · rename_i hu
      split at k
      · rename_i hc
        cases ra with
        | agg ds vs h3 h4 h5 =>
          obtain ⟨v, h6, h7⟩ := partA_sound k ⟨h3, h5⟩ h4
          exact ⟨v, by simp only [indexA, hu]; rw [if_pos hc]; exact h6, h7⟩
      · cases k
    · rename_i hu
      split at k
      · rename_i hc
        cases ra
        obtain ⟨b, h1, h2⟩ := map_inv k
        subst h2
        exact ⟨_, by simp only [indexA, hu]; rw [if_pos hc, h1]; rfl, scal_rd rfl⟩
      · cases k
    · cases k
  · cases k
theorem extractD_sound {x y : D} {i : Nat} {a : Value} (k : extractD x i = some y) (ra : RD h p x a) : ∃ v, extractA a i = some v ∧ RD h p y v := by
  unfold extractD at k
  split at k
  · cases ra with
    | tup ds vs h1 h2 =>
      obtain ⟨v, h3, h4⟩ := RDs.get ⟨h1, h2⟩ k
      exact ⟨v, by simpa [extractA] using h3, h4⟩
  · cases k
theorem nilCheckD_sound {x y : D} {a : Value} (k : nilCheckD x = some y) (ra : RD h p x a) : ∃ v, nilCheckA a = some v ∧ RD h p y v := by
  unfold nilCheckD at k
  split at k
  · cases k
    cases ra with
    | rp ds i b o cs s g ro k1 k2 k5 k6 k7 => exact ⟨_, rfl, .rp _ _ _ _ _ _ _ _ k1 k2 k5 k6 k7⟩
  · cases k
    cases ra with
    | fn f xs ys vs us h1 h2 h3 h4 => exact ⟨_, rfl, .fn _ _ _ _ _ h1 h2 h3 h4⟩
  · cases k
theorem minmaxA_scal {mx : Bool} {l : List Value} {v : Value} (k : minmaxA mx l = some v) : scal v = true := by
  unfold minmaxA at k
  split at k
  · rename_i kd a r
    have : ∀ (l : List Value) (a : Int), minmaxA.go mx kd a l = some v → scal v = true := by
      intro l
      induction l with
      | nil => intro a k; unfold minmaxA.go at k; cases k; rfl
      | cons x l ih =>
        intro a k
        cases x <;> unfold minmaxA.go at k <;> first | cases k | skip
        split at k
        · exact ih _ k
        · cases k
    exact this r a k
  · cases k
theorem minmaxD_sound {mx : Bool} {xs : List D} {vs : List Value} {y : D} (k : minmaxD mx xs = some y) (r : RDs h p xs vs) : ∃ v, minmaxA mx vs = some v ∧ RD h p y v := by
  unfold minmaxD at k
  obtain ⟨l, h1, k⟩ := bind_inv k
  obtain ⟨v, h2, h3⟩ := map_inv k
  subst h3
  rw [toVs_sound h1 r]
  exact ⟨v, h2, scal_rd (minmaxA_scal h2)⟩
theorem boundD_sound {d n : Nat} {o : Option D} {ov : Option Value} (k : boundD d o = some n) (r : match o, ov with
    | none, none => True
    | some x, some v => RD h p x v
    | _, _ => False) : boundA d ov = some n := by
  unfold boundD at k
  split at k
  · cases k
    cases ov with
    | none => rfl
    | some v => exact r.elim
  · cases ov with
    | none => exact r.elim
    | some v =>
      cases r
      exact k
  · cases k
end
end Go.Proofs.YtlihmncbhaimkaaDoor.Am
/- The pure calculus, eighth part: parts of slices, conversions, rows. -/
namespace Go.Proofs.YtlihmncbhaimkaaDoor.Am
open Go Go.RowKit

section
variable {P : Program} {h : Heap} {p : Nat → Prop}
def OptR (h : Heap) (p : Nat → Prop) (o : Option D) (ov : Option Value) : Prop := match o, ov with
  | none, none => True
  | some x, some v => RD h p x v
  | _, _ => False
theorem boundD_snd {d n : Nat} {o : Option D} {ov : Option Value} (k : boundD d o = some n) (r : OptR h p o ov) : boundA d ov = some n := by
  unfold boundD at k
  split at k
  · cases k
    cases ov with
    | none => rfl
    | some v => exact r.elim
  · cases ov with
    | none => exact r.elim
    | some v =>
      cases r
      exact k
  · cases k
theorem boundA_none (d : Nat) : boundA d none = some d := rfl
theorem sliceD_sound {t : TypeId} {x y : D} {a : Value} {lo hi : Option D} {lov hiv : Option Value} (k : sliceD P t x lo hi = some y) (ra : RD h p x a) (rl : OptR h p lo lov) (rh : OptR h p hi hiv) : ∃ v, sliceA P t a lov hiv none h = some v ∧ RD h p y v := by
  unfold sliceD at k
  split at k
  · rename_i s hu
    obtain ⟨l, h1, k⟩ := bind_inv k
    obtain ⟨r, h2, k⟩ := bind_inv k
    split at k
    · rename_i hc
      cases k
      cases ra
      refine ⟨.string (s.extract l r), ?_, scal_rd rfl⟩
      simp only [sliceA, hu, boundD_snd h1 rl, boundD_snd h2 rh, Option.bind_some]
      rw [if_pos ⟨rfl, hc⟩]
    · cases k
  · rename_i e z len ds hu
    obtain ⟨l, h1, k⟩ := bind_inv k
    obtain ⟨r, h2, k⟩ := bind_inv k
    split at k
    · rename_i hc
      cases k
      obtain ⟨c1, c2, c3, c4, c5⟩ := hc
      subst c2
      cases ra with
      | nil =>
        obtain rfl : r = 0 := by omega
        obtain rfl : l = 0 := by omega
        refine ⟨.slice none 0 0, ?_, by simpa using RD.nil _⟩
        simp only [sliceA, hu, boundD_snd h1 rl, boundD_snd h2 rh, Option.bind_some, boundA_none]
        rw [if_pos ⟨c1, by omega, by omega, by omega, by simp⟩]
      | sl z len ds b o c cs s g ro k1 k2 k3 k4 k5 k6 k7 =>
        refine ⟨.slice (some ⟨b, o + l * sz P e, none⟩) (r - l) (c - l), ?_, ?_⟩
        · simp only [sliceA, hu, boundD_snd h1 rl, boundD_snd h2 rh, Option.bind_some, boundA_none, k1]
          rw [if_pos ⟨c1, by omega, by omega, by omega, by simp⟩, if_pos k3]
        · have hm : l * sz P e + (r - l) * sz P e = r * sz P e := by rw [← Nat.add_mul]; congr 1; omega
          have hm2 : r * sz P e ≤ len * sz P e := Nat.mul_le_mul_right _ c4
          have hlen : ((ds.drop (l * sz P e)).take ((r - l) * sz P e)).length = (r - l) * sz P e := by simp; omega
          refine .sl _ _ _ _ _ _ cs s g ro k1 k2 k3 (by omega) (by rw [hlen]; omega) ?_ fun i d v hd hv => ?_
          · rw [hlen, List.all_eq_true]
            intro v hv
            obtain ⟨j, hj⟩ := List.mem_iff_getElem?.1 hv
            rw [List.getElem?_take] at hj
            split at hj
            · rename_i hjn
              rw [List.getElem?_drop] at hj
              exact all_at k6 (i := l * sz P e + j) (by omega) (by rw [← hj]; congr 1; omega)
            · cases hj
          · rw [List.getElem?_take] at hd
            split at hd
            · rw [List.getElem?_drop] at hd
              exact k7 _ d v hd (by rw [← hv]; congr 1; omega)
            · cases hd
    · cases k
  · cases k
theorem u8s_sound : ∀ {ds : List D} {l : List UInt8} {vs : List Value}, u8s ds = some l → RDs h p ds vs → bytesOf vs = some l
  | [], l, vs, k, r => by
    unfold u8s at k
    cases k
    rw [r.nil_inv]; rfl
  | d :: ds, l, vs, k, r => by
    obtain ⟨v, us, rfl, r1, r2⟩ := r.cons_inv
    unfold u8s at k
    split at k
    · rename_i e; cases e
    · rename_i n r' e
      cases e
      obtain ⟨l', h1, h2⟩ := map_inv k
      subst h2
      cases r1
      simp only [bytesOf, u8s_sound h1 r2, Option.map_some]
    · cases k
/-- What a slice's cells are. -/
theorem sl_cells {z len : Nat} {ds : List D} {v : Value} {m : Nat} (r : RD h p (.sl z len ds) v) (hm : ds.length = len * m) : (v = .slice none 0 0 ∧ len = 0 ∧ ds = []) ∨ ∃ b o c vs, v = .slice (some ⟨b, o, none⟩) len c ∧ loadC h b o (len * m) = some vs ∧ RDs h p ds vs ∧ vs.all isOne = true := by
  cases r with
  | nil => exact .inl ⟨rfl, rfl, rfl⟩
  | sl z len ds b o c cs s g ro k1 k2 k3 k4 k5 k6 k7 =>
    refine .inr ⟨b, o, c, (cs.drop o).take (len * m), rfl, by simp only [loadC, k1, rdCells]; rw [if_pos (by omega)], ⟨by simp; omega, fun i d u hd hu => ?_⟩, by rw [← hm]; exact k6⟩
    rw [List.getElem?_take] at hu
    split at hu
    · rw [List.getElem?_drop] at hu; exact k7 i d u hd hu
    · cases hu
theorem convD_sound {src dst : TypeId} {x y : D} {a : Value} (k : convD P src dst x = some y) (ra : RD h p x a) : ∃ v, convA P src dst a h = some (v, h) ∧ RD h p y v := by
  unfold convD at k
  split at k
  · rename_i h1 h2
    cases k
    cases ra
    exact ⟨_, by simp only [convA, h1, h2], scal_rd rfl⟩
  · rename_i h1 h2
    cases k
    cases ra
    exact ⟨_, by simp only [convA, h1, h2], scal_rd rfl⟩
  · rename_i e z len ds h1 h2
    split at k
    · rename_i h3
      split at k
      · rename_i h4
        obtain ⟨l, h5, h6⟩ := map_inv k
        subst h6
        rcases sl_cells (m := 1) ra (by omega) with ⟨rfl, rfl, rfl⟩ | ⟨b, o, c, vs, rfl, h7, h8, h9⟩
        · unfold u8s at h5
          cases h5
          exact ⟨.string ⟨#[]⟩, by simp only [convA, h1, h2]; rw [if_pos h3], scal_rd rfl⟩
        · rw [Nat.mul_one] at h7
          refine ⟨.string ⟨l.toArray⟩, ?_, scal_rd rfl⟩
          simp only [convA, h1, h2]
          rw [if_pos h3, h7, Option.bind_some, u8s_sound h5 h8]
          rfl
      · cases k
    · cases k
  · cases k
theorem notAgg_one {x : D} {v : Value} (r : RD h p x v) (h1 : ∀ ds, x ≠ .agg ds) (h2 : ∀ ds, x ≠ .tup ds) : isOne v = true := by
  cases r with
  | v x h3 h4 => exact h4
  | agg ds vs => exact absurd rfl (h1 ds)
  | tup ds vs => exact absurd rfl (h2 ds)
  | nil => rfl
  | sl => rfl
  | we => rfl
  | slw => rfl
  | rp => rfl
  | fn => rfl
theorem cellsD_sound {t : TypeId} {x : D} {ds : List D} {v : Value} (k : cellsD P t x = some ds) (r : RD h p x v) : ∃ vs, flatT P t v = some vs ∧ RDs h p ds vs ∧ vs.all isOne = true ∧ ds.length = sz P t := by
  unfold cellsD at k
  split at k
  · rename_i hg
    split at k
    · split at k
      · rename_i hl
        cases k
        cases r with
        | agg ds vs h1 h2 h3 =>
          refine ⟨vs, ?_, ⟨h1, h3⟩, h2, hl⟩
          simp only [flatT, hg, Option.bind_some, if_true]
          rw [if_pos (by simpa using h1.symm.trans hl)]
      · cases k
    · cases k
  · rename_i hg
    have fin : (∀ es, x ≠ .agg es) → (∀ es, x ≠ .tup es) → (if sz P t = 1 then some [x] else none) = some ds → ∃ vs, flatT P t v = some vs ∧ RDs h p ds vs ∧ vs.all isOne = true ∧ ds.length = sz P t := by
      intro n1 n2 k
      split at k
      · rename_i hs
        cases k
        have h1 := notAgg_one r n1 n2
        exact ⟨[v], by simp only [flatT, hg, Option.bind_some, Bool.false_eq_true, if_false]; rw [if_pos ⟨h1, hs⟩], RDs.cons r RDs.nil, by simp [h1], by simp [hs]⟩
      · cases k
    split at k
    · cases k
    · cases k
    · rename_i n1 n2
      exact fin n1 n2 k
  · cases k
theorem catD_sound {t : TypeId} : ∀ {xs : List D} {ds : List D} {vs : List Value}, catD P t xs = some ds → RDs h p xs vs → ∃ us, us.all isOne = true ∧ RDs h p ds us ∧ ds.length = xs.length * sz P t ∧
    ∀ (j : Nat) (cs : List Value), cs.length = (j + xs.length) * sz P t → fillA P (fun i => some (i * sz P t, t)) cs ((List.range' j xs.length).zip vs) = some (cs.take (j * sz P t) ++ us)
  | [], ds, vs, k, r => by
    unfold catD at k
    cases k
    refine ⟨[], rfl, RDs.nil, by simp, fun j cs hl => ?_⟩
    simp [fillA]
    rw [List.take_of_length_le (by simpa using Nat.le_of_eq hl)]
  | x :: xs, ds, vs, k, r => by
    obtain ⟨v, vs, rfl, r1, r2⟩ := r.cons_inv
    unfold catD at k
    obtain ⟨c, h1, k⟩ := bind_inv k
    obtain ⟨l, h2, h3⟩ := map_inv k
    subst h3
    obtain ⟨w, f1, f2, f3, f4⟩ := cellsD_sound h1 r1
    obtain ⟨us, u1, u2, u4, u3⟩ := catD_sound h2 r2
    have hw : w.length = sz P t := by rw [← f2.1]; exact f4
    refine ⟨w ++ us, by simp [f3, u1], f2.append u2, by simp only [List.length_append, f4, u4, List.length_cons, Nat.add_mul]; omega, fun j cs hl => ?_⟩
    have hl' : cs.length = j * sz P t + sz P t + xs.length * sz P t := by
      rw [hl, List.length_cons, Nat.add_mul, Nat.add_mul]; omega
    have e2 : (j + 1 + xs.length) * sz P t = j * sz P t + sz P t + xs.length * sz P t := by rw [Nat.add_mul, Nat.add_mul]; omega
    have e3 : (j + 1) * sz P t = j * sz P t + sz P t := by rw [Nat.add_mul]; omega
    have e4 : wrCells cs (j * sz P t) w = cs.take (j * sz P t) ++ w ++ cs.drop (j * sz P t + w.length) := wrCells_eq _ _ _ (by omega)
    have e5 : (wrCells cs (j * sz P t) w).take (j * sz P t + sz P t) = cs.take (j * sz P t) ++ w := by
      rw [e4, List.take_append_of_le_length (by simp; omega), List.take_of_length_le (by simp; omega)]
    simp only [List.length_cons, List.range'_succ, List.zip_cons_cons, fillA, f1, Option.bind_some]
    rw [if_pos hw, if_pos (by omega), u3 (j + 1) _ (by rw [wrCells_length, e2]; exact hl'), e3, e5, List.append_assoc]
end
end Go.Proofs.YtlihmncbhaimkaaDoor.Am
/- The pure calculus, ninth part: calls. -/
namespace Go.Proofs.YtlihmncbhaimkaaDoor.Am
open Go Go.RowKit

/-- The blocks that are handed in to be turned. -/
def objNs : List Arg → List Value → List Nat
  | .obj _ :: as, v :: vs => (match v with
    | .pointer (some a) => [a.block]
    | _ => []) ++ objNs as vs
  | .val _ :: as, _ :: vs => objNs as vs
  | _, _ => []
inductive ArgR (h : Heap) (O : Nat → Prop) : List Arg → List Value → Prop
  | nil : ArgR h O [] []
  | val (x : D) (v : Value) (as : List Arg) (vs : List Value) : RD h O x v → ArgR h O as vs → ArgR h O (.val x :: as) (v :: vs)
  | obj (ds : List D) (n : Nat) (cs : List Value) (s : Nat) (g : Bool) (as : List Arg) (vs : List Value) : h.get n = .cells cs s g false → O n → cs.all isOne = true → RDs h O ds cs → n ∉ objNs as vs → ArgR h O as vs → ArgR h O (.obj ds :: as) (ptr n 0 :: vs)
def OutR (h : Heap) (O : Nat → Prop) : List Arg → List Value → List (List D) → Prop
  | .obj _ :: as, v :: vs, ds :: os => (∃ n cs s g, v = ptr n 0 ∧ h.get n = .cells cs s g false ∧ cs.all isOne = true ∧ RDs h O ds cs) ∧ OutR h O as vs os
  | .val _ :: as, _ :: vs, os => OutR h O as vs os
  | [], [], [] => True
  | _, _, _ => False
structure Took (h : Heap) (O : Nat → Prop) (args : List Arg) (vs : List Value) (h' : Heap) (v : Value) (d : D) (outs : List (List D)) : Prop where
  le : h.next ≤ h'.next
  fr : ∀ b, b < h.next → b ∉ objNs args vs → h'.get b = h.get b
  lt : ∀ b, (h'.get b).live = true → b < h'.next
  res : RD h' O d v
  out : OutR h' O args vs outs
/-- What a function does, in heaps of a kind: the arguments, the result, what the objects are then. -/
def SemU (U : Heap → Prop) (C : Oracle) (g : FuncId) (args : List Arg) (d : D) (outs : List (List D)) : Prop :=
  ∀ (h : Heap) (O : Nat → Prop) (vs : List Value), U h → (∀ b, (h.get b).live = true → b < h.next) → (∀ n, O n → n < h.next) → ArgR h O args vs → Res (C g vs h) fun v h' => Took h O args vs h' v d outs
/-- A heap that has grown out of another one, but for blocks that may turn. -/
def Frm (h0 : Heap) (M : Nat → Prop) (h : Heap) : Prop := h0.next ≤ h.next ∧ ∀ b, b < h0.next → ¬ M b → h.get b = h0.get b
/-- What stands in blocks that are read alone. -/
def UOk (U : Heap → Prop) : Prop := ∀ (h : Heap) (M : Nat → Prop) (h' : Heap), (∀ b, (h.get b).live = true → b < h.next) → U h → (∀ b cs s g, h.get b = .cells cs s g true → ¬ M b) → Frm h M h' → U h'
theorem UOk.all : UOk fun _ => True := fun _ _ _ _ _ _ _ => trivial

section
variable {h0 h h' : Heap} {M O : Nat → Prop} {e : Env} {E : PEnv} {bx bx' : List Bx} {ρ ρ' : Nat → Option Nat}
/-- Variables and what they hold. -/
def RLs (O : Nat → Prop) (h : Heap) (bx : List Bx) (ρ : Nat → Option Nat) : List LV → List Value → Prop
  | [], [] => True
  | l :: ls, v :: vs => RLV O h bx ρ l v ∧ RLs O h bx ρ ls vs
  | _, _ => False
set_option linter.unusedVariables false in
theorem RLs.step (s : BStep O h bx ρ h' bx' ρ') : ∀ {ls : List LV} {vs : List Value}, RLs O h bx ρ ls vs → RLs O h' bx' ρ' ls vs
  | [], [], r => r
  | [], _ :: _, r => r.elim
  | _ :: _, [], r => r.elim
  | l :: ls, v :: vs, r => ⟨r.1.step s, RLs.step s r.2⟩
theorem ArgR.keep {p p' : Nat → Prop} (k : Keep h p h' p') (hp : ∀ n, p n → p' n) : ∀ {as : List Arg} {vs : List Value}, ArgR h p as vs → (∀ n ∈ objNs as vs, h'.get n = h.get n) → ArgR h' p' as vs
  | _, _, .nil, _ => .nil
  | _, _, .val x v as vs r rs, hn => .val x v as vs (r.keep k) (rs.keep k hp hn)
  | _, _, .obj ds n cs s g as vs h1 h2 h3 h4 h5 rs, hn => .obj ds n cs s g as vs (by rw [hn n (by simp [objNs, ptr])]; exact h1) (hp n h2) h3 (h4.keep k) h5 (rs.keep k hp fun m hm => hn m (by simp [objNs, hm]))
theorem memN_iff {n : Nat} : ∀ {l : List Nat}, memN n l = true ↔ n ∈ l
  | [] => by simp [memN]
  | x :: l => by
    simp only [memN, Bool.or_eq_true, List.mem_cons, memN_iff (l := l)]
    constructor
    · rintro (h | h)
      · exact .inl (Nat.eq_of_beq_eq_true h)
      · exact .inr h
    · rintro (rfl | h)
      · exact .inl (by simp)
      · exact .inr h
/-- The arguments of a call. -/
structure MadeArgs (O : Nat → Prop) (h : Heap) (bx' : List Bx) (ρ : Nat → Option Nat) (as : List Arg) (os : List (Nat × Nat)) (vs : List Value) : Prop where
  args : ArgR h (Pv O bx' ρ) as vs
  objs : (objNs as vs).map some = os.map fun o => ρ o.1
  cells : ∀ o ∈ os, ∃ z ls, bx'[o.1]? = some ⟨z, .cells ls, .rw⟩
theorem escC_keepcells {l : LV} {x : D} (hf : escC bx l = some (x, bx')) {k : Nat} {z : Nat} {cs : List LV} (hb : bx'[k]? = some ⟨z, .cells cs, .rw⟩) : bx[k]? = some ⟨z, .cells cs, .rw⟩ := by
  unfold escC at hf
  split at hf
  · cases hf; exact hb
  · cases hf; exact hb
  · cases hf; exact hb
  · split at hf
    · obtain ⟨⟨ds, bx1⟩, h1, h2⟩ := map_inv hf
      cases h2
      unfold frz at h1
      split at h1
      · cases h1; exact hb
      · cases h1
        rcases set_at hb with ⟨_, h3, _⟩ | ⟨_, h3⟩
        · cases h3
        · exact h3
      · cases h1
    · cases hf
  · cases hf
set_option linter.unusedVariables false in
theorem mkArgs_sound : ∀ {ks : List PK} {ls : List LV} {bx bx' : List Bx} {as : List Arg} {os : List (Nat × Nat)} (pr : PR h0 M O h e E bx ρ) (hm : mkArgs bx ks ls = some (as, os, bx')),
    PR h0 M O h e E bx' ρ ∧ BStep O h bx ρ h bx' ρ ∧ ∀ vs, RLs O h bx ρ ls vs → MadeArgs O h bx' ρ as os vs := by
  intro ks
  induction ks with
  | nil =>
    intro ls bx bx' as os pr hm
    cases ls with
    | nil =>
      unfold mkArgs at hm
      cases hm
      refine ⟨pr, BStep.refl _ _ _, fun vs r => ?_⟩
      cases vs with
      | nil => exact ⟨.nil, rfl, by simp⟩
      | cons => exact r.elim
    | cons l ls => unfold mkArgs at hm; cases hm
  | cons k ks ih =>
    intro ls bx bx' as os pr hm
    cases ls with
    | nil => cases k <;> (unfold mkArgs at hm; cases hm)
    | cons l ls =>
      -- a value
      have viaEsc : (esc bx l).bind (fun (x, bx) => (mkArgs bx ks ls).map fun (as, os, bx) => (.val x :: as, os, bx)) = some (as, os, bx') →
          PR h0 M O h e E bx' ρ ∧ BStep O h bx ρ h bx' ρ ∧ ∀ vs, RLs O h bx ρ (l :: ls) vs → MadeArgs O h bx' ρ as os vs := by
        intro hm
        obtain ⟨⟨x, bx1⟩, h1, hm⟩ := bind_inv hm
        obtain ⟨⟨as', os', bx2⟩, h2, h3⟩ := map_inv hm
        cases h3
        obtain ⟨p1, s1, r1⟩ := esc_sound pr h1
        obtain ⟨p2, s2, r2⟩ := ih p1 h2
        refine ⟨p2, s1.trans s2, fun vs r => ?_⟩
        cases vs with
        | nil => exact r.elim
        | cons v vs =>
          have m := r2 vs (r.2.step s1)
          exact ⟨.val _ _ _ _ ((r1 v r.1).keep s2.keep) m.args, by simpa [objNs] using m.objs, m.cells⟩
      cases k with
      | val => exact viaEsc hm
      | sl z =>
        unfold mkArgs at hm
        split at hm
        · rename_i z'
          obtain ⟨⟨as', os', bx2⟩, h2, h3⟩ := map_inv hm
          cases h3
          obtain ⟨p2, s2, r2⟩ := ih pr h2
          refine ⟨p2, s2, fun vs r => ?_⟩
          cases vs with
          | nil => exact r.elim
          | cons v vs =>
            have m := r2 vs r.2
            have hv : v = .slice none 0 0 := r.1
            subst hv
            exact ⟨.val _ _ _ _ (.nil z) m.args, by simpa [objNs] using m.objs, m.cells⟩
        · exact viaEsc hm
      | obj n =>
        unfold mkArgs at hm
        split at hm
        · rename_i k
          split at hm
          · rename_i z cs hb
            obtain ⟨⟨ds, bx1⟩, h1, hm⟩ := bind_inv hm
            simp only at hm
            split at hm
            · rename_i hl
              obtain ⟨⟨as', os', bx2⟩, h2, hm⟩ := bind_inv hm
              simp only at hm
              split at hm
              · rename_i z2 cs2 hb2 hmem
                cases hm
                obtain ⟨p1, s1, l1, r1⟩ := escCs_sound pr h1
                obtain ⟨p2, s2, r2⟩ := ih p1 h2
                refine ⟨p2, s1.trans s2, fun vs r => ?_⟩
                cases vs with
                | nil => exact r.elim
                | cons v vs =>
                  obtain ⟨⟨m, q1, rfl, q3⟩, r⟩ := r
                  have mm := r2 vs (r.step s1)
                  obtain ⟨cv, sz, g, ro, c1, c2, c3, c4, c5⟩ := pr.box k _ m hb rfl q1
                  obtain rfl := c2 rfl
                  have hrd : RDs h (Pv O bx1 ρ) ds cv := ⟨by rw [l1, c3], fun j d v hd hv => by
                    have hj : j < cs.length := by rw [← c3]; exact (List.getElem?_eq_some_iff.1 hv).1
                    exact r1 j cs[j] d v (by simp [hj]) hd (c5 j cs[j] v (by simp [hj]) hv)⟩
                  refine ⟨.obj ds m cv sz g _ _ c1 (.inr ⟨k, _, hb2, rfl, q1⟩) c4 (hrd.keep s2.keep) (fun hin => ?_) mm.args, by simp [objNs, ptr, mm.objs, q1], fun o ho => ?_⟩
                  · have : some m ∈ (objNs as' vs).map some := List.mem_map.2 ⟨m, hin, rfl⟩
                    rw [mm.objs] at this
                    obtain ⟨o, ho, he⟩ := List.mem_map.1 this
                    obtain ⟨z3, ls3, hb3⟩ := mm.cells o ho
                    have hk : k = o.1 := p2.inj k o.1 _ _ m hb2 hb3 rfl rfl q1 he
                    have : memN k (os'.map (·.1)) = true := memN_iff.2 (List.mem_map.2 ⟨o, ho, hk.symm⟩)
                    rw [hmem] at this
                    cases this
                  · rcases List.mem_cons.1 ho with rfl | ho
                    · exact ⟨z2, cs2, hb2⟩
                    · exact mm.cells o ho
              · cases hm
            · cases hm
          · cases hm
        · cases hm
end
end Go.Proofs.YtlihmncbhaimkaaDoor.Am
/- The pure calculus: what giving away leaves of the table. -/
namespace Go.Proofs.YtlihmncbhaimkaaDoor.Am
open Go Go.RowKit

/-- The table's make, but for the boxes of a list. -/
structure EscS (T : List Nat) (bx bx' : List Bx) : Prop where
  len : bx'.length = bx.length
  ct : ∀ (k : Nat) b b', k ∉ T → bx[k]? = some b → bx'[k]? = some b' → b'.ct = b.ct ∧ b'.z = b.z ∧ (b.st.alive = true → b'.st.alive = true)
theorem EscS.refl (T : List Nat) (bx : List Bx) : EscS T bx bx := ⟨rfl, fun k b b' _ h1 h2 => by rw [h1] at h2; cases h2; exact ⟨rfl, rfl, id⟩⟩
theorem EscS.trans {T : List Nat} {a b c : List Bx} (x : EscS T a b) (y : EscS T b c) : EscS T a c := ⟨y.len.trans x.len, fun k u w hk h1 h2 => by
  have hl : k < b.length := by rw [x.len]; exact (List.getElem?_eq_some_iff.1 h1).1
  have h3 : b[k]? = some b[k] := by simp [hl]
  obtain ⟨p1, p2, p3⟩ := x.ct k u _ hk h1 h3
  obtain ⟨q1, q2, q3⟩ := y.ct k _ w hk h3 h2
  exact ⟨q1.trans p1, q2.trans p2, fun h => q3 (p3 h)⟩⟩
theorem EscS.mono {T T' : List Nat} {a b : List Bx} (x : EscS T a b) (h : ∀ k, k ∈ T → k ∈ T') : EscS T' a b := ⟨x.len, fun k u w hk => x.ct k u w fun hm => hk (h k hm)⟩
theorem EscS.set {T : List Nat} {bx : List Bx} {k : Nat} {b : Bx} (hb : bx[k]? = some b) {b' : Bx} (h : k ∈ T ∨ (b'.ct = b.ct ∧ b'.z = b.z ∧ (b.st.alive = true → b'.st.alive = true))) : EscS T bx (bx.set k b') := ⟨by simp, fun j u w hj h1 h2 => by
  rcases set_at h2 with ⟨rfl, rfl, _⟩ | ⟨_, h3⟩
  · rw [hb] at h1
    cases h1
    rcases h with h | h
    · exact absurd h hj
    · exact h
  · rw [h1] at h3; cases h3; exact ⟨rfl, rfl, id⟩⟩
def refOf1 : LV → Option Nat
  | .ref k _ => some k
  | _ => none
def refsOf (l : List LV) : List Nat := l.filterMap refOf1
theorem frz_ct {bx bx' : List Bx} {k : Nat} {ds : List D} (h : frz bx k = some (ds, bx')) : EscS [] bx bx' := by
  unfold frz at h
  split at h
  · cases h; exact EscS.refl _ _
  · rename_i hb
    cases h
    exact EscS.set hb (.inr ⟨rfl, rfl, fun _ => rfl⟩)
  · cases h
theorem escC_ct {bx bx' : List Bx} {l : LV} {x : D} (h : escC bx l = some (x, bx')) : EscS [] bx bx' := by
  unfold escC at h
  split at h
  · cases h; exact EscS.refl _ _
  · cases h; exact EscS.refl _ _
  · cases h; exact EscS.refl _ _
  · split at h
    · obtain ⟨⟨ds, bx1⟩, h1, h2⟩ := map_inv h
      cases h2
      exact frz_ct h1
    · cases h
  · cases h
theorem escCs_ct : ∀ {ls : List LV} {bx bx' : List Bx} {xs : List D}, escCs bx ls = some (xs, bx') → EscS [] bx bx'
  | [], bx, bx', xs, h => by unfold escCs at h; cases h; exact EscS.refl _ _
  | l :: ls, bx, bx', xs, h => by
    unfold escCs at h
    obtain ⟨⟨x, bx1⟩, h1, h⟩ := bind_inv h
    obtain ⟨⟨ys, bx2⟩, h2, h3⟩ := map_inv h
    cases h3
    exact (escC_ct h1).trans (escCs_ct h2)
theorem esc_ct {bx bx' : List Bx} {l : LV} {x : D} (h : esc bx l = some (x, bx')) : EscS (refOf1 l).toList bx bx' := by
  unfold esc at h
  split at h
  · rename_i k i
    split at h
    · obtain ⟨⟨ds, bx1⟩, h1, h⟩ := bind_inv h
      simp only at h
      split at h
      · rename_i hb
        cases h
        exact ((escCs_ct h1).mono (by simp)).trans (EscS.set hb (.inl (by simp [refOf1])))
      · cases h
    · obtain ⟨⟨ds, bx1⟩, h1, h2⟩ := map_inv h
      cases h2
      exact (escCs_ct h1).mono (by simp)
    · obtain ⟨⟨ds, bx1⟩, h1, h2⟩ := map_inv h
      cases h2
      exact (frz_ct h1).mono (by simp)
  · exact (escC_ct h).mono (by simp)
theorem refsOf_cons {l : LV} {ls : List LV} : refsOf (l :: ls) = (refOf1 l).toList ++ refsOf ls := by
  unfold refsOf
  cases h : refOf1 l <;> simp [h]
theorem escs_ct : ∀ {ls : List LV} {bx bx' : List Bx} {xs : List D}, escs bx ls = some (xs, bx') → EscS (refsOf ls) bx bx'
  | [], bx, bx', xs, h => by unfold escs at h; cases h; exact EscS.refl _ _
  | l :: ls, bx, bx', xs, h => by
    unfold escs at h
    obtain ⟨⟨x, bx1⟩, h1, h⟩ := bind_inv h
    obtain ⟨⟨ys, bx2⟩, h2, h3⟩ := map_inv h
    cases h3
    rw [refsOf_cons]
    exact ((esc_ct h1).mono fun k hk => List.mem_append_left _ hk).trans ((escs_ct h2).mono fun k hk => List.mem_append_right _ hk)
theorem escParts_ct : ∀ {ps : List (Nat × LV)} {bx bx' : List Bx} {xs : List (Nat × D)}, escParts bx ps = some (xs, bx') → EscS (refsOf (ps.map (·.2))) bx bx'
  | [], bx, bx', xs, h => by unfold escParts at h; cases h; exact EscS.refl _ _
  | l :: ls, bx, bx', xs, h => by
    unfold escParts at h
    obtain ⟨⟨x, bx1⟩, h1, h⟩ := bind_inv h
    obtain ⟨⟨ys, bx2⟩, h2, h3⟩ := map_inv h
    cases h3
    rw [List.map_cons, refsOf_cons]
    exact ((esc_ct h1).mono fun k hk => List.mem_append_left _ hk).trans ((escParts_ct h2).mono fun k hk => List.mem_append_right _ hk)
theorem mkArgs_ct : ∀ {ks : List PK} {ls : List LV} {bx bx' : List Bx} {as : List Arg} {os : List (Nat × Nat)}, mkArgs bx ks ls = some (as, os, bx') → EscS (refsOf ls) bx bx' := by
  intro ks
  induction ks with
  | nil =>
    intro ls bx bx' as os hm
    cases ls with
    | nil => unfold mkArgs at hm; cases hm; exact EscS.refl _ _
    | cons l ls => unfold mkArgs at hm; cases hm
  | cons k ks ih =>
    intro ls bx bx' as os hm
    cases ls with
    | nil => cases k <;> (unfold mkArgs at hm; cases hm)
    | cons l ls =>
      have tail : ∀ {a b : List Bx} {as : List Arg} {os : List (Nat × Nat)}, mkArgs a ks ls = some (as, os, b) → EscS (refsOf (l :: ls)) a b := fun h => (ih h).mono fun k hk => by rw [refsOf_cons]; exact List.mem_append_right _ hk
      have viaEsc : (esc bx l).bind (fun (x, bx) => (mkArgs bx ks ls).map fun (as, os, bx) => (.val x :: as, os, bx)) = some (as, os, bx') → EscS (refsOf (l :: ls)) bx bx' := by
        intro hm
        obtain ⟨⟨x, bx1⟩, h1, hm⟩ := bind_inv hm
        obtain ⟨⟨as', os', bx2⟩, h2, h3⟩ := map_inv hm
        cases h3
        exact ((esc_ct h1).mono fun k hk => by rw [refsOf_cons]; exact List.mem_append_left _ hk).trans (tail h2)
      cases k with
      | val => exact viaEsc hm
      | sl z =>
        unfold mkArgs at hm
        split at hm
        · obtain ⟨⟨as', os', bx2⟩, h2, h3⟩ := map_inv hm
          cases h3
          exact tail h2
        · exact viaEsc hm
      | obj n =>
        unfold mkArgs at hm
        split at hm
        · split at hm
          · obtain ⟨⟨ds, bx1⟩, h1, hm⟩ := bind_inv hm
            simp only at hm
            split at hm
            · obtain ⟨⟨as', os', bx2⟩, h2, hm⟩ := bind_inv hm
              simp only at hm
              split at hm
              · cases hm
                exact ((escCs_ct h1).mono (by simp)).trans (tail h2)
              · cases hm
            · cases hm
          · cases hm
        · cases hm
theorem putObjs_ct {T : List Nat} : ∀ {os : List (Nat × Nat)} {outs : List (List D)} {bx : List Bx}, (∀ o ∈ os, o.1 ∈ T) → EscS T bx (putObjs bx os outs)
  | [], outs, bx, _ => by cases outs <;> exact EscS.refl _ _
  | o :: os, [], bx, _ => EscS.refl _ _
  | (k, n) :: os, ds :: outs, bx, h => by
    unfold putObjs
    split
    · rename_i b hb
      exact (EscS.set hb (.inl (h (k, n) (by simp)))).trans (putObjs_ct fun o ho => h o (by simp [ho]))
    · exact putObjs_ct fun o ho => h o (by simp [ho])
end Go.Proofs.YtlihmncbhaimkaaDoor.Am
/- The pure calculus, tenth part: behind a call. -/
namespace Go.Proofs.YtlihmncbhaimkaaDoor.Am
open Go Go.RowKit

section
variable {h0 h h1 : Heap} {M O : Nat → Prop} {e : Env} {E : PEnv} {bx : List Bx} {ρ : Nat → Option Nat}
/-- A box that was handed in, behind the call. -/
def NewObj (h1 : Heap) (p : Nat → Prop) (ρ : Nat → Option Nat) (k : Nat) (b b' : Bx) : Prop := b'.z = b.z ∧ b'.st = .rw ∧ b.st = .rw ∧ (∃ ls, b.ct = .cells ls) ∧ ∃ ds, b'.ct = .cells (ds.map (.d true)) ∧ ∀ n, ρ k = some n → ∃ cs s g, h1.get n = .cells cs s g false ∧ cs.all isOne = true ∧ RDs h1 p ds cs
theorem putObjs_at {p : Nat → Prop} : ∀ {as : List Arg} {vs : List Value} {os : List (Nat × Nat)} {outs : List (List D)} {bxc : List Bx}, (objNs as vs).map some = (os.map fun o => ρ o.1) → OutR h1 p as vs outs → (∀ o ∈ os, ∃ z ls, bxc[o.1]? = some ⟨z, .cells ls, .rw⟩) →
    (putObjs bxc os outs).length = bxc.length ∧ ∀ (k : Nat) b'', (putObjs bxc os outs)[k]? = some b'' → ∃ b, bxc[k]? = some b ∧ ((b'' = b ∧ k ∉ os.map (·.1)) ∨ NewObj h1 p ρ k b b'')
  | [], vs, os, outs, bxc, ho, hr, hc => by
    have : os = [] := by
      have := congrArg List.length ho
      cases vs <;> exact List.eq_nil_of_length_eq_zero (by simpa [objNs] using this.symm)
    subst this
    exact ⟨by simp [putObjs], fun k b hb => ⟨b, by simpa [putObjs] using hb, .inl ⟨rfl, by simp⟩⟩⟩
  | .val x :: as, [], os, outs, bxc, ho, hr, hc => hr.elim
  | .val x :: as, v :: vs, os, outs, bxc, ho, hr, hc => putObjs_at (as := as) (vs := vs) (by simpa [objNs] using ho) hr hc
  | .obj ds0 :: as, [], os, outs, bxc, ho, hr, hc => hr.elim
  | .obj ds0 :: as, v :: vs, os, [], bxc, ho, hr, hc => hr.elim
  | .obj ds0 :: as, v :: vs, os, ds :: outs, bxc, ho, hr, hc => by
    obtain ⟨⟨n, cs, s, g, rfl, g1, g2, g3⟩, hr⟩ := hr
    cases os with
    | nil => simp [objNs, ptr] at ho
    | cons o os =>
      obtain ⟨k0, n0⟩ := o
      simp only [objNs, ptr, List.cons_append, List.nil_append, List.map_cons, List.cons.injEq] at ho
      obtain ⟨e1, e2⟩ := ho
      obtain ⟨z, ls, hb⟩ := hc (k0, n0) (by simp)
      simp only [putObjs, hb]
      obtain ⟨l1, l2⟩ := putObjs_at (bxc := bxc.set k0 ⟨z, .cells (ds.map (.d true)), .rw⟩) e2 hr (fun o ho => by
        by_cases hk : o.1 = k0
        · exact ⟨z, _, by rw [hk]; exact set_self hb⟩
        · obtain ⟨z', ls', hb'⟩ := hc o (by simp [ho])
          exact ⟨z', ls', by rw [List.getElem?_set_ne (fun e => hk e.symm)]; exact hb'⟩)
      refine ⟨by rw [l1]; simp, fun k b'' hk => ?_⟩
      obtain ⟨b, hb', hh⟩ := l2 k b'' hk
      rcases set_at hb' with ⟨rfl, rfl, _⟩ | ⟨hne, hb'⟩
      · refine ⟨_, hb, .inr ?_⟩
        rcases hh with ⟨rfl, _⟩ | ⟨q1, q2, q3, q4, q5⟩
        · exact ⟨rfl, rfl, rfl, ⟨ls, rfl⟩, ds, rfl, fun n' hn' => by rw [← e1] at hn'; cases hn'; exact ⟨cs, s, g, g1, g2, g3⟩⟩
        · exact ⟨q1, q2, rfl, ⟨ls, rfl⟩, q5⟩
      · refine ⟨b, hb', hh.imp (fun ⟨q1, q2⟩ => ⟨q1, ?_⟩) id⟩
        simp only [List.map_cons, List.mem_cons, not_or]
        exact ⟨hne, q2⟩
theorem call_after (pr : PR h0 M O h e E bx ρ) {as : List Arg} {os : List (Nat × Nat)} {vs : List Value} {outs : List (List D)} {d : D} {v : Value} (m : MadeArgs O h bx ρ as os vs) (t : Took h (Pv O bx ρ) as vs h1 v d outs) :
    PR h0 M O h1 e E (putObjs bx os outs) ρ ∧ BStep O h bx ρ h1 (putObjs bx os outs) ρ ∧ RD h1 (Pv O (putObjs bx os outs) ρ) d v := by
  obtain ⟨l1, l2⟩ := putObjs_at (p := Pv O bx ρ) m.objs t.out m.cells
  have back : ∀ {k : Nat} {b : Bx}, bx[k]? = some b → ∃ b'', (putObjs bx os outs)[k]? = some b'' := fun {k b} hb => by
    have hk : k < (putObjs bx os outs).length := by rw [l1]; exact (List.getElem?_eq_some_iff.1 hb).1
    exact ⟨(putObjs bx os outs)[k], by simp [hk]⟩
  have hst : ∀ {k : Nat} {b b'' : Bx}, bx[k]? = some b → (putObjs bx os outs)[k]? = some b'' → b''.st = b.st ∧ b''.z = b.z := fun hb hb'' => by
    obtain ⟨b0, h2, h3⟩ := l2 _ _ hb''
    rw [hb] at h2
    cases h2
    rcases h3 with ⟨rfl, _⟩ | ⟨q1, q2, q3, _⟩
    · exact ⟨rfl, rfl⟩
    · exact ⟨q2.trans q3.symm, q1⟩
  have hpv : ∀ n, Pv O (putObjs bx os outs) ρ n ↔ Pv O bx ρ n := fun n => by
    constructor
    · rintro (ho | ⟨k, b, g1, g2, g3⟩)
      · exact .inl ho
      · obtain ⟨b0, h2, _⟩ := l2 k b g1
        exact .inr ⟨k, b0, h2, by rw [← (hst h2 g1).1]; exact g2, g3⟩
    · rintro (ho | ⟨k, b, g1, g2, g3⟩)
      · exact .inl ho
      · obtain ⟨b'', h2⟩ := back g1
        exact .inr ⟨k, b'', h2, by rw [(hst g1 h2).1]; exact g2, g3⟩
  -- a block that is handed in is a box's
  have hobj : ∀ n, n ∈ objNs as vs → ∃ o ∈ os, ρ o.1 = some n := fun n hn => by
    have : some n ∈ (objNs as vs).map some := List.mem_map.2 ⟨n, hn, rfl⟩
    rw [m.objs] at this
    obtain ⟨o, ho, he⟩ := List.mem_map.1 this
    exact ⟨o, ho, he⟩
  have hobjPv : ∀ n, n ∈ objNs as vs → Pv O bx ρ n := fun n hn => by
    obtain ⟨o, ho, he⟩ := hobj n hn
    obtain ⟨z, ls, hb⟩ := m.cells o ho
    exact .inr ⟨o.1, _, hb, rfl, he⟩
  have hsame : ∀ b, (h.get b).live = true → b ∉ objNs as vs → h1.get b = h.get b := fun b hl hn => t.fr b (pr.lt b hl) hn
  have s : BStep O h bx ρ h1 (putObjs bx os outs) ρ := by
    refine ⟨⟨fun b hl hp => hsame b hl (fun hn => hp (hobjPv b hn)), fun b _ hp hp' => hp ((hpv b).1 hp')⟩, by omega, fun _ _ => rfl, fun k b ds hb hct => ?_, fun k b hb hro => ?_, fun k b b' hb hb' ha => by rw [← (hst hb hb').1]; exact ha⟩
    · obtain ⟨b'', hb''⟩ := back hb
      obtain ⟨b0, h2, h3⟩ := l2 _ _ hb''
      rw [hb] at h2
      cases h2
      rcases h3 with ⟨rfl, _⟩ | ⟨_, _, _, ⟨ls, q4⟩, _⟩
      · exact ⟨_, ds, hb'', hct, rfl, rfl⟩
      · rw [hct] at q4; cases q4
    · obtain ⟨b'', hb''⟩ := back hb
      obtain ⟨b0, h2, h3⟩ := l2 _ _ hb''
      rw [hb] at h2
      cases h2
      rcases h3 with ⟨rfl, _⟩ | ⟨_, _, q3, _⟩
      · exact hb''
      · rcases hro with hro | hro <;> (rw [hro] at q3; cases q3)
  have conv : Keep h1 (Pv O bx ρ) h1 (Pv O (putObjs bx os outs) ρ) := ⟨fun _ _ _ => rfl, fun b _ hp hp' => hp ((hpv b).1 hp')⟩
  refine ⟨⟨Nat.le_trans pr.le t.le, fun b hb hM => ?_, t.lt, fun n c l hn => ?_, fun k b n hb ha hn => ?_, fun k k' b b' n g1 g2 g3 g4 g5 g6 => ?_, fun k b n g1 g2 g3 => ?_, fun k b n g1 g2 g3 => ?_, pr.olt⟩, s, t.res.keep conv⟩
  · rw [t.fr b (Nat.lt_of_lt_of_le hb pr.le) (fun hn => by
      obtain ⟨o, ho, he⟩ := hobj b hn
      obtain ⟨z, ls, hbb⟩ := m.cells o ho
      rcases pr.own o.1 _ b hbb rfl he with h5 | ⟨h5, _⟩
      · omega
      · exact hM h5)]
    exact pr.fr b hb hM
  · obtain ⟨v, g1, g2⟩ := pr.env n c l hn
    exact ⟨v, g1, fun hc => (g2.1 hc).step s, g2.2⟩
  · obtain ⟨b0, h2, h3⟩ := l2 _ _ hb
    rcases h3 with ⟨rfl, hnk⟩ | ⟨q1, q2, q3, ⟨ls, q4⟩, ds, q5, q6⟩
    · refine (pr.box k b n h2 ha hn).step s (hsame n (pr.live h2 ha hn) (fun hin => ?_))
      obtain ⟨o, ho, he⟩ := hobj n hin
      obtain ⟨z, ls, hbb⟩ := m.cells o ho
      have := pr.inj o.1 k _ b n hbb h2 rfl ha he hn
      exact hnk (List.mem_map.2 ⟨o, ho, this⟩)
    · obtain ⟨cs, sz, g, g1, g2, g3⟩ := q6 n hn
      unfold RC
      rw [q5]
      refine ⟨cs, sz, g, false, g1, fun _ => rfl, by simpa using g3.1.symm, g2, fun i l u hl hu => ?_⟩
      rw [List.getElem?_map] at hl
      obtain ⟨x, hx, rfl⟩ := map_inv hl
      exact ⟨(g3.2 i x u hx hu).keep conv, fun _ => List.all_eq_true.1 g2 u (List.mem_of_getElem? hu)⟩
  · obtain ⟨b0, h2, _⟩ := l2 k b g1
    obtain ⟨b0', h2', _⟩ := l2 k' b' g2
    exact pr.inj k k' b0 b0' n h2 h2' (by rw [← (hst h2 g1).1]; exact g3) (by rw [← (hst h2' g2).1]; exact g4) g5 g6
  · obtain ⟨b0, h2, h3⟩ := l2 k b g1
    rcases pr.own k b0 n h2 (by rw [← (hst h2 g1).1]; exact g2) g3 with h4 | ⟨h4, h5, ls, h6⟩
    · exact .inl h4
    · rcases h3 with ⟨rfl, _⟩ | ⟨q1, q2, q3, q4, ds, q5, q6⟩
      · exact .inr ⟨h4, h5, ls, h6⟩
      · exact .inr ⟨h4, q1.trans h5, _, q5⟩
  · obtain ⟨b0, h2, _⟩ := l2 k b g1
    exact pr.shr k b0 n h2 (by rw [← (hst h2 g1).1]; exact g2) g3
end
end Go.Proofs.YtlihmncbhaimkaaDoor.Am
/- The pure calculus, eleventh part: operands; operations that make a block. -/
namespace Go.Proofs.YtlihmncbhaimkaaDoor.Am
open Go Go.RowKit

section
variable {P : Program} {J : Sig} {C : Oracle} {S : CallS} {h0 h h' : Heap} {M O : Nat → Prop} {e : Env} {E : PEnv} {bx bx' : List Bx} {ρ ρ' : Nat → Option Nat}
theorem constL_sound {x : Value} {a : Ent} (k : constL x = some a) : (if closedV 3 x then some x else none) = some x ∧ RLV O h bx ρ a.2 x := by
  unfold constL at k
  split at k
  · cases k; exact ⟨rfl, rfl⟩
  · split at k
    · rename_i hc
      split at k
      · rename_i h1
        cases k
        exact ⟨by rw [if_pos hc], .v _ hc h1, fun _ => h1⟩
      · cases k
    · cases k
theorem evL_sound (pr : PR h0 M O h e E bx ρ) {x : Operand} {c : Cnd} {l : LV} (k : evL E x = some (c, l)) : ∃ v, ev P e x = some v ∧ (cOk c → RLV O h bx ρ l v) ∨ False := by
  cases x with
  | tmp t =>
    obtain ⟨v, h1, h2⟩ := pr.env t c l k
    exact ⟨v, .inl ⟨h1, h2.1⟩⟩
  | const v =>
    have h1 := constL_sound (O := O) (h := h) (bx := bx) (ρ := ρ) k
    exact ⟨v, .inl ⟨h1.1, fun _ => h1.2⟩⟩
  | global g => cases k
  | func f =>
    cases k
    exact ⟨_, .inl ⟨rfl, fun _ => .fn f [] [] [] [] rfl rfl (by simp) (by simp)⟩⟩
theorem ev_of (pr : PR h0 M O h e E bx ρ) {x : Operand} {a : Ent} (k : evL E x = some a) (hc : cOk (entC (evL E x))) : ∃ v, ev P e x = some v ∧ RLV O h bx ρ a.2 v := by
  obtain ⟨c, l⟩ := a
  obtain ⟨v, h1 | h1⟩ := evL_sound (P := P) pr k
  · rw [k] at hc
    exact ⟨v, h1.1, h1.2 hc⟩
  · exact h1.elim
theorem evs_of (pr : PR h0 M O h e E bx ρ) : ∀ {xs : List Operand} {as : List Ent}, evLs E xs = some as → (∀ x ∈ xs, cOk (entC (evL E x))) → ∃ vs, evs P e xs = some vs ∧ RLs O h bx ρ (as.map (·.2)) vs
  | [], as, k, hc => by unfold evLs at k; cases k; exact ⟨[], rfl, trivial⟩
  | x :: xs, as, k, hc => by
    unfold evLs at k
    obtain ⟨a, h1, k⟩ := bind_inv k
    obtain ⟨as', h2, h3⟩ := map_inv k
    subst h3
    obtain ⟨v, g1, g2⟩ := ev_of (P := P) pr h1 (hc x (by simp))
    obtain ⟨vs, g3, g4⟩ := evs_of pr h2 (fun y hy => hc y (by simp [hy]))
    exact ⟨v :: vs, by simp [evs, g1, g3], g2, g4⟩
theorem normT_sound {t : TypeId} {l : LV} {v : Value} (r : RLV O h bx ρ l v) : RLV O h bx ρ (normT P t l) v := by
  unfold normT
  split
  · split
    · exact r
    · exact r
  · exact r
theorem oneD_sound {x y : D} {v : Value} {p : Nat → Prop} (k : oneD x = some y) (r : RD h p x v) : RD h p y v ∧ isOne v = true := by
  unfold oneD at k
  split at k
  · cases k
  · cases k
  · rename_i n1 n2
    cases k
    exact ⟨r, notAgg_one r n1 n2⟩
theorem lv_one {l : LV} {v : Value} (r : RLV O h bx ρ l v) (hl : ∀ x, l ≠ .d false x) : isOne v = true := by
  cases l with
  | d o x =>
    cases o with
    | true => exact r.2 rfl
    | false => exact absurd rfl (hl x)
  | ref k i => obtain ⟨n, _, rfl, _⟩ := r; rfl
  | full k len => obtain ⟨b, ds, _, _, _, ⟨n, _, rfl⟩ | ⟨_, _, rfl⟩⟩ := r <;> rfl
  | emp z => have : v = _ := r; subst this; rfl
  | cf f xs ys => cases r; rfl
  | cl x => obtain ⟨z, len, ds, _, ⟨_, rfl⟩ | ⟨b, o, cs, s, g, ro, rfl, _⟩⟩ := r <;> rfl

/-! ### Zeros -/
theorem zipZ_sound : ∀ {vs : List Value} {ks : List (Option Nat)} {ls : List LV}, zipZ vs ks = some ls → ls.length = vs.length ∧ vs.all isOne = true ∧ ∀ (i : Nat) l v, ls[i]? = some l → vs[i]? = some v → RLV O h bx ρ l v
  | [], [], ls, k => by unfold zipZ at k; cases k; exact ⟨rfl, rfl, by simp⟩
  | [], _ :: _, ls, k => by unfold zipZ at k; cases k
  | _ :: _, [], ls, k => by unfold zipZ at k; cases k
  | v :: vs, q :: ks, ls, k => by
    unfold zipZ at k
    obtain ⟨a, h1, k⟩ := bind_inv k
    obtain ⟨ls', h2, h3⟩ := map_inv k
    subst h3
    obtain ⟨g1, g2, g3⟩ := zipZ_sound h2
    have ha : isOne v = true ∧ RLV O h bx ρ a v := by
      split at h1
      · cases h1; exact ⟨rfl, rfl⟩
      · split at h1
        · rename_i hc
          split at h1
          · rename_i ho; cases h1; exact ⟨ho, .v _ hc ho, fun _ => ho⟩
          · cases h1
        · cases h1
      · cases h1
    refine ⟨by simp [g1], by simp [ha.1, g2], fun i l u hl hu => ?_⟩
    cases i with
    | zero => simp at hl hu; subst hl; subst hu; exact ha.2
    | succ i => exact g3 i l u (by simpa using hl) (by simpa using hu)
theorem plainL_sound {p : Nat → Prop} : ∀ {ls : List LV} {ds : List D} {vs : List Value}, plainL ls = some ds → ls.length = vs.length → (∀ (i : Nat) l v, ls[i]? = some l → vs[i]? = some v → RLV O h bx ρ l v) → (∀ n, ¬ Pv O bx ρ n → ¬ p n) → RDs h p ds vs
  | [], ds, vs, k, hl, hr, hp => by
    unfold plainL at k
    cases k
    cases vs with
    | nil => exact RDs.nil
    | cons => simp at hl
  | l :: ls, ds, [], k, hl, hr, hp => by simp at hl
  | l :: ls, ds, v :: vs, k, hl, hr, hp => by
    have hv := hr 0 l v rfl rfl
    have hrest := fun {ds' : List D} (k' : plainL ls = some ds') => plainL_sound (p := p) (vs := vs) k' (by simpa using hl) (fun i l' v' h1 h2 => hr (i + 1) l' v' (by simpa using h1) (by simpa using h2)) hp
    unfold plainL at k
    split at k
    · rename_i e; cases e
    · rename_i e
      cases e
      obtain ⟨ds', h1, h2⟩ := map_inv k
      subst h2
      exact RDs.cons (RD.keep ⟨fun _ _ _ => rfl, fun b _ hb => hp b hb⟩ hv.1) (hrest h1)
    · rename_i e
      cases e
      obtain ⟨ds', h1, h2⟩ := map_inv k
      subst h2
      have : v = .slice none 0 0 := hv
      subst this
      exact RDs.cons (.nil _) (hrest h1)
    · cases k
theorem zeroL_sound {t : TypeId} {ls : List LV} (k : zeroL P t = some ls) : ∃ vs, zeroT P t = some vs ∧ ls.length = vs.length ∧ vs.all isOne = true ∧ ∀ (i : Nat) l v, ls[i]? = some l → vs[i]? = some v → RLV O h bx ρ l v := by
  unfold zeroL at k
  obtain ⟨vs, h1, k⟩ := bind_inv k
  obtain ⟨ks, h2, k⟩ := bind_inv k
  obtain ⟨g1, g2, g3⟩ := zipZ_sound (O := O) (h := h) (bx := bx) (ρ := ρ) k
  exact ⟨vs, h1, g1, g2, g3⟩
theorem zeroDs_sound {t : TypeId} {ds : List D} {p : Nat → Prop} (k : zeroDs P t = some ds) : ∃ vs, zeroT P t = some vs ∧ vs.all isOne = true ∧ RDs h p ds vs := by
  unfold zeroDs at k
  obtain ⟨ls, h1, k⟩ := bind_inv k
  obtain ⟨vs, g1, g2, g3, g4⟩ := zeroL_sound (O := p) (h := h) (bx := []) (ρ := fun _ => none) h1
  exact ⟨vs, g1, g3, plainL_sound k g2 g4 (fun n hn hp => hn (.inl hp))⟩

/-! ### Operations that make a block -/
theorem freshBS_push {t : TypeId} {n : Nat} {ps : List (Nat × Value)} {s : Option (Nat × Nat)} {z : Nat} {cs : List Value} (k : freshBS P t n ps = some (s, z, cs)) : buildSliceA P t n ps h = some (freshV h.next s, h.push (.cells cs z false false)) := by
  unfold freshBS buildSliceA at k
  unfold buildSliceA
  cases he : elemT P t with
  | none => rw [he] at k; cases k
  | some el =>
    rw [he] at k
    simp only [Option.bind_some] at k ⊢
    cases hz : zeroT P el with
    | none => rw [hz] at k; cases k
    | some z0 =>
      rw [hz] at k
      simp only [Option.bind_some] at k ⊢
      split at k
      · rename_i c1
        rw [if_pos c1]
        split at k
        · rename_i c2
          rw [if_pos c2]
          cases hf : fillA P (fun i => some (i * sz P el, el)) (reps n z0) ps with
          | none => rw [hf] at k; cases k
          | some cs0 =>
            rw [hf] at k
            simp [Heap.push] at k
            obtain ⟨rfl, rfl, rfl⟩ := k
            rfl
        · cases k
      · cases k
theorem freshMS_push {t : TypeId} {l c : Value} {s : Option (Nat × Nat)} {z : Nat} {cs : List Value} (k : freshMS P t l c = some (s, z, cs)) : makeSliceA P t l c h = some (freshV h.next s, h.push (.cells cs z false false)) := by
  unfold freshMS makeSliceA at k
  unfold makeSliceA
  split at k
  · rename_i l c
    cases he : elemT P t with
    | none => rw [he] at k; cases k
    | some el =>
      rw [he] at k
      simp only [Option.bind_some] at k ⊢
      cases hz : zeroT P el with
      | none => rw [hz] at k; cases k
      | some z0 =>
        rw [hz] at k
        simp only [Option.bind_some] at k ⊢
        split at k
        · rename_i c1
          rw [if_pos c1]
          simp [Heap.push] at k
          obtain ⟨rfl, rfl, rfl⟩ := k
          rfl
        · cases k
  · cases k
theorem opA_fresh {o : Op} {s : Option (Nat × Nat)} {z : Nat} {cs : List Value} (k : freshOp P o e = some (s, z, cs)) : opA P C o e h = some (freshV h.next s, h.push (.cells cs z false false)) := by
  unfold freshOp at k
  split at k
  · obtain ⟨z0, h1, h2⟩ := map_inv k
    cases h2
    simp only [opA, h1, Option.map_some, newA]
    rfl
  · obtain ⟨v, h1, k⟩ := bind_inv k
    obtain ⟨cs0, h2, h3⟩ := map_inv k
    cases h3
    simp only [opA, h1, h2, Option.bind_some, Option.map_some, newA]
    rfl
  · obtain ⟨ps, h1, k⟩ := bind_inv k
    simp only [opA, h1, Option.bind_some]
    exact freshBS_push k
  · obtain ⟨l, h1, k⟩ := bind_inv k
    obtain ⟨c, h2, k⟩ := bind_inv k
    simp only [opA, h1, h2, Option.bind_some]
    exact freshMS_push k
  · cases k
end
end Go.Proofs.YtlihmncbhaimkaaDoor.Am
/- The pure calculus, twelfth part: new blocks, by operation. -/
namespace Go.Proofs.YtlihmncbhaimkaaDoor.Am
open Go Go.RowKit

theorem ExD_some : ∀ {n : Nat} {K : List D → Prop}, ExD n K → ∃ l, l.length = n ∧ K l
  | 0, K, w => ⟨[], rfl, w⟩
  | n + 1, K, w => by
    obtain ⟨d, w⟩ := w
    obtain ⟨l, h1, h2⟩ := ExD_some w
    exact ⟨d :: l, by simp [h1], h2⟩
theorem zip_fst_snd {α β : Type} : ∀ (l : List (α × β)), l = (l.map (·.1)).zip (l.map (·.2))
  | [] => rfl
  | x :: l => by simp only [List.map_cons, List.zip_cons_cons]; rw [← zip_fst_snd l]
section
variable {P : Program} {J : Sig} {C : Oracle} {S : CallS} {h0 h h' : Heap} {M O : Nat → Prop} {e : Env} {E : PEnv} {bx bx' : List Bx} {ρ ρ' : Nat → Option Nat} {o : Op} {K : LV → List Bx → Prop}
/-- An operation makes a box. -/
structure Fresh (P : Program) (o : Op) (h0 : Heap) (M O : Nat → Prop) (h : Heap) (e : Env) (E : PEnv) (bx : List Bx) (ρ : Nat → Option Nat) (K : LV → List Bx → Prop) : Prop where
  run : ∃ s z cs bx1 b l, freshOp P o e = some (s, z, cs) ∧ PR h0 M O h e E bx1 ρ ∧ BStep O h bx ρ h bx1 ρ ∧ K l (bx1 ++ [b]) ∧ b.st = .rw ∧
    (∀ h' ρ' n, BStep O h bx1 ρ h' (bx1 ++ [b]) ρ' → h'.get n = .cells cs z false false → RC O h' (bx1 ++ [b]) ρ' b n) ∧
    (∀ h' ρ' n, ρ' bx1.length = some n → RLV O h' (bx1 ++ [b]) ρ' l (freshV n s))
theorem Fresh.at (f : Fresh P o h0 M O h e E bx ρ K) : ∃ s z cs, freshOp P o e = some (s, z, cs) ∧ ∀ n h', h0.next ≤ n → (h.get n).live = false → (∀ m, m ≠ n → h'.get m = h.get m) → h.next ≤ h'.next → n < h'.next → h'.get n = .cells cs z false false →
    ∃ l bx' ρ', PR h0 M O h' e E bx' ρ' ∧ BStep O h bx ρ h' bx' ρ' ∧ RLV O h' bx' ρ' l (freshV n s) ∧ K l bx' := by
  obtain ⟨s, z, cs, bx1, b, l, h1, h2, h3, h4, h5, h6, h7⟩ := f.run
  refine ⟨s, z, cs, h1, fun n h' a1 a2 a3 a4 a5 a6 => ?_⟩
  obtain ⟨p, st⟩ := h2.new (b := b) a1 a2 a3 a4 a5 h5 (fun st => h6 _ _ _ st a6)
  exact ⟨l, _, _, p, h3.trans st, h7 _ _ _ (rput_self _ _ _), h4⟩
theorem Fresh.idle (f : Fresh P o h0 M O h e E bx ρ K) : ∃ l bx' ρ', PR h0 M O h e E bx' ρ' ∧ BStep O h bx ρ h bx' ρ' ∧ K l bx' := by
  obtain ⟨s, z, cs, bx1, b, l, h1, h2, h3, h4, h5, h6, h7⟩ := f.run
  obtain ⟨p, st⟩ := h2.new0 (b := b)
  exact ⟨l, _, _, p, h3.trans st, h4⟩
theorem full_lv {bx1 : List Bx} {z len : Nat} {ds : List D} (hl : ds.length = len * z) {h' : Heap} {ρ' : Nat → Option Nat} {n : Nat} (hn : ρ' bx1.length = some n) : RLV O h' (bx1 ++ [⟨z, .row ds, .rw⟩]) ρ' (.full bx1.length len) (.slice (some ⟨n, 0, none⟩) len len) :=
  ⟨⟨z, .row ds, .rw⟩, ds, by simp, rfl, hl, .inl ⟨n, hn, rfl⟩⟩
theorem ref_lv {bx1 : List Bx} {b : Bx} {h' : Heap} {ρ' : Nat → Option Nat} {n : Nat} (hn : ρ' bx1.length = some n) : RLV O h' (bx1 ++ [b]) ρ' (.ref bx1.length 0) (ptr n 0) := ⟨n, hn, rfl, by simp⟩
theorem row_rc {bx1 : List Bx} {z : Nat} {ds : List D} {cs : List Value} (r : RDs h (Pv O bx1 ρ) ds cs) (ho : cs.all isOne = true) (h' : Heap) (ρ' : Nat → Option Nat) (n : Nat) (st : BStep O h bx1 ρ h' (bx1 ++ [⟨z, .row ds, .rw⟩]) ρ') (hg : h'.get n = .cells cs z false false) : RC O h' (bx1 ++ [⟨z, .row ds, .rw⟩]) ρ' ⟨z, .row ds, .rw⟩ n :=
  ⟨cs, false, false, hg, fun _ => rfl, ho, r.keep st.keep⟩
theorem cells_rc {bx1 : List Bx} {z z' : Nat} {ls : List LV} {cs : List Value} (hl : cs.length = ls.length) (ho : cs.all isOne = true) (r : ∀ (i : Nat) l v, ls[i]? = some l → cs[i]? = some v → RLV O h bx1 ρ l v) (h' : Heap) (ρ' : Nat → Option Nat) (n : Nat) (st : BStep O h bx1 ρ h' (bx1 ++ [⟨z, .cells ls, .rw⟩]) ρ') (hg : h'.get n = .cells cs z' false false) : RC O h' (bx1 ++ [⟨z, .cells ls, .rw⟩]) ρ' ⟨z, .cells ls, .rw⟩ n :=
  ⟨cs, z', false, false, hg, fun _ => rfl, hl, ho, fun i l v hl hv => (r i l v hl hv).step st⟩
theorem alloc_fresh (pr : PR h0 M O h e E bx ρ) {t : TypeId} (w : pRun S (popE P J (.alloc t) E bx) K) : Fresh P (.alloc t) h0 M O h e E bx ρ K := by
  unfold popE at w
  simp only at w
  split at w
  · rename_i ha
    cases hz : zeroDs P t with
    | none => rw [hz] at w; exact w.elim
    | some ds =>
      rw [hz] at w
      obtain ⟨vs, g1, g2, g3⟩ := zeroDs_sound (h := h) (p := Pv O bx ρ) hz
      exact ⟨none, sz P t, vs, bx, _, _, by simp [freshOp, g1], pr, BStep.refl _ _ _, w, rfl, row_rc g3 g2, fun h' ρ' n hn => ref_lv hn⟩
  · cases hz : zeroL P t with
    | none => rw [hz] at w; exact w.elim
    | some ls =>
      rw [hz] at w
      obtain ⟨vs, g1, g2, g3, g4⟩ := zeroL_sound (O := O) (h := h) (bx := bx) (ρ := ρ) hz
      exact ⟨none, sz P t, vs, bx, _, _, by simp [freshOp, g1], pr, BStep.refl _ _ _, w, rfl, cells_rc g2.symm g3 g4, fun h' ρ' n hn => ref_lv hn⟩
theorem box_fresh (pr : PR h0 M O h e E bx ρ) {t : TypeId} {x : Operand} (hc : cOk (entC (evL E x))) (w : pRun S (popE P J (.box t x) E bx) K) : Fresh P (.box t x) h0 M O h e E bx ρ K := by
  unfold popE at w
  simp only at w
  cases ha : evL E x with
  | none => rw [ha] at w; exact w.elim
  | some a =>
    obtain ⟨v, h1, r⟩ := ev_of (P := P) pr ha hc
    rw [ha, Option.bind_some] at w
    cases hg : aggT P t with
    | none => rw [hg] at w; exact w.elim
    | some g =>
      rw [hg] at w
      cases g with
      | true =>
        simp only at w
        split at w
        · rename_i o y hy
          rw [hy] at r
          split at w
          · obtain ⟨n, ds, h2, w⟩ := w
            obtain ⟨ds', h3, h4⟩ := map_inv h2
            cases h4
            obtain ⟨vs, g1, g2, g3, g4⟩ := cellsD_sound h3 r.1
            exact ⟨none, sz P t, vs, bx, _, _, by simp [freshOp, h1, g1], pr, BStep.refl _ _ _, w, rfl, row_rc g2 g3, fun h' ρ' n hn => ref_lv hn⟩
          · obtain ⟨ds, h2, h3, w⟩ := ExD_some w
            obtain ⟨vs, g1, g2, g3, g4⟩ := cellsD_sound h3 r.1
            exact ⟨none, sz P t, vs, bx, _, _, by simp [freshOp, h1, g1], pr, BStep.refl _ _ _, w, rfl, cells_rc (by simpa using g2.1.symm) g3 (fun i l u hl hu => by
              rw [List.getElem?_map] at hl
              obtain ⟨y', hy', rfl⟩ := map_inv hl
              exact ⟨g2.2 i y' u hy' hu, fun _ => List.all_eq_true.1 g3 u (List.mem_of_getElem? hu)⟩), fun h' ρ' n hn => ref_lv hn⟩
        · exact w.elim
      | false =>
        simp only at w
        split at w
        · rename_i hs
          have rn := normT_sound (P := P) (t := t) r
          have one : ∀ l, RLV O h bx ρ l v → isOne v = true → K (.ref bx.length 0) (bx ++ [⟨1, .cells [l], .rw⟩]) → Fresh P (.box t x) h0 M O h e E bx ρ K := fun l rl ho w => by
            refine ⟨none, sz P t, [v], bx, _, _, ?_, pr, BStep.refl _ _ _, w, rfl, cells_rc rfl (by simp [ho]) (fun i l' u hl hu => ?_), fun h' ρ' n hn => ref_lv hn⟩
            · simp only [freshOp, h1, Option.bind_some, flatT, hg, Bool.false_eq_true, if_false]
              rw [if_pos ⟨ho, hs⟩]
              rfl
            · cases i with
              | zero => simp at hl hu; subst hl; subst hu; exact rl
              | succ i => simp at hl
          split at w
          · rename_i y hy
            rw [hy] at rn
            obtain ⟨z, hz, w⟩ := w
            obtain ⟨q1, q2⟩ := oneD_sound hz rn.1
            exact one (.d true z) ⟨q1, fun _ => q2⟩ q2 w
          · rename_i hne
            exact one _ rn (lv_one rn hne) w
        · exact w.elim
theorem partsL_sound (pr : PR h0 M O h e E bx ρ) : ∀ {ps : List (Nat × Operand)} {pl : List (Nat × LV)}, partsL E ps = some pl → (∀ x ∈ ps.map (·.2), cOk (entC (evL E x))) → ∃ pv, partsE P e ps = some pv ∧ pv.map (·.1) = pl.map (·.1) ∧ RLs O h bx ρ (pl.map (·.2)) (pv.map (·.2))
  | [], pl, k, hc => by unfold partsL at k; cases k; exact ⟨[], rfl, rfl, trivial⟩
  | x :: ps, pl, k, hc => by
    unfold partsL at k
    obtain ⟨a, h1, k⟩ := bind_inv k
    obtain ⟨pl', h2, h3⟩ := map_inv k
    subst h3
    obtain ⟨v, g1, g2⟩ := ev_of (P := P) pr h1 (hc x.2 (by simp))
    obtain ⟨pv, g3, g4, g5⟩ := partsL_sound pr h2 (fun y hy => hc y (by simp at hy ⊢; exact .inr hy))
    exact ⟨(x.1, v) :: pv, by simp [partsE, g1, g3], by simp [g4], g2, g5⟩
set_option linter.unusedVariables false in
theorem escParts_sound : ∀ {pl : List (Nat × LV)} {pd : List (Nat × D)} {bx bx' : List Bx} (pr : PR h0 M O h e E bx ρ) (k : escParts bx pl = some (pd, bx')), PR h0 M O h e E bx' ρ ∧ BStep O h bx ρ h bx' ρ ∧ pd.map (·.1) = pl.map (·.1) ∧ ∀ vs, RLs O h bx ρ (pl.map (·.2)) vs → RDs h (Pv O bx' ρ) (pd.map (·.2)) vs
  | [], pd, bx, bx', pr, k => by
    unfold escParts at k
    cases k
    refine ⟨pr, BStep.refl _ _ _, rfl, fun vs r => ?_⟩
    cases vs with
    | nil => exact RDs.nil
    | cons => exact r.elim
  | x :: pl, pd, bx, bx', pr, k => by
    unfold escParts at k
    obtain ⟨⟨y, bx1⟩, h1, k⟩ := bind_inv k
    obtain ⟨⟨pd', bx2⟩, h2, h3⟩ := map_inv k
    cases h3
    obtain ⟨p1, s1, r1⟩ := esc_sound pr h1
    obtain ⟨p2, s2, e2, r2⟩ := escParts_sound p1 h2
    refine ⟨p2, s1.trans s2, by simp [e2], fun vs r => ?_⟩
    cases vs with
    | nil => exact r.elim
    | cons v vs => exact RDs.cons ((r1 v r.1).keep s2.keep) (r2 vs (r.2.step s1))
set_option linter.unusedVariables false in
theorem RLs.norm {t : TypeId} : ∀ {pl : List (Nat × LV)} {vs : List Value}, RLs O h bx ρ (pl.map (·.2)) vs → RLs O h bx ρ ((pl.map fun p => (p.1, normT P t p.2)).map (·.2)) vs
  | [], [], r => r
  | [], _ :: _, r => r
  | _ :: _, [], r => r
  | _ :: pl, _ :: vs, r => ⟨normT_sound r.1, RLs.norm r.2⟩
theorem zOk_some {t : TypeId} (k : zOk P t = true) : ∃ z, zeroT P t = some z ∧ z.length = sz P t := by
  unfold zOk at k
  split at k
  · rename_i z hz; exact ⟨z, hz, Nat.eq_of_beq_eq_true k⟩
  · cases k
theorem buildSlice_fresh (pr : PR h0 M O h e E bx ρ) {t : TypeId} {n : Nat} {ps : Array (Nat × Operand)} (hc : ∀ x ∈ ps.toList.map (·.2), cOk (entC (evL E x))) (w : pRun S (popE P J (.buildSlice t n ps) E bx) K) : Fresh P (.buildSlice t n ps) h0 M O h e E bx ρ K := by
  unfold popE at w
  simp only at w
  cases he : elemT P t with
  | none => rw [he] at w; exact w.elim
  | some el =>
    rw [he, Option.bind_some] at w
    cases hp : partsL E ps.toList with
    | none => rw [hp] at w; exact w.elim
    | some pl =>
      rw [hp, Option.bind_some] at w
      cases hs : escParts bx (pl.map fun p => (p.1, normT P el p.2)) with
      | none => rw [hs] at w; exact w.elim
      | some r =>
        obtain ⟨pd, bx1⟩ := r
        rw [hs] at w
        obtain ⟨m, ds, hl, w⟩ := w
        obtain ⟨pv, g1, g2, g3⟩ := partsL_sound (P := P) pr hp hc
        obtain ⟨p1, s1, e1, r1⟩ := escParts_sound pr hs
        have rd := r1 _ g3.norm
        unfold litS at hl
        rw [he, Option.bind_some] at hl
        split at hl
        · rename_i hcnd
          obtain ⟨c1, c2, c3, c4⟩ := hcnd
          obtain ⟨l, q1, q2⟩ := map_inv hl
          cases q2
          obtain ⟨z, z1, z2⟩ := zOk_some c1
          obtain ⟨us, u1, u2, u3, u4⟩ := catD_sound q1 rd
          have hlen : pv.length = n := by
            have := congrArg List.length (show pv.map (·.1) = List.range n by rw [g2, ← c2, e1]; simp)
            simpa using this
          have hlen2 : (pd.map (·.2)).length = n := by rw [rd.1]; simpa using hlen
          have hpv : pv = (List.range' 0 n).zip (pv.map (·.2)) := by
            conv => lhs; rw [zip_fst_snd pv]
            rw [g2, show pl.map (·.1) = List.range n by rw [← c2, e1]; simp, List.range_eq_range']
          have hfill := u4 0 (reps n z) (by rw [reps_len, z2, hlen2]; simp)
          rw [hlen2, ← hpv] at hfill
          simp only [Nat.zero_mul, List.take_zero, List.nil_append] at hfill
          refine ⟨some (n, n), sz P el, us, bx1, _, _, ?_, p1, s1, w, rfl, row_rc u2 u1, fun h' ρ' k hn => full_lv (by rw [u3, hlen2]) hn⟩
          simp only [freshOp, g1, Option.bind_some, freshBS, buildSliceA, he, z1]
          rw [if_pos z2, if_pos ⟨c3, c4⟩, hfill]
          simp [Heap.push]
        · cases hl
theorem sameOp_ev {l c : Operand} (k : sameOp l c = true) {v : Value} (h1 : ev P e l = some v) (_ : ∃ n, v = .int .i64 n) : ev P e c = some v := by
  unfold sameOp at k
  split at k
  · rw [← Nat.eq_of_beq_eq_true k]; exact h1
  · rename_i m n
    have : m = n := by simpa using k
    rw [← this]; exact h1
  · cases k
theorem makeSlice_fresh (pr : PR h0 M O h e E bx ρ) {t : TypeId} {l c : Operand} (hc : cOk (entC (evL E l))) (w : pRun S (popE P J (.makeSlice t l c) E bx) K) : Fresh P (.makeSlice t l c) h0 M O h e E bx ρ K := by
  unfold popE at w
  simp only at w
  split at w
  · rename_i hsame
    cases ha : evL E l with
    | none => rw [ha] at w; exact w.elim
    | some a =>
      obtain ⟨v, h1, r⟩ := ev_of (P := P) pr ha hc
      rw [ha, Option.bind_some] at w
      cases he : elemT P t with
      | none => rw [he] at w; exact w.elim
      | some el =>
        rw [he, Option.bind_some] at w
        cases hz : zeroDs P el with
        | none => rw [hz] at w; exact w.elim
        | some zs =>
          rw [hz, Option.bind_some] at w
          split at w
          · rename_i o x hx
            rw [hx] at r
            split at w
            · rename_i hcnd
              obtain ⟨n, ds, hm, w⟩ := w
              unfold mkD at hm
              split at hm
              · rename_i n0
                split at hm
                · rename_i hb
                  cases hm
                  have hv : v = .int .i64 n0 := by
                    have := r.1
                    cases this; rfl
                  subst hv
                  obtain ⟨vs, g1, g2, g3⟩ := zeroDs_sound (h := h) (p := Pv O bx ρ) hz
                  have hlz : vs.length = sz P el := by rw [← g3.1]; exact hcnd.1
                  refine ⟨some (n0.toNat, n0.toNat), sz P el, reps n0.toNat vs, bx, _, _, ?_, pr, BStep.refl _ _ _, w, rfl, row_rc (g3.rep _) ?_, fun h' ρ' k hn => full_lv ?_ hn⟩
                  · simp only [freshOp, h1, sameOp_ev hsame h1 ⟨n0, rfl⟩, Option.bind_some, freshMS, makeSliceA, he, g1]
                    rw [if_pos ⟨hb.1, Int.le_refl _, hb.2.1, hb.2.2, hlz, hcnd.2⟩]
                    simp [Heap.push]
                  · rw [List.all_eq_true]
                    intro u hu
                    unfold reps at hu
                    obtain ⟨l', hl1, hl2⟩ := List.mem_flatten.1 hu
                    rw [(List.mem_replicate.1 hl1).2] at hl2
                    exact List.all_eq_true.1 g2 u hl2
                  · simp [List.length_flatten, hcnd.1]
                · cases hm
              · cases hm
            · exact w.elim
          · exact w.elim
  · exact w.elim
end
end Go.Proofs.YtlihmncbhaimkaaDoor.Am
