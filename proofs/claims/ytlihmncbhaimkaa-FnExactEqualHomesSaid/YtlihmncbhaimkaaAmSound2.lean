/- Code of the abstract machine is code of the model; calls, too. -/
import Derived.Test.YtlihmncbhaimkaaAmSound1
import Derived.LoopN
import Derived.Scope
namespace Go.Proofs.Ytlihmncbhaimkaa.Am
open Go Go.RowKit

section
variable {P : Program} {H : Nat → Option (List Nat)} {C : Oracle} {base : Nat}
def Ex.out : Ex → Exit
  | .normal => .normal
  | .exit id => .exit id
  | .ret => .ret

/-! ### Variables that are not assigned stay -/
theorem opsA_keep {ops : List Oper} {n : Nat} : ∀ (l : List Oper) (e e' : Env) (h h' : Heap), n ∉ dstsOps l → opsA P C ops l e h = some (e', h') → e' n = e n
  | [], e, e', h, h', _, k => by simp only [opsA] at k; cases k; rfl
  | o :: l, e, e', h, h', hn, k => by
    unfold opsA at k
    obtain ⟨⟨v, h1⟩, hst, k⟩ := bind_inv k
    simp only [dstsOps, List.filterMap_cons] at hn
    cases hd : o.dst with
    | none =>
      rw [hd] at hn k
      exact opsA_keep l e e' h1 h' hn k
    | some d =>
      rw [hd] at hn k
      simp only [List.mem_cons, not_or] at hn
      rw [opsA_keep l _ e' h1 h' hn.2 k]
      exact upd_ne (by simp; exact fun e => hn.1 e.symm)
theorem drawA_keep {ops : List Oper} {b : List Nat} {n : Nat} : ∀ (l : List (Oper × Nat)) (e e' : Env) (h h' : Heap) (rs : List (Nat × Oper × Env × Value)) (hs : List (Nat × Heap)), n ∉ dstsOps (l.map (·.1)) → drawA P C ops b l e h rs hs = some (e', h') → e' n = e n
  | [], e, e', h, h', _, _, _, k => by simp only [drawA] at k; cases k; rfl
  | (o, i) :: l, e, e', h, h', rs, hs, hn, k => by
    unfold drawA at k
    obtain ⟨⟨v, h1⟩, hst, k⟩ := bind_inv k
    have h2 : n ∉ dstsOps (l.map (·.1)) := fun hm => hn (by
      simp only [dstsOps, List.map_cons, List.mem_filterMap, List.mem_cons] at hm ⊢
      obtain ⟨x, hx, e⟩ := hm
      exact ⟨x, .inr hx, e⟩)
    have h3 : upd e o.dst (some v) n = e n := upd_ne fun hd => hn (by
      simp only [dstsOps, List.map_cons, List.mem_filterMap, List.mem_cons]
      exact ⟨o, .inl rfl, hd⟩)
    simp only at k
    cases hc : clsOf o.op with
    | quiet => rw [hc] at k; rw [drawA_keep l _ e' _ h' _ _ h2 k, h3]
    | read =>
      rw [hc] at k; simp only at k
      split at k
      · rw [drawA_keep l _ e' _ h' _ _ h2 k, h3]
      · cases k
    | chain =>
      rw [hc] at k; simp only at k
      split at k
      · rw [drawA_keep l _ e' _ h' _ _ h2 k, h3]
      · cases k
theorem regionA_keep {ops : List Oper} {draw : Bool} {e e' : Env} {h h' : Heap} {n : Nat} (hn : n ∉ dstsOps ops) (k : regionA P C ops draw e h = some (e', h')) : e' n = e n := by
  unfold regionA at k
  split at k
  · simp only at k
    split at k
    · exact drawA_keep _ e e' h h' _ _ (by simpa using hn) k
    · cases k
  · exact opsA_keep _ e e' h h' hn k
theorem headE_out {e : Env} {L K : List Nat} {vs : Vs} {n : Nat} (hn : n ∉ K) : headE e L K vs n = e n := by
  unfold headE
  rw [if_neg (by simpa using hn)]
theorem joinE_keep {e e' : Env} {K : List Nat} {L : Option (List Nat)} {n : Nat} (hn : n ∉ K) (h : e' n = e n) : joinE e K L e' n = e n := by
  cases L with
  | none => exact h
  | some L => exact headE_out hn
theorem den_keep {n : Nat} : ∀ (c : Code) (e e' : Env) (h h' : Heap) (x : Ex), n ∉ asg c → den P H C c e h = some (x, e', h') → e' n = e n
  | .skip, e, e', h, h', x, _, k => by simp only [den] at k; cases k; rfl
  | .region _ ops d, e, e', h, h', x, hn, k => by
    simp only [den] at k
    obtain ⟨⟨e1, h1⟩, hr, hk⟩ := map_inv k
    cases hk
    exact regionA_keep hn hr
  | .seq a b, e, e', h, h', x, hn, k => by
    simp only [asg, List.mem_append, not_or] at hn
    simp only [den] at k
    obtain ⟨⟨x1, e1, h1⟩, hr, k⟩ := bind_inv k
    have i1 := den_keep a e e1 h h1 x1 hn.1 hr
    cases x1 with
    | normal =>
      rw [den_keep b _ e' h1 h' x hn.2 k]
      exact joinE_keep hn.1 i1
    | exit id => cases k; exact i1
    | ret => cases k; exact i1
  | .cond c a b, e, e', h, h', x, hn, k => by
    simp only [asg, List.mem_append, not_or] at hn
    simp only [den] at k
    obtain ⟨v, hv, k⟩ := bind_inv k
    cases v <;> try (cases k; done)
    rename_i t
    cases t with
    | true => exact den_keep a e e' h h' x hn.1 k
    | false => exact den_keep b e e' h h' x hn.2 k
  | .block id c, e, e', h, h', x, hn, k => by
    simp only [den] at k
    obtain ⟨⟨x1, e1, h1⟩, hr, hk⟩ := map_inv k
    cases hk
    exact den_keep c e _ h _ x1 hn hr
  | .loop c, e, e', h, h', x, hn, k => by
    simp only [den] at k
    obtain ⟨⟨x1, s1⟩, hr, hk⟩ := map_inv k
    cases hk
    exact headE_out hn
  | .exit id, e, e', h, h', x, _, k => by simp only [den] at k; cases k; rfl
  | .ret, e, e', h, h', x, _, k => by simp only [den] at k; cases k; rfl
  | .scope c, e, e', h, h', x, hn, k => by simp only [den] at k; exact den_keep c e e' h h' x hn k
  | .label _, e, e', h, h', x, _, k => by simp only [den] at k; cases k; rfl
  | .rangeFunc .., e, e', h, h', x, _, k => by simp only [den] at k; cases k
  | .goto .., e, e', h, h', x, _, k => by simp only [den] at k; cases k
  | .refuse .., e, e', h, h', x, _, k => by simp only [den] at k; cases k

theorem RE.head {r : Ren} {e e' : Env} {tmps : Array Value} {L K : List Nat} (he : RE r e' tmps) (hk : ∀ n, n ∉ K → e' n = e n) : RE r (headE e L K (L.map e')) tmps := by
  intro n v hv
  unfold headE at hv
  split at hv
  · split at hv
    · rename_i h1 h2
      have hm : n ∈ L := by simpa using h2
      have hlt : L.idxOf n < L.length := List.idxOf_lt_length_iff.2 hm
      rw [List.getD_eq_getElem?_getD, List.getElem?_map, List.getElem?_eq_getElem hlt, List.getElem_idxOf hlt] at hv
      exact he n v hv
    · cases hv
  · rename_i h1
    exact he n v (by rw [hk n (by simpa using h1)]; exact hv)

theorem RE.join {r : Ren} {e e' : Env} {tmps : Array Value} {K : List Nat} {L : Option (List Nat)} (he : RE r e' tmps) (hk : ∀ n, n ∉ K → e' n = e n) : RE r (joinE e K L e') tmps := by
  unfold joinE
  split
  · exact he
  · exact he.head hk
theorem den_sim (hC : OSound P C) (hm : P.follows .mixedOrders = true) : ∀ (c : Code) (Q : Exit → Act → World → Prop) (r : Ren) (e e' : Env) (h h' : Heap) (x : Ex) (a : Act) (w : World), den P H C c e h = some (x, e', h') → SR P base r e h a w → (∀ n ∈ asg c, n < a.tmps.size) →
    (∀ r' a' w', SR P base r' e' h' a' w' → SS base r a w r' a' w' → Q x.out a' w') → c.wp P Q a w
  | .skip, Q, r, e, e', h, h', x, a, w, k, hs, hd, hn => by
    simp only [den] at k; cases k
    exact wp_skip (hn r a w hs SS.refl)
  | .region _ ops d, Q, r, e, e', h, h', x, a, w, k, hs, hd, hn => by
    simp only [den] at k
    obtain ⟨⟨e1, h1⟩, hr, hk⟩ := map_inv k
    cases hk
    exact regionA_sim hC hm hs hd hr hn
  | .seq c1 c2, Q, r, e, e', h, h', x, a, w, k, hs, hd, hn => by
    simp only [den] at k
    obtain ⟨⟨x1, e1, h1⟩, hr, k⟩ := bind_inv k
    refine wp_seq (den_sim hC hm c1 _ r e e1 h h1 x1 a w hr hs (fun n hm => hd n (by simp [asg, hm])) fun r' a' w' hs' hss' => ?_)
    cases x1 with
    | normal => exact den_sim hC hm c2 Q r' _ e' h1 h' x a' w' k ⟨hs'.re.join fun n hn' => den_keep c1 e e1 h h1 .normal hn' hr, hs'.rh, hs'.nd⟩ (fun n hm => by rw [hss'.size]; exact hd n (by simp [asg, hm])) fun r2 a2 w2 hs2 hss2 => hn r2 a2 w2 hs2 (hss'.trans hss2)
    | exit id => cases k; exact hn r' a' w' hs' hss'
    | ret => cases k; exact hn r' a' w' hs' hss'
  | .cond c c1 c2, Q, r, e, e', h, h', x, a, w, k, hs, hd, hn => by
    simp only [den] at k
    obtain ⟨v, hv, k⟩ := bind_inv k
    cases v <;> try (cases k; done)
    rename_i t
    have hev : a.eval c = .bool t := by
      have := ev_sim hs.rh hs.re hv
      generalize a.eval c = u at this
      cases this
      rfl
    refine wp_cond hev ?_
    cases t with
    | true => exact den_sim hC hm c1 Q r e e' h h' x a w k hs (fun n hm => hd n (by simp [asg, hm])) hn
    | false => exact den_sim hC hm c2 Q r e e' h h' x a w k hs (fun n hm => hd n (by simp [asg, hm])) hn
  | .block id c, Q, r, e, e', h, h', x, a, w, k, hs, hd, hn => by
    simp only [den] at k
    obtain ⟨⟨x1, e1, h1⟩, hr, hk⟩ := map_inv k
    simp only [Prod.mk.injEq] at hk
    obtain ⟨hx, he, hh⟩ := hk
    subst he hh
    refine wp_block (den_sim hC hm c _ r e e1 h h1 x1 a w hr hs hd fun r' a' w' hs' hss' => ?_)
    have := hn r' a' w' hs' hss'
    cases x1 with
    | normal => rw [if_neg (by simp)] at hx; subst hx; exact this
    | ret => rw [if_neg (by simp)] at hx; subst hx; exact this
    | exit id' =>
      show if id' = id then Q .normal a' w' else Q (.exit id') a' w'
      by_cases hid : id' = id
      · rw [if_pos (by rw [hid])] at hx; subst hx; rw [if_pos hid]; exact this
      · rw [if_neg (by simpa using hid)] at hx; subst hx; rw [if_neg hid]; exact this
  | .loop c, Q, r, e, e', h, h', x, a, w, k, hs, hd, hn => by
    simp only [den] at k
    obtain ⟨⟨x1, s1⟩, hr, hk⟩ := map_inv k
    simp only [Prod.mk.injEq] at hk
    obtain ⟨hx, he, hh⟩ := hk
    subst hx he hh
    unfold loopW at hr
    split at hr
    case isFalse => cases hr
    rename_i hex
    generalize hex.choose = N at hr
    refine wp_loop_rounds N ?_
    have key : ∀ (N : Nat) (ed : Env) (hh : Heap) (r2 : Ren) (a2 : Act) (w2 : World), (∀ n, n ∉ asg c → ed n = e n) → SR P base r2 ed hh a2 w2 → SS base r a w r2 a2 w2 →
        loopN (fun (s : Vs × Heap) => (den P H C c (headE e (loopH H c) (asg c) s.1) s.2).map fun (x, e', h') => (x, ((loopH H c).map e', h'))) N ((loopH H c).map ed, hh) = some (x1, s1) →
        Code.rounds P c Q N a2 w2 := by
      intro N
      induction N with
      | zero => intro ed hh r2 a2 w2 _ _ _ k; simp only [loopN] at k; cases k
      | succ N ih =>
        intro ed hh r2 a2 w2 hked hs2 hss2 k
        rw [rounds_succ]
        unfold loopN at k
        obtain ⟨⟨x2, s2⟩, hF, k⟩ := bind_inv k
        obtain ⟨⟨x3, e3, h3⟩, hden, hk⟩ := map_inv hF
        simp only [Prod.mk.injEq] at hk
        obtain ⟨q1, q2⟩ := hk
        subst q1 q2
        have hk3 : ∀ n, n ∉ asg c → e3 n = e n := fun n hn' => by
          rw [den_keep c _ e3 _ h3 x3 hn' hden]
          exact headE_out hn'
        refine den_sim hC hm c _ r2 _ e3 hh h3 x3 a2 w2 hden ⟨hs2.re.head hked, hs2.rh, hs2.nd⟩ (fun n hm => by rw [hss2.size]; exact hd n hm) fun r4 a4 w4 hs4 hss4 => ?_
        cases x3 with
        | normal => exact ih e3 h3 r4 a4 w4 hk3 hs4 (hss2.trans hss4) k
        | exit id => cases k; exact hn r4 a4 w4 ⟨hs4.re.head hk3, hs4.rh, hs4.nd⟩ (hss2.trans hss4)
        | ret => cases k; exact hn r4 a4 w4 ⟨hs4.re.head hk3, hs4.rh, hs4.nd⟩ (hss2.trans hss4)
    exact key N e h r a w (fun _ _ => rfl) hs SS.refl hr
  | .exit id, Q, r, e, e', h, h', x, a, w, k, hs, hd, hn => by
    simp only [den] at k; cases k
    exact wp_exit (hn r a w hs SS.refl)
  | .ret, Q, r, e, e', h, h', x, a, w, k, hs, hd, hn => by
    simp only [den] at k; cases k
    exact wp_ret (hn r a w hs SS.refl)
  | .scope c, Q, r, e, e', h, h', x, a, w, k, hs, hd, hn => by
    simp only [den] at k
    refine wp_scope_straight (den_sim hC hm c _ r e e' h h' x a w k hs hd fun r' a' w' hs' hss' => ?_)
    have := hn r' a' w' hs' hss'
    cases x <;> exact this
  | .label _, Q, r, e, e', h, h', x, a, w, k, hs, hd, hn => by
    simp only [den] at k; cases k
    exact wp_label (hn r a w hs SS.refl)
  | .rangeFunc .., Q, r, e, e', h, h', x, a, w, k, hs, hd, hn => by simp only [den] at k; cases k
  | .goto .., Q, r, e, e', h, h', x, a, w, k, hs, hd, hn => by simp only [den] at k; cases k
  | .refuse .., Q, r, e, e', h, h', x, a, w, k, hs, hd, hn => by simp only [den] at k; cases k

/-! ### Calls -/
def resV (tmps : Array Value) : ResultVar → Sem Value
  | .tmp t => pure (tmps.getD t undef)
  | .cell a t => do loadVar t (← asAddr (tmps.getD a undef))
theorem results_eq (fn : Func) (tmps : Array Value) : results fn tmps = (fn.results.mapM (resV tmps) >>= fun vs => pure (if h : vs.size = 1 then vs[0] else .tuple vs)) := rfl
theorem resA_sim {r : Ren} {e : Env} {h : Heap} {tmps : Array Value} {w : World} (hr : RH P base r h w) (he : RE r e tmps) : ∀ {l : List ResultVar} {vs : List Value}, resA P e h l = some vs → ∃ vs', RL r vs vs' ∧ (l.mapM (resV tmps)).run P w = .ok vs' w
  | [], vs, k => by simp only [resA] at k; cases k; exact ⟨[], RL.nil r, by simp⟩
  | .tmp t :: l, vs, k => by
    simp only [resA] at k
    obtain ⟨v, hv, k⟩ := bind_inv k
    obtain ⟨us, hus, hk⟩ := map_inv k
    subst hk
    obtain ⟨v', h1, h2⟩ := he t v hv
    obtain ⟨vs', h3, h4⟩ := resA_sim hr he hus
    refine ⟨v' :: vs', RL.cons h2 h3, ?_⟩
    have e1 : tmps.getD t undef = v' := by rw [Array.getD_eq_getD_getElem?, h1]; rfl
    simp only [List.mapM_cons, Sem.run_bind, resV, Sem.run_pure, Result.andThen_ok, h4, e1]
  | .cell a t :: l, vs, k => by
    simp only [resA] at k
    obtain ⟨p, hp, k⟩ := bind_inv k
    obtain ⟨v, hv, k⟩ := bind_inv k
    obtain ⟨us, hus, hk⟩ := map_inv k
    subst hk
    obtain ⟨p', h1, h2⟩ := he a p hp
    obtain ⟨v', h5, h6⟩ := loadA_sim hr h2 hv
    obtain ⟨vs', h3, h4⟩ := resA_sim hr he hus
    refine ⟨v' :: vs', RL.cons h6 h3, ?_⟩
    have e1 : tmps.getD a undef = p' := by rw [Array.getD_eq_getD_getElem?, h1]; rfl
    have e2 : (do loadVar t (← asAddr p') : Sem Value).run P w = .ok v' w := by
      unfold loadA at hv
      split at hv
      · cases h2 with
        | ptr b i x hx => exact h5
      · cases hv
    simp only [List.mapM_cons, Sem.run_bind, resV, e1]
    simp only [Sem.run_bind] at e2
    rw [e2]
    simp only [Sem.run_pure, Result.andThen_ok, h4]
theorem packR_sim {r : Ren} {l l' : List Value} (hl : RL r l l') : RV r (packR l) (if h : l'.toArray.size = 1 then l'.toArray[0] else .tuple l'.toArray) := by
  have hlen := hl.1
  match l, l', hl, hlen with
  | [v], [v'], hl, _ => exact (hl.head : RV r v v')
  | [], [], hl, _ => exact .tuple _ _ rfl (fun i v v' hv => by simp at hv)
  | v :: u :: l, v' :: u' :: l', hl, _ =>
    rw [dif_neg (by simp)]
    exact RV.of_tuple hl
theorem argE_sim {r : Ren} {args : List Value} {args' : Array Value} {n : Nat} (ha : RL r args args'.toList) : RE r (argE args n) (args' ++ Array.replicate (n - args'.size) undef) := by
  intro i v hv
  have hsz : args.length = args'.size := by simpa using ha.1
  unfold argE at hv
  split at hv
  · rename_i hi
    obtain ⟨v', h1, h2⟩ := ha.get hv
    exact ⟨v', by rw [Array.getElem?_append_left (by omega)]; simpa using h1, h2⟩
  · split at hv
    · rename_i hi hn
      cases hv
      refine ⟨undef, ?_, RV.undef r⟩
      rw [Array.getElem?_append_right (by omega), Array.getElem?_replicate, if_pos (by omega)]
    · cases hv
theorem funA_sim (hC : OSound P C) (hm : P.follows .mixedOrders = true) {f : FuncId} {fn : Func} (hf : P.funcs[f]? = some fn) {args : List Value} {h h' : Heap} {v : Value} (k : funA P H C fn args h = some (v, h')) :
    (∃ fn, P.funcs[f]? = some fn ∧ fn.body.isSome = true ∧ fn.name ≠ "runtime.NumGoroutine") ∧
    ∀ (base : Nat) (r : Ren) (w : World) (args' : Array Value), RL r args args'.toList → RH P base r h w →
      Calls P f args' w fun e w' => ∃ r' v', e = .returned v' ∧ RV r' v v' ∧ Step P base r w r' h' w' := by
  unfold funA at k
  split at k
  · cases k
  rename_i hname
  split at k
  · cases k
  rename_i c hbody
  split at k
  case isFalse => cases k
  rename_i hasg
  refine ⟨⟨fn, hf, by rw [hbody]; rfl, hname⟩, fun base r w args' ha hr => ?_⟩
  obtain ⟨⟨x, e, h1⟩, hden, k⟩ := bind_inv k
  refine calls_of_wp hf hbody (den_sim hC hm c _ r _ e h h1 x _ w hden ⟨argE_sim ha, hr, rfl⟩ (fun n hn => ?_) fun r' a' w' hs hss => ?_)
  · have := List.all_eq_true.1 hasg n hn
    simp only [decide_eq_true_eq] at this
    simp only [Array.size_append, Array.size_replicate]
    omega
  · have fin : ∀ l, resA P e h1 fn.results.toList = some l → (packR l, h1) = (v, h') → a'.defers = [] ∧ ∃ v', (results fn a'.tmps).run P w' = .ok v' w' ∧ ∃ r' v2, Ending.returned v' = .returned v2 ∧ RV r' v v2 ∧ Step P base r w r' h' w' := by
      intro l hl he
      cases he
      obtain ⟨vs', h2, h3⟩ := resA_sim hs.rh hs.re hl
      rw [results_eq, Array.mapM_eq_mapM_toList]
      refine ⟨hs.nd, (if h : vs'.toArray.size = 1 then vs'.toArray[0] else .tuple vs'.toArray), ?_, r', _, rfl, packR_sim h2, ⟨hss.le, hs.rh, hss.below⟩⟩
      rw [Sem.run_bind, Sem.run_map, h3]
      rfl
    cases x with
    | exit id => cases k
    | normal =>
      obtain ⟨l, hl, hk⟩ := map_inv k
      exact fin l hl hk
    | ret =>
      obtain ⟨l, hl, hk⟩ := map_inv k
      exact fin l hl hk
end
section
variable {P : Program} {H : Hints} {X : FuncId → Option (List Value → Heap → Option (Value × Heap))}
/-- What is taken from outside is true of the model. -/
def XSound (P : Program) (X : FuncId → Option (List Value → Heap → Option (Value × Heap))) : Prop := OSound P fun f args h => (X f).bind fun g => g args h
theorem XSound.none {P : Program} : XSound P fun _ => none := fun f args h v h' k => by cases k
theorem callN_sim (hX : XSound P X) (hm : P.follows .mixedOrders = true) : ∀ n, OSound P (callN P H X n)
  | 0 => fun f args h v h' k => by simp only [callN] at k; cases k
  | n + 1 => fun f args h v h' k => by
    unfold callN at k
    cases hx : X f with
    | some g =>
      rw [hx] at k
      exact hX f args h v h' (by simp only [hx, Option.bind_some]; exact k)
    | none =>
      rw [hx] at k
      simp only at k
      cases hf : P.funcs[f]? with
      | none => rw [hf] at k; cases k
      | some fn =>
        rw [hf] at k
        have := funA_sim (callN_sim hX hm n) hm hf k
        rw [hf] at this
        exact this
theorem call_sim (hX : XSound P X) (hm : P.follows .mixedOrders = true) : OSound P (call P H X) := fun f args h v h' k => by
  unfold call at k
  split at k
  · exact callN_sim hX hm _ f args h v h' k
  · cases k
end
end Go.Proofs.Ytlihmncbhaimkaa.Am
