/- A call is what its body comes to; a loop is a round and the loop again. -/
import Derived.Test.YtlihmncbhaimkaaAmSound2
namespace Go.Proofs.Ytlihmncbhaimkaa.Am
open Go Go.RowKit

section
variable {P : Program} {H : Nat → Option (List Nat)} {C C' : Oracle}
/-- More is known. -/
def OLe (C C' : Oracle) : Prop := ∀ f args h r, C f args h = some r → C' f args h = some r
theorem OLe.refl (C : Oracle) : OLe C C := fun _ _ _ _ k => k
theorem callA_le (hC : OLe C C') {f : Value} {args : List Value} {h : Heap} {r : Value × Heap} (k : callA C f args h = some r) : callA C' f args h = some r := by
  unfold callA at k ⊢
  split at k
  · exact hC _ _ _ _ k
  · cases k
/-- An operation calls, or it does not ask the oracle. -/
theorem opA_ask (C : Oracle) (op : Op) (e : Env) (h : Heap) : (∀ C', opA P C' op e h = opA P C op e h) ∨ ∃ f args, ∀ C', opA P C' op e h = (ev P e f).bind fun f => (evs P e args).bind fun args => callA C' f args h := by
  unfold opA
  split
  all_goals first
    | exact .inl fun C' => rfl
    | (rename_i f args _; exact .inr ⟨f, args.toList, fun C' => rfl⟩)
theorem opA_le (hC : OLe C C') {op : Op} {e : Env} {h : Heap} {r : Value × Heap} (k : opA P C op e h = some r) : opA P C' op e h = some r := by
  rcases opA_ask (P := P) C op e h with h1 | ⟨f, args, h1⟩
  · rw [h1]; exact k
  · rw [h1] at k ⊢
    obtain ⟨f', hf, k⟩ := bind_inv k
    obtain ⟨as, ha, k⟩ := bind_inv k
    rw [hf, Option.bind_some, ha, Option.bind_some]
    exact callA_le hC k
theorem stepA_le (hC : OLe C C') {ops : List Oper} {o : Oper} {e : Env} {h : Heap} {r : Value × Heap} (k : stepA P C ops o e h = some r) : stepA P C' ops o e h = some r := by
  unfold stepA at k ⊢
  obtain ⟨b, hb, k⟩ := bind_inv k
  rw [hb, Option.bind_some]
  cases b with
  | true => exact opA_le hC k
  | false => exact k
theorem opsA_le (hC : OLe C C') {ops : List Oper} : ∀ (l : List Oper) (e : Env) (h : Heap) r, opsA P C ops l e h = some r → opsA P C' ops l e h = some r
  | [], e, h, r, k => k
  | o :: l, e, h, r, k => by
    unfold opsA at k ⊢
    obtain ⟨⟨v, h1⟩, hs, k⟩ := bind_inv k
    rw [stepA_le hC hs, Option.bind_some]
    exact opsA_le hC l _ _ _ k
theorem drawA_le (hC : OLe C C') {ops : List Oper} {b : List Nat} : ∀ (l : List (Oper × Nat)) (e : Env) (h : Heap) rs hs r, drawA P C ops b l e h rs hs = some r → drawA P C' ops b l e h rs hs = some r
  | [], e, h, rs, hs, r, k => k
  | (o, i) :: l, e, h, rs, hs, r, k => by
    unfold drawA at k ⊢
    obtain ⟨⟨v, h1⟩, hst, k⟩ := bind_inv k
    rw [stepA_le hC hst, Option.bind_some]
    simp only at k ⊢
    cases hc : clsOf o.op with
    | quiet => rw [hc] at k; exact drawA_le hC l _ _ _ _ _ k
    | read =>
      rw [hc] at k; simp only at k ⊢
      split at k
      · rename_i hall
        rw [if_pos fun x hx hord => stepA_le hC (hall x hx hord)]
        exact drawA_le hC l _ _ _ _ _ k
      · cases k
    | chain =>
      rw [hc] at k; simp only at k ⊢
      split at k
      · rename_i hall
        rw [if_pos fun x hx hord => stepA_le hC (hall x hx hord)]
        exact drawA_le hC l _ _ _ _ _ k
      · cases k
theorem regionA_le (hC : OLe C C') {ops : List Oper} {d : Bool} {e : Env} {h : Heap} {r : Env × Heap} (k : regionA P C ops d e h = some r) : regionA P C' ops d e h = some r := by
  unfold regionA at k ⊢
  split at k
  · rename_i hd
    rw [if_pos hd]
    simp only at k ⊢
    split at k
    · rename_i hok
      rw [if_pos hok]
      exact drawA_le hC _ _ _ _ _ _ k
    · cases k
  · rename_i hd
    rw [if_neg hd]
    exact opsA_le hC _ _ _ _ k

/-! ### Loops -/
section
variable {σ : Type} {F F' : σ → Option (Ex × σ)}
theorem loopN_le (hF : ∀ s r, F s = some r → F' s = some r) : ∀ n s r, loopN F n s = some r → loopN F' n s = some r
  | 0, s, r, k => by simp only [loopN] at k; cases k
  | n + 1, s, r, k => by
    unfold loopN at k ⊢
    obtain ⟨⟨x, s1⟩, hs, k⟩ := bind_inv k
    rw [hF _ _ hs, Option.bind_some]
    cases x with
    | normal => exact loopN_le hF n _ _ k
    | exit id => exact k
    | ret => exact k
theorem loopN_succ : ∀ n s r, loopN F n s = some r → loopN F (n + 1) s = some r
  | 0, s, r, k => by simp only [loopN] at k; cases k
  | n + 1, s, r, k => by
    unfold loopN at k ⊢
    obtain ⟨⟨x, s1⟩, hs, k⟩ := bind_inv k
    rw [hs, Option.bind_some]
    cases x with
    | normal => exact loopN_succ n _ _ k
    | exit id => exact k
    | ret => exact k
theorem loopN_add {n s r} (k : loopN F n s = some r) : ∀ m, loopN F (n + m) s = some r
  | 0 => k
  | m + 1 => loopN_succ _ _ _ (loopN_add k m)
theorem loopW_some {s : σ} {r : Ex × σ} : loopW F s = some r ↔ ∃ n, loopN F n s = some r := by
  constructor
  · intro k
    unfold loopW at k
    split at k
    · exact ⟨_, k⟩
    · cases k
  · rintro ⟨n, k⟩
    unfold loopW
    have hex : ∃ n r, loopN F n s = some r := ⟨n, r, k⟩
    rw [dif_pos hex]
    obtain ⟨r', hr'⟩ := hex.choose_spec
    have h1 := loopN_add hr' n
    have h2 := loopN_add k hex.choose
    rw [Nat.add_comm] at h2
    rw [h1] at h2
    rw [hr', h2]
theorem loopW_le (hF : ∀ s r, F s = some r → F' s = some r) {s r} (k : loopW F s = some r) : loopW F' s = some r := by
  obtain ⟨n, hn⟩ := loopW_some.1 k
  exact loopW_some.2 ⟨n, loopN_le hF n s r hn⟩
theorem loopW_done {s s' : σ} {x : Ex} (k : F s = some (x, s')) (hx : x ≠ .normal) : loopW F s = some (x, s') :=
  loopW_some.2 ⟨1, by
    unfold loopN
    rw [k, Option.bind_some]
    cases x with
    | normal => exact absurd rfl hx
    | exit id => rfl
    | ret => rfl⟩
theorem loopW_more {s s' : σ} (k : F s = some (.normal, s')) : loopW F s = loopW F s' := by
  have key : ∀ r, loopW F s = some r ↔ loopW F s' = some r := fun r => by
    rw [loopW_some, loopW_some]
    constructor
    · rintro ⟨n, hn⟩
      cases n with
      | zero => simp only [loopN] at hn; cases hn
      | succ n => unfold loopN at hn; rw [k, Option.bind_some] at hn; exact ⟨n, hn⟩
    · rintro ⟨n, hn⟩
      exact ⟨n + 1, by unfold loopN; rw [k, Option.bind_some]; exact hn⟩
  cases h : loopW F s' with
  | some r => exact (key r).2 h
  | none =>
    cases h2 : loopW F s with
    | none => rfl
    | some r => rw [(key r).1 h2] at h; cases h
/-- A loop with an invariant and a measure. -/
theorem loopW_rule (I : σ → Prop) (μ : σ → Nat) (R : Ex → σ → Prop) (hround : ∀ s, I s → ∃ x s', F s = some (x, s') ∧ (x = .normal → I s' ∧ μ s' < μ s) ∧ (x ≠ .normal → R x s')) : ∀ s, I s → ∃ x s', loopW F s = some (x, s') ∧ x ≠ .normal ∧ R x s' := by
  have key : ∀ n s, μ s ≤ n → I s → ∃ x s', loopW F s = some (x, s') ∧ x ≠ .normal ∧ R x s' := by
    intro n
    induction n using Nat.strongRecOn with
    | _ n ih =>
      intro s hn hs
      obtain ⟨x, s', h1, h2, h3⟩ := hround s hs
      by_cases hx : x = .normal
      · subst hx
        obtain ⟨h4, h5⟩ := h2 rfl
        obtain ⟨y, s2, k1, k2⟩ := ih (μ s') (by omega) s' (Nat.le_refl _) h4
        exact ⟨y, s2, by rw [loopW_more h1]; exact k1, k2⟩
      · exact ⟨x, s', loopW_done h1 hx, hx, h3 hx⟩
  exact fun s hs => key _ s (Nat.le_refl _) hs
end

theorem den_le (hC : OLe C C') : ∀ (c : Code) (e : Env) (h : Heap) r, den P H C c e h = some r → den P H C' c e h = some r
  | .skip, e, h, r, k => k
  | .region _ ops d, e, h, r, k => by
    simp only [den] at k ⊢
    obtain ⟨u, hu, hk⟩ := map_inv k
    rw [regionA_le hC hu, Option.map_some, hk]
  | .seq a b, e, h, r, k => by
    simp only [den] at k ⊢
    obtain ⟨⟨x, e1, h1⟩, hu, k⟩ := bind_inv k
    rw [den_le hC a _ _ _ hu, Option.bind_some]
    cases x with
    | normal => exact den_le hC b _ _ _ k
    | exit id => exact k
    | ret => exact k
  | .cond c a b, e, h, r, k => by
    simp only [den] at k ⊢
    obtain ⟨v, hv, k⟩ := bind_inv k
    rw [hv, Option.bind_some]
    cases v <;> try (cases k; done)
    rename_i t
    cases t with
    | true => exact den_le hC a _ _ _ k
    | false => exact den_le hC b _ _ _ k
  | .block id c, e, h, r, k => by
    simp only [den] at k ⊢
    obtain ⟨u, hu, hk⟩ := map_inv k
    rw [den_le hC c _ _ _ hu, Option.map_some, hk]
  | .loop c, e, h, r, k => by
    simp only [den] at k ⊢
    obtain ⟨u, hu, hk⟩ := map_inv k
    rw [loopW_le (fun s r hr => ?_) hu, Option.map_some, hk]
    obtain ⟨u', hu', hk'⟩ := map_inv hr
    rw [den_le hC c _ _ _ hu', Option.map_some, hk']
  | .exit id, e, h, r, k => k
  | .ret, e, h, r, k => k
  | .scope c, e, h, r, k => by simp only [den] at k ⊢; exact den_le hC c _ _ _ k
  | .label _, e, h, r, k => k
  | .rangeFunc .., e, h, r, k => k
  | .goto .., e, h, r, k => k
  | .refuse .., e, h, r, k => k
theorem funA_le (hC : OLe C C') {fn : Func} {args : List Value} {h : Heap} {r : Value × Heap} (k : funA P H C fn args h = some r) : funA P H C' fn args h = some r := by
  unfold funA at k ⊢
  split at k
  · cases k
  rename_i hname
  rw [if_neg hname]
  split at k
  · cases k
  rename_i c hb
  split at k
  · rename_i ha
    rw [if_pos ha]
    obtain ⟨u, hu, k⟩ := bind_inv k
    rw [den_le hC c _ _ _ hu, Option.bind_some]
    exact k
  · cases k
end

/-! ### A limit of oracles -/
section
variable {P : Program} {H : Nat → Option (List Nat)} {C : Oracle} {K : Nat → Oracle}
structure Lim (K : Nat → Oracle) (C : Oracle) : Prop where
  up : ∀ n, OLe (K n) (K (n + 1))
  lim : ∀ f args h r, C f args h = some r → ∃ n, K n f args h = some r
theorem Lim.le (L : Lim K C) {n m : Nat} (h : n ≤ m) : OLe (K n) (K m) := by
  obtain ⟨d, rfl⟩ := Nat.exists_eq_add_of_le h
  clear h
  induction d with
  | zero => exact OLe.refl _
  | succ d ih => exact fun f args h r k => L.up _ _ _ _ _ (ih _ _ _ _ k)
theorem Lim.opA (L : Lim K C) {op : Op} {e : Env} {h : Heap} {r : Value × Heap} (k : opA P C op e h = some r) : ∃ n, Am.opA P (K n) op e h = some r := by
  rcases opA_ask (P := P) C op e h with h1 | ⟨f, args, h1⟩
  · exact ⟨0, by rw [h1]; exact k⟩
  · rw [h1] at k
    obtain ⟨f', hf, k⟩ := bind_inv k
    obtain ⟨as, ha, k⟩ := bind_inv k
    unfold callA at k
    split at k
    · obtain ⟨n, hn⟩ := L.lim _ _ _ _ k
      exact ⟨n, by rw [h1, hf, Option.bind_some, ha, Option.bind_some]; exact hn⟩
    · cases k
theorem Lim.stepA (L : Lim K C) {ops : List Oper} {o : Oper} {e : Env} {h : Heap} {r : Value × Heap} (k : stepA P C ops o e h = some r) : ∃ n, Am.stepA P (K n) ops o e h = some r := by
  unfold Am.stepA at k ⊢
  obtain ⟨b, hb, k⟩ := bind_inv k
  cases b with
  | true => obtain ⟨n, hn⟩ := L.opA k; exact ⟨n, by rw [hb]; exact hn⟩
  | false => exact ⟨0, by rw [hb]; exact k⟩
theorem Lim.opsA (L : Lim K C) {ops : List Oper} : ∀ (l : List Oper) (e : Env) (h : Heap) r, opsA P C ops l e h = some r → ∃ n, Am.opsA P (K n) ops l e h = some r
  | [], e, h, r, k => ⟨0, k⟩
  | o :: l, e, h, r, k => by
    unfold Am.opsA at k ⊢
    obtain ⟨⟨v, h1⟩, hs, k⟩ := bind_inv k
    obtain ⟨n, hn⟩ := L.stepA hs
    obtain ⟨m, hm⟩ := L.opsA l _ _ _ k
    exact ⟨max n m, by rw [stepA_le (L.le (Nat.le_max_left n m)) hn]; exact opsA_le (L.le (Nat.le_max_right n m)) _ _ _ _ hm⟩
theorem Lim.all {α : Type} (p : Nat → α → Prop) (hup : ∀ n m a, n ≤ m → p n a → p m a) : ∀ (l : List α), (∀ a ∈ l, ∃ n, p n a) → ∃ n, ∀ a ∈ l, p n a
  | [], _ => ⟨0, by simp⟩
  | a :: l, h => by
    obtain ⟨n, hn⟩ := h a (by simp)
    obtain ⟨m, hm⟩ := Lim.all p hup l fun a ha => h a (by simp [ha])
    refine ⟨max n m, fun b hb => ?_⟩
    rcases List.mem_cons.1 hb with rfl | hb
    · exact hup _ _ _ (Nat.le_max_left _ _) hn
    · exact hup _ _ _ (Nat.le_max_right _ _) (hm b hb)
theorem Lim.drawA (L : Lim K C) {ops : List Oper} {b : List Nat} : ∀ (l : List (Oper × Nat)) (e : Env) (h : Heap) rs hs r, drawA P C ops b l e h rs hs = some r → ∃ n, Am.drawA P (K n) ops b l e h rs hs = some r
  | [], e, h, rs, hs, r, k => ⟨0, k⟩
  | (o, i) :: l, e, h, rs, hs, r, k => by
    unfold Am.drawA at k ⊢
    obtain ⟨⟨v, h1⟩, hst, k⟩ := bind_inv k
    obtain ⟨n, hn⟩ := L.stepA hst
    simp only at k ⊢
    cases hc : clsOf o.op with
    | quiet =>
      rw [hc] at k
      obtain ⟨m, hm⟩ := L.drawA l _ _ _ _ _ k
      exact ⟨max n m, by rw [stepA_le (L.le (Nat.le_max_left n m)) hn]; exact drawA_le (L.le (Nat.le_max_right n m)) _ _ _ _ _ _ hm⟩
    | read =>
      rw [hc] at k; simp only at k ⊢
      split at k
      · rename_i hall
        obtain ⟨m, hm⟩ := L.drawA l _ _ _ _ _ k
        obtain ⟨q, hq⟩ := Lim.all (fun q (x : Nat × Heap) => ordered b x.1 i = false → Am.stepA P (K q) ops o e x.2 = some (v, x.2)) (fun n m a hnm hp ho => stepA_le (L.le hnm) (hp ho)) hs (fun x hx => by
          cases ho : ordered b x.1 i with
          | true => exact ⟨0, fun h => by cases h⟩
          | false => obtain ⟨q, hq⟩ := L.stepA (hall x hx ho); exact ⟨q, fun _ => hq⟩)
        refine ⟨max n (max m q), ?_⟩
        rw [stepA_le (L.le (Nat.le_max_left _ _)) hn, Option.bind_some]
        simp only
        rw [if_pos fun x hx ho => stepA_le (L.le (Nat.le_trans (Nat.le_max_right m q) (Nat.le_max_right _ _))) (hq x hx ho)]
        exact drawA_le (L.le (Nat.le_trans (Nat.le_max_left m q) (Nat.le_max_right _ _))) _ _ _ _ _ _ hm
      · cases k
    | chain =>
      rw [hc] at k; simp only at k ⊢
      split at k
      · rename_i hall
        obtain ⟨m, hm⟩ := L.drawA l _ _ _ _ _ k
        obtain ⟨q, hq⟩ := Lim.all (fun q (x : Nat × Oper × Env × Value) => ordered b x.1 i = false → Am.stepA P (K q) ops x.2.1 x.2.2.1 h1 = some (x.2.2.2, h1)) (fun n m a hnm hp ho => stepA_le (L.le hnm) (hp ho)) rs (fun x hx => by
          cases ho : ordered b x.1 i with
          | true => exact ⟨0, fun h => by cases h⟩
          | false => obtain ⟨q, hq⟩ := L.stepA (hall x hx ho); exact ⟨q, fun _ => hq⟩)
        refine ⟨max n (max m q), ?_⟩
        rw [stepA_le (L.le (Nat.le_max_left _ _)) hn, Option.bind_some]
        simp only
        rw [if_pos fun x hx ho => stepA_le (L.le (Nat.le_trans (Nat.le_max_right m q) (Nat.le_max_right _ _))) (hq x hx ho)]
        exact drawA_le (L.le (Nat.le_trans (Nat.le_max_left m q) (Nat.le_max_right _ _))) _ _ _ _ _ _ hm
      · cases k
theorem Lim.regionA (L : Lim K C) {ops : List Oper} {d : Bool} {e : Env} {h : Heap} {r : Env × Heap} (k : regionA P C ops d e h = some r) : ∃ n, Am.regionA P (K n) ops d e h = some r := by
  unfold Am.regionA at k ⊢
  split at k
  · rename_i hd
    simp only at k
    split at k
    · rename_i hok
      obtain ⟨n, hn⟩ := L.drawA _ _ _ _ _ _ k
      exact ⟨n, by rw [if_pos hd]; simp only; rw [if_pos hok]; exact hn⟩
    · cases k
  · rename_i hd
    obtain ⟨n, hn⟩ := L.opsA _ _ _ _ k
    exact ⟨n, by rw [if_neg hd]; exact hn⟩
theorem Lim.den (L : Lim K C) : ∀ (c : Code) (e : Env) (h : Heap) r, den P H C c e h = some r → ∃ n, Am.den P H (K n) c e h = some r
  | .skip, e, h, r, k => ⟨0, k⟩
  | .region _ ops d, e, h, r, k => by
    simp only [Am.den] at k ⊢
    obtain ⟨u, hu, hk⟩ := map_inv k
    obtain ⟨n, hn⟩ := L.regionA hu
    exact ⟨n, by rw [hn, Option.map_some, hk]⟩
  | .seq a b, e, h, r, k => by
    simp only [Am.den] at k ⊢
    obtain ⟨⟨x, e1, h1⟩, hu, k⟩ := bind_inv k
    obtain ⟨n, hn⟩ := L.den a _ _ _ hu
    cases x with
    | normal =>
      obtain ⟨m, hm⟩ := L.den b _ _ _ k
      exact ⟨max n m, by rw [den_le (L.le (Nat.le_max_left n m)) _ _ _ _ hn]; exact den_le (L.le (Nat.le_max_right n m)) _ _ _ _ hm⟩
    | exit id => exact ⟨n, by rw [hn]; exact k⟩
    | ret => exact ⟨n, by rw [hn]; exact k⟩
  | .cond c a b, e, h, r, k => by
    simp only [Am.den] at k ⊢
    obtain ⟨v, hv, k⟩ := bind_inv k
    rw [hv]
    cases v <;> try (cases k; done)
    rename_i t
    cases t with
    | true => exact L.den a _ _ _ k
    | false => exact L.den b _ _ _ k
  | .block id c, e, h, r, k => by
    simp only [Am.den] at k ⊢
    obtain ⟨u, hu, hk⟩ := map_inv k
    obtain ⟨n, hn⟩ := L.den c _ _ _ hu
    exact ⟨n, by rw [hn, Option.map_some, hk]⟩
  | .loop c, e, h, r, k => by
    simp only [Am.den] at k ⊢
    obtain ⟨u, hu, hk⟩ := map_inv k
    obtain ⟨N, hN⟩ := loopW_some.1 hu
    have key : ∀ (N : Nat) (s : Vs × Heap) (u : Ex × (Vs × Heap)), loopN (fun (s : Vs × Heap) => (Am.den P H C c (headE e (loopH H c) (asg c) s.1) s.2).map fun (x, e', h') => (x, ((loopH H c).map e', h'))) N s = some u →
        ∃ n, loopN (fun (s : Vs × Heap) => (Am.den P H (K n) c (headE e (loopH H c) (asg c) s.1) s.2).map fun (x, e', h') => (x, ((loopH H c).map e', h'))) N s = some u := by
      intro N
      induction N with
      | zero => intro s u k; simp only [loopN] at k; cases k
      | succ N ih =>
        intro s u k
        unfold loopN at k
        obtain ⟨⟨x1, s1⟩, hF, k⟩ := bind_inv k
        obtain ⟨w, hw, hkw⟩ := map_inv hF
        obtain ⟨n, hn⟩ := L.den c _ _ _ hw
        cases x1 with
        | normal =>
          obtain ⟨m, hm⟩ := ih _ _ k
          refine ⟨max n m, ?_⟩
          unfold loopN
          rw [den_le (L.le (Nat.le_max_left n m)) _ _ _ _ hn, Option.map_some, hkw, Option.bind_some]
          refine loopN_le (fun s r hr => ?_) _ _ _ hm
          obtain ⟨u', hu', hk'⟩ := map_inv hr
          rw [den_le (L.le (Nat.le_max_right n m)) _ _ _ _ hu', Option.map_some, hk']
        | exit id =>
          refine ⟨n, ?_⟩
          unfold loopN
          rw [hn, Option.map_some, hkw, Option.bind_some]
          exact k
        | ret =>
          refine ⟨n, ?_⟩
          unfold loopN
          rw [hn, Option.map_some, hkw, Option.bind_some]
          exact k
    obtain ⟨n, hn⟩ := key N _ _ hN
    exact ⟨n, by rw [loopW_some.2 ⟨N, hn⟩, Option.map_some, hk]⟩
  | .exit id, e, h, r, k => ⟨0, k⟩
  | .ret, e, h, r, k => ⟨0, k⟩
  | .scope c, e, h, r, k => by simp only [Am.den] at k ⊢; exact L.den c _ _ _ k
  | .label _, e, h, r, k => ⟨0, k⟩
  | .rangeFunc .., e, h, r, k => ⟨0, k⟩
  | .goto .., e, h, r, k => ⟨0, k⟩
  | .refuse .., e, h, r, k => ⟨0, k⟩
theorem Lim.funA (L : Lim K C) {fn : Func} {args : List Value} {h : Heap} {r : Value × Heap} (k : Am.funA P H C fn args h = some r) : ∃ n, Am.funA P H (K n) fn args h = some r := by
  have key : ∀ c, fn.body = some c → ∀ u, Am.den P H C c (argE args fn.ntmps) h = some u → ∃ n, Am.den P H (K n) c (argE args fn.ntmps) h = some u := fun c _ u hu => L.den c _ _ _ hu
  unfold Am.funA at k
  split at k
  · cases k
  rename_i hname
  split at k
  · cases k
  rename_i c hb
  split at k
  · rename_i ha
    obtain ⟨u, hu, k⟩ := bind_inv k
    obtain ⟨n, hn⟩ := key c hb _ hu
    refine ⟨n, ?_⟩
    unfold Am.funA
    rw [if_neg hname]
    split
    · rename_i hb2; rw [hb2] at hb; cases hb
    · rename_i c2 hb2
      rw [hb2] at hb
      cases hb
      rw [if_pos ha, hn, Option.bind_some]
      exact k
  · cases k
end
section
variable {P : Program} {H : Hints} {X : FuncId → Option (List Value → Heap → Option (Value × Heap))}
theorem callN_up : ∀ n, OLe (callN P H X n) (callN P H X (n + 1))
  | 0 => fun f args h r k => by simp only [callN] at k; cases k
  | n + 1 => fun f args h r k => by
    unfold callN at k ⊢
    cases hx : X f with
    | some g => rw [hx] at k; exact k
    | none =>
      rw [hx] at k
      simp only at k ⊢
      cases hf : P.funcs[f]? with
      | none => rw [hf] at k; cases k
      | some fn => rw [hf] at k; exact funA_le (callN_up n) k
theorem call_lim : Lim (callN P H X) (call P H X) := ⟨callN_up, fun f args h r k => by
  unfold call at k
  split at k
  · exact ⟨_, k⟩
  · cases k⟩
theorem call_of {n : Nat} {f : FuncId} {args : List Value} {h : Heap} {r : Value × Heap} (k : callN P H X n f args h = some r) : call P H X f args h = some r := by
  have hex : ∃ n r, callN P H X n f args h = some r := ⟨n, r, k⟩
  unfold call
  rw [dif_pos hex]
  obtain ⟨r', hr'⟩ := hex.choose_spec
  have h1 := call_lim.le (Nat.le_max_left hex.choose n) _ _ _ _ hr'
  have h2 := call_lim.le (Nat.le_max_right hex.choose n) _ _ _ _ k
  rw [h1] at h2
  rw [hr', h2]
/-- A call is what the function's body comes to. -/
theorem call_fun {f : FuncId} {fn : Func} (hf : P.funcs[f]? = some fn) (hx : X f = none) (args : List Value) (h : Heap) : call P H X f args h = funA P (H f) (call P H X) fn args h := by
  have key : ∀ r, call P H X f args h = some r ↔ funA P (H f) (call P H X) fn args h = some r := fun r => by
    constructor
    · intro k
      obtain ⟨n, hn⟩ := call_lim.lim _ _ _ _ k
      cases n with
      | zero => simp only [callN] at hn; cases hn
      | succ n =>
        unfold callN at hn
        rw [hx] at hn
        simp only [hf] at hn
        exact funA_le (fun f args h r k => call_of k) hn
    · intro k
      obtain ⟨n, hn⟩ := call_lim.funA k
      exact call_of (n := n + 1) (by unfold callN; rw [hx]; simp only [hf]; exact hn)
  cases h2 : funA P (H f) (call P H X) fn args h with
  | some r => exact (key r).2 h2
  | none =>
    cases h3 : call P H X f args h with
    | none => rfl
    | some r => rw [(key r).1 h3] at h2; cases h2
theorem call_ext {f : FuncId} {g} (hx : X f = some g) (args : List Value) (h : Heap) : call P H X f args h = g args h := by
  have h1 : ∀ n, callN P H X (n + 1) f args h = g args h := fun n => by unfold callN; rw [hx]
  cases h2 : g args h with
  | some r => exact call_of (n := 1) (by rw [h1, h2])
  | none =>
    cases h3 : call P H X f args h with
    | none => rfl
    | some r =>
      obtain ⟨n, hn⟩ := call_lim.lim _ _ _ _ h3
      cases n with
      | zero => simp only [callN] at hn; cases hn
      | succ n => rw [h1, h2] at hn; cases hn
end
end Go.Proofs.Ytlihmncbhaimkaa.Am
