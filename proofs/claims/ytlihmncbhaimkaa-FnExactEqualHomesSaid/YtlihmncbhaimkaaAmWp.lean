/- The abstract machine as a calculus of propositions: what must hold for the code to come to something of which 'Q' holds. -/
import Derived.Test.YtlihmncbhaimkaaAmUnfold
namespace Go.Proofs.Ytlihmncbhaimkaa.Am
open Go Go.RowKit

/-! ### Words -/
/-- It is there, and 'K' holds of it. -/
def Bnd {α : Type} (o : Option α) (K : α → Prop) : Prop := ∃ v, o = some v ∧ K v
def Res (o : Option (Value × Heap)) (K : Value → Heap → Prop) : Prop := ∃ v h, o = some (v, h) ∧ K v h
def OnB (v : Value) (K : Bool → Prop) : Prop := ∃ t, v = .bool t ∧ K t
def Br (t : Bool) (A B : Prop) : Prop := (t = true → A) ∧ (t = false → B)
/-- Known beforehand. -/
def evW {α : Type} (x : Option α) (K : α → Prop) : Prop := match x with
  | some v => K v
  | none => False
def wantV (g : Value) (w : Bool) : Bool := match g with
  | .bool b => b == w
  | _ => false
/-- An operation that may be passed over. -/
def GdW (b : Bool) (A : (Value → Heap → Prop) → Prop) (h : Heap) (K : Value → Heap → Prop) : Prop :=
  ∃ v h', (b = true → A fun v1 h1 => v1 = v ∧ h1 = h') ∧ (b = false → v = undef ∧ h' = h) ∧ K v h'
def AllV : Nat → (List Value → Prop) → Prop
  | 0, p => p []
  | n + 1, p => ∀ v, AllV n fun l => p (v :: l)
theorem AllV.all : ∀ {n : Nat} {p : List Value → Prop}, AllV n p → ∀ l, l.length = n → p l
  | 0, p, h, l, e => by cases l with
    | nil => exact h
    | cons => cases e
  | n + 1, p, h, l, e => by cases l with
    | nil => cases e
    | cons v l => exact AllV.all (h v) l (by simpa using e)
def look (e : Env) : List Nat → Option (List Value)
  | [] => some []
  | n :: l => (e n).bind fun v => (look e l).map (v :: ·)
theorem look_map {e : Env} : ∀ {L : List Nat} {vs : List Value}, look e L = some vs → L.map e = vs.map some ∧ vs.length = L.length
  | [], vs, k => by simp only [look] at k; cases k; exact ⟨rfl, rfl⟩
  | n :: L, vs, k => by
    simp only [look] at k
    obtain ⟨v, hv, k⟩ := bind_inv k
    obtain ⟨us, hus, hk⟩ := map_inv k
    subst hk
    obtain ⟨h1, h2⟩ := look_map hus
    exact ⟨by simp [hv, h1], by simp [h2]⟩
/-- A loop: an invariant and a measure. -/
def LoopW (n : Nat) (body : List Value → Heap → (Ex → List Value → Heap → Prop) → Prop) (vs : List Value) (h : Heap) (Q : Ex → List Value → Heap → Prop) : Prop :=
  ∃ (I : List Value → Heap → Prop) (μ : List Value → Heap → Nat), I vs h ∧ AllV n fun vs => ∀ h, I vs h → body vs h fun x vs' h' => match x with
    | .normal => I vs' h' ∧ μ vs' h' < μ vs h
    | x => Q x vs' h'
/-- Two ways that meet. -/
def JoinW (n : Nat) (A : (List Value → Heap → Prop) → Prop) (B : List Value → Heap → Prop) : Prop :=
  ∃ R : List Value → Heap → Prop, A R ∧ AllV n fun vs => ∀ h, R vs h → B vs h

theorem evW_some {α : Type} {x : Option α} {K : α → Prop} (h : evW x K) : ∃ v, x = some v ∧ K v := by
  cases x with
  | none => exact h.elim
  | some v => exact ⟨v, rfl, h⟩

section
variable (P : Program) (H : Nat → Option (List Nat)) (C : Oracle)
def callW (f : Value) (args : List Value) (h : Heap) (K : Value → Heap → Prop) : Prop := match f with
  | .func (.func f) first captured => Res (C f (first.toList ++ args ++ captured.toList) h) K
  | f => Res (callA C f args h) K
def builtinW (b : Builtin) (ts : List TypeId) (args : List Value) (h : Heap) (K : Value → Heap → Prop) : Prop := match b, ts, args with
  | .len, t :: _, [x] => Bnd (lenA P t x h) fun v => K v h
  | b, ts, args => Res (builtinA P b ts args h) K
def opW (o : Op) (e : Env) (h : Heap) (K : Value → Heap → Prop) : Prop := match o with
  | .move x | .assign x => evW (ev P e x) fun v => K v h
  | .pick c a b => evW (ev P e c) fun c => evW (ev P e a) fun a => evW (ev P e b) fun b => OnB c fun t => K (bif t then a else b) h
  | .load t a => evW (ev P e a) fun a => Bnd (loadA P t h a) fun v => K v h
  | .store t a x => evW (ev P e a) fun a => evW (ev P e x) fun x => Bnd (storeA P t h a x) fun h => K undef h
  | .nilCheck x => evW (ev P e x) fun v => Bnd (nilCheckA v) fun v => K v h
  | .binOp op t x y _ => evW (ev P e x) fun a => evW (ev P e y) fun b => Bnd (binA P op t a b) fun v => K v h
  | .unOp op _ x => evW (ev P e x) fun v => Bnd (unA op v) fun v => K v h
  | .convert s d x => evW (ev P e x) fun v => Res (convA P s d v h) K
  | .makeInterface t x => evW (ev P e x) fun v => Bnd (makeInterfaceA P t v) fun v => K v h
  | .makeFunc (.func f) xs ys => evW (evs P e xs.toList) fun xs => evW (evs P e ys.toList) fun ys => K (.func (.func f) xs.toArray ys.toArray) h
  | .makeSlice t l c => evW (ev P e l) fun l => evW (ev P e c) fun c => Res (makeSliceA P t l c h) K
  | .slice t x lo hi mx => evW (ev P e x) fun x => evW (optE P e lo) fun lo => evW (optE P e hi) fun hi => evW (optE P e mx) fun mx => Bnd (sliceA P t x lo hi mx h) fun v => K v h
  | .fieldAddr s x f => evW (ev P e x) fun v => Bnd (fieldAddrA P s v f) fun v => K v h
  | .field s x f => evW (ev P e x) fun v => Bnd (fieldA P s v f) fun v => K v h
  | .indexAddr t x i => evW (ev P e x) fun v => evW (ev P e i) fun i => Bnd (indexAddrA P t v i) fun v => K v h
  | .index t x i => evW (ev P e x) fun v => evW (ev P e i) fun i => Bnd (indexA P t v i) fun v => K v h
  | .extract x i => evW (ev P e x) fun v => Bnd (extractA v i) fun v => K v h
  | .alloc t => Res ((zeroT P t).map fun z => newA P t h z) K
  | .box t x => evW (ev P e x) fun v => Res ((flatT P t v).map fun cs => newA P t h cs) K
  | .build t ps => evW (partsE P e ps.toList) fun ps => Bnd (buildA P t ps) fun v => K v h
  | .buildSlice t n ps => evW (partsE P e ps.toList) fun ps => Res (buildSliceA P t n ps h) K
  | .call { callee := .value f, args, .. } => evW (ev P e f) fun f => evW (evs P e args.toList) fun args => callW C f args h K
  | .call { callee := .builtin b, args, argTypes } => evW (evs P e args.toList) fun args => builtinW P b argTypes.toList args h K
  | _ => False
def stepW (ops : List Oper) (o : Oper) (e : Env) (h : Heap) (K : Value → Heap → Prop) : Prop := match o.guard with
  | none => opW P C o.op e h K
  | some (j, w) => evW (((ops[j]?).bind (·.dst)).bind e) fun g => GdW (wantV g w) (opW P C o.op e h) h K
def opsW (ops : List Oper) : List Oper → (Env → Heap → Prop) → Env → Heap → Prop
  | [], K, e, h => K e h
  | o :: r, K, e, h => stepW P C ops o e h fun v h => opsW ops r K (upd e o.dst (some v)) h
def condR (ops : List Oper) (b : List Nat) (i : Nat) (o : Oper) (e : Env) (v : Value) : List (Nat × Heap) → Prop → Prop
  | [], K => K
  | x :: r, K => bif ordered b x.1 i then condR ops b i o e v r K else (stepW P C ops o e x.2 fun v1 h1 => v1 = v ∧ h1 = x.2) ∧ condR ops b i o e v r K
def condC (ops : List Oper) (b : List Nat) (i : Nat) (h : Heap) : List (Nat × Oper × Env × Value) → Prop → Prop
  | [], K => K
  | x :: r, K => bif ordered b x.1 i then condC ops b i h r K else (stepW P C ops x.2.1 x.2.2.1 h fun v1 h1 => v1 = x.2.2.2 ∧ h1 = h) ∧ condC ops b i h r K
def drawW (ops : List Oper) (b : List Nat) : List (Oper × Nat) → (Env → Heap → Prop) → Env → Heap → List (Nat × Oper × Env × Value) → List (Nat × Heap) → Prop
  | [], K, e, h, _, _ => K e h
  | (o, i) :: r, K, e, h, rs, hs => stepW P C ops o e h fun v h' => match clsOf o.op with
    | .quiet => drawW ops b r K (upd e o.dst (some v)) h' rs hs
    | .read => condR P C ops b i o e v hs (drawW ops b r K (upd e o.dst (some v)) h' ((i, o, e, v) :: rs) hs)
    | .chain => condC P C ops b i h' rs (drawW ops b r K (upd e o.dst (some v)) h' rs ((i, h) :: hs))
def regionW (ops : List Oper) (draw : Bool) (K : Env → Heap → Prop) (e : Env) (h : Heap) : Prop :=
  match draw with
  | true => drawW P C ops (Region.before ops.toArray).toList ops.zipIdx K e h [] []
  | false => opsW P C ops ops K e h
def Ex.leave (id : Nat) : Ex → Ex
  | .exit i => bif Nat.beq i id then .normal else .exit i
  | x => x
def wp : Code → (Ex → Env → Heap → Prop) → Env → Heap → Prop
  | .skip, Q, e, h => Q .normal e h
  | .region _ ops d, Q, e, h => regionW P C ops.toList d (Q .normal) e h
  | .seq a b, Q, e, h => match joinH H b with
    | none => wp a (fun x e' h' => match x with
      | .normal => wp b Q e' h'
      | x => Q x e' h') e h
    | some L => JoinW L.length (fun R => wp a (fun x e' h' => match x with
      | .normal => evW (look e' L) fun vs => R vs h'
      | x => Q x e' h') e h) fun vs h' => wp b Q (headE e L (asg a) (vs.map some)) h'
  | .cond c a b, Q, e, h => evW (ev P e c) fun v => OnB v fun t => Br t (wp a Q e h) (wp b Q e h)
  | .block id c, Q, e, h => wp c (fun x e h => Q (x.leave id) e h) e h
  | .loop c, Q, e, h => evW (look e (loopH H c)) fun vs => LoopW (loopH H c).length (fun vs h K => wp c (fun x e' h' => evW (look e' (loopH H c)) fun vs' => K x vs' h') (headE e (loopH H c) (asg c) (vs.map some)) h) vs h
      fun x vs h => Q x (headE e (loopH H c) (asg c) (vs.map some)) h
  | .exit id, Q, e, h => Q (.exit id) e h
  | .ret, Q, e, h => Q .ret e h
  | .scope c, Q, e, h => wp c Q e h
  | .label _, Q, e, h => Q .normal e h
  | _, _, _, _ => False
def drawsOk : Code → Bool
  | .region _ ops d => match d with
    | true => drawOk ops.toList (Region.before ops.toList.toArray).toList
    | false => true
  | .seq a b => drawsOk a && drawsOk b
  | .cond _ a b => drawsOk a && drawsOk b
  | .block _ c | .loop c | .scope c => drawsOk c
  | _ => true
def fnOk (fn : Func) : Bool := decide (fn.name ≠ "runtime.NumGoroutine") && match fn.body with
  | some c => (asg c).all (· < fn.ntmps) && drawsOk c
  | none => false
def resW (e : Env) (h : Heap) : List ResultVar → (List Value → Prop) → Prop
  | [], K => K []
  | .tmp t :: r, K => evW (e t) fun v => resW e h r fun l => K (v :: l)
  | .cell a t :: r, K => evW (e a) fun p => Bnd (loadA P t h p) fun v => resW e h r fun l => K (v :: l)
def fnW (fn : Func) (args : List Value) (h : Heap) (Q : Value → Heap → Prop) : Prop := match fn.body with
  | none => False
  | some c => wp P H C c (fun x e h => match x with
    | .exit _ => False
    | _ => resW P e h fn.results.toList fun l => Q (packR l) h) (argE args fn.ntmps) h
end

/-! ### It is true of the machine -/
section
variable {P : Program} {H : Nat → Option (List Nat)} {C : Oracle}
theorem callW_sound {f : Value} {args : List Value} {h : Heap} {K : Value → Heap → Prop} (w : callW C f args h K) : Res (callA C f args h) K := by
  unfold callW at w
  split at w
  · exact w
  · exact w
theorem builtinW_sound {b : Builtin} {ts : List TypeId} {args : List Value} {h : Heap} {K : Value → Heap → Prop} (w : builtinW P b ts args h K) : Res (builtinA P b ts args h) K := by
  unfold builtinW at w
  split at w
  · obtain ⟨v, hv, k⟩ := w
    exact ⟨v, h, by simp [builtinA, hv], k⟩
  · exact w
theorem opW_sound {o : Op} {e : Env} {h : Heap} {K : Value → Heap → Prop} (w : opW P C o e h K) : Res (opA P C o e h) K := by
  unfold opW at w
  unfold opA
  split at w
  all_goals (try dsimp only)
  all_goals first
    | exact w
    | exact w.elim
    | (obtain ⟨v, hv, k⟩ := evW_some w; exact ⟨v, h, by simp [hv], k⟩)
    | (obtain ⟨c, hc, w⟩ := evW_some w
       obtain ⟨a, ha, w⟩ := evW_some w
       obtain ⟨b, hb, w⟩ := evW_some w
       obtain ⟨t, rfl, k⟩ := w
       exact ⟨_, h, by cases t <;> simp [hc, ha, hb], k⟩)
    | (obtain ⟨a, ha, w⟩ := evW_some w
       obtain ⟨v, hv, k⟩ := w
       exact ⟨v, h, by simp [ha, hv], k⟩)
    | (obtain ⟨a, ha, w⟩ := evW_some w
       obtain ⟨b, hb, w⟩ := evW_some w
       obtain ⟨v, hv, k⟩ := w
       exact ⟨_, v, by simp [ha, hb, hv], k⟩)
    | (obtain ⟨a, ha, w⟩ := evW_some w
       obtain ⟨b, hb, w⟩ := evW_some w
       obtain ⟨v, hv, k⟩ := w
       exact ⟨v, h, by simp [ha, hb, hv], k⟩)
    | (obtain ⟨a, ha, w⟩ := evW_some w
       obtain ⟨v, h1, hv, k⟩ := w
       exact ⟨v, h1, by rw [ha]; exact hv, k⟩)
    | (obtain ⟨a, ha, w⟩ := evW_some w
       obtain ⟨b, hb, w⟩ := evW_some w
       obtain ⟨v, h1, hv, k⟩ := w
       exact ⟨v, h1, by rw [ha, Option.bind_some, hb]; exact hv, k⟩)
    | (obtain ⟨a, ha, w⟩ := evW_some w
       obtain ⟨b, hb, k⟩ := evW_some w
       exact ⟨_, h, by simp [ha, hb], k⟩)
    | (obtain ⟨a, ha, w⟩ := evW_some w
       obtain ⟨b, hb, w⟩ := evW_some w
       obtain ⟨c, hc, w⟩ := evW_some w
       obtain ⟨d, hd, w⟩ := evW_some w
       obtain ⟨v, hv, k⟩ := w
       exact ⟨v, h, by simp [ha, hb, hc, hd, hv], k⟩)
    | (obtain ⟨a, ha, w⟩ := evW_some w
       obtain ⟨b, hb, w⟩ := evW_some w
       obtain ⟨v, h1, hv, k⟩ := callW_sound w
       exact ⟨v, h1, by rw [ha, Option.bind_some, hb]; exact hv, k⟩)
    | (obtain ⟨a, ha, w⟩ := evW_some w
       obtain ⟨v, h1, hv, k⟩ := builtinW_sound w
       exact ⟨v, h1, by rw [ha]; exact hv, k⟩)
theorem stepW_sound {ops : List Oper} {o : Oper} {e : Env} {h : Heap} {K : Value → Heap → Prop} (w : stepW P C ops o e h K) : Res (stepA P C ops o e h) K := by
  unfold stepW at w
  unfold stepA wantA
  split at w
  · rename_i hg
    rw [hg]
    exact opW_sound w
  · rename_i j wt hg
    obtain ⟨g, hgv, w⟩ := evW_some w
    obtain ⟨d, hd, hed⟩ := bind_inv hgv
    obtain ⟨v, h', h1, h2, k⟩ := w
    rw [hg]
    simp only [hd, Option.bind_some, hed, Option.map_some]
    change Res ((some (wantV g wt)).bind fun w => if w = true then opA P C o.op e h else some (undef, h)) K
    rw [Option.bind_some]
    cases hw : wantV g wt with
    | true =>
      obtain ⟨v1, h3, h4, rfl, rfl⟩ := opW_sound (h1 hw)
      exact ⟨v1, h3, h4, k⟩
    | false =>
      obtain ⟨rfl, rfl⟩ := h2 hw
      exact ⟨_, _, rfl, k⟩
theorem opsW_sound {ops : List Oper} : ∀ (l : List Oper) (K : Env → Heap → Prop) (e : Env) (h : Heap), opsW P C ops l K e h → ∃ e' h', opsA P C ops l e h = some (e', h') ∧ K e' h'
  | [], K, e, h, w => ⟨e, h, rfl, w⟩
  | o :: l, K, e, h, w => by
    obtain ⟨v, h1, hs, w⟩ := stepW_sound w
    obtain ⟨e', h', h2, k⟩ := opsW_sound l K _ _ w
    exact ⟨e', h', by unfold opsA; rw [hs]; exact h2, k⟩
theorem condR_sound {ops : List Oper} {b : List Nat} {i : Nat} {o : Oper} {e : Env} {v : Value} {K : Prop} : ∀ (hs : List (Nat × Heap)), condR P C ops b i o e v hs K → (∀ x ∈ hs, ordered b x.1 i = false → stepA P C ops o e x.2 = some (v, x.2)) ∧ K
  | [], w => ⟨by simp, w⟩
  | x :: hs, w => by
    unfold condR at w
    cases ho : ordered b x.1 i with
    | true =>
      rw [ho] at w
      obtain ⟨h1, h2⟩ := condR_sound hs w
      exact ⟨fun y hy hoy => by
        rcases List.mem_cons.1 hy with rfl | hy
        · rw [ho] at hoy; cases hoy
        · exact h1 y hy hoy, h2⟩
    | false =>
      rw [ho] at w
      obtain ⟨w1, w2⟩ := w
      obtain ⟨h1, h2⟩ := condR_sound hs w2
      obtain ⟨v1, h3, h4, rfl, rfl⟩ := stepW_sound w1
      exact ⟨fun y hy hoy => by
        rcases List.mem_cons.1 hy with rfl | hy
        · exact h4
        · exact h1 y hy hoy, h2⟩
theorem condC_sound {ops : List Oper} {b : List Nat} {i : Nat} {h : Heap} {K : Prop} : ∀ (rs : List (Nat × Oper × Env × Value)), condC P C ops b i h rs K → (∀ x ∈ rs, ordered b x.1 i = false → stepA P C ops x.2.1 x.2.2.1 h = some (x.2.2.2, h)) ∧ K
  | [], w => ⟨by simp, w⟩
  | x :: rs, w => by
    unfold condC at w
    cases ho : ordered b x.1 i with
    | true =>
      rw [ho] at w
      obtain ⟨h1, h2⟩ := condC_sound rs w
      exact ⟨fun y hy hoy => by
        rcases List.mem_cons.1 hy with rfl | hy
        · rw [ho] at hoy; cases hoy
        · exact h1 y hy hoy, h2⟩
    | false =>
      rw [ho] at w
      obtain ⟨w1, w2⟩ := w
      obtain ⟨h1, h2⟩ := condC_sound rs w2
      obtain ⟨v1, h3, h4, h5, h6⟩ := stepW_sound w1
      subst h6
      exact ⟨fun y hy hoy => by
        rcases List.mem_cons.1 hy with rfl | hy
        · rw [← h5]; exact h4
        · exact h1 y hy hoy, h2⟩
theorem drawW_sound {ops : List Oper} {b : List Nat} : ∀ (l : List (Oper × Nat)) (K : Env → Heap → Prop) (e : Env) (h : Heap) rs hs, drawW P C ops b l K e h rs hs → ∃ e' h', drawA P C ops b l e h rs hs = some (e', h') ∧ K e' h'
  | [], K, e, h, rs, hs, w => ⟨e, h, rfl, w⟩
  | (o, i) :: l, K, e, h, rs, hs, w => by
    unfold drawW at w
    obtain ⟨v, h1, hst, w⟩ := stepW_sound w
    unfold drawA
    rw [hst, Option.bind_some]
    simp only
    cases hc : clsOf o.op with
    | quiet =>
      rw [hc] at w
      have := (stepA_quiet hc hst).1
      subst this
      exact drawW_sound l K _ _ _ _ w
    | read =>
      rw [hc] at w
      have := stepA_read hc hst
      subst this
      obtain ⟨h2, h3⟩ := condR_sound hs w
      simp only
      rw [if_pos h2]
      exact drawW_sound l K _ _ _ _ h3
    | chain =>
      rw [hc] at w
      obtain ⟨h2, h3⟩ := condC_sound rs w
      simp only
      rw [if_pos h2]
      exact drawW_sound l K _ _ _ _ h3
theorem regionW_sound {ops : List Oper} {d : Bool} {K : Env → Heap → Prop} {e : Env} {h : Heap} (ok : d = true → drawOk ops (Region.before ops.toArray).toList = true) (w : regionW P C ops d K e h) : ∃ e' h', regionA P C ops d e h = some (e', h') ∧ K e' h' := by
  cases d with
  | true =>
    unfold regionA
    rw [if_pos rfl]
    simp only
    rw [if_pos (ok rfl)]
    exact drawW_sound _ K _ _ _ _ w
  | false => exact opsW_sound _ K _ _ w
theorem leave_eq (id : Nat) (x : Ex) : x.leave id = if x = .exit id then .normal else x := by
  cases x with
  | exit i =>
    show (bif Nat.beq i id then Ex.normal else .exit i) = _
    by_cases h : i = id
    · subst h; simp
    · have : Nat.beq i id = false := by
        cases hb : Nat.beq i id with
        | false => rfl
        | true => exact absurd (Nat.eq_of_beq_eq_true hb) h
      rw [this, if_neg (by simpa using h)]; rfl
  | normal => rfl
  | ret => rfl
theorem wp_sound : ∀ (c : Code) (Q : Ex → Env → Heap → Prop) (e : Env) (h : Heap), drawsOk c = true → wp P H C c Q e h → ∃ x e' h', den P H C c e h = some (x, e', h') ∧ Q x e' h'
  | .skip, Q, e, h, ok, w => ⟨_, _, _, rfl, w⟩
  | .region _ ops d, Q, e, h, ok, w => by
    obtain ⟨e', h', k, q⟩ := regionW_sound (fun hd => by subst hd; exact ok) w
    exact ⟨_, _, _, by simp only [den, k]; rfl, q⟩
  | .seq a b, Q, e, h, ok, w => by
    simp only [wp] at w
    simp only [drawsOk, Bool.and_eq_true] at ok
    cases hj : joinH H b with
    | none =>
      rw [hj] at w
      obtain ⟨x, e1, h1, k, q⟩ := wp_sound a _ e h ok.1 w
      cases x with
      | normal =>
        obtain ⟨x2, e2, h2, k2, q2⟩ := wp_sound b Q e1 h1 ok.2 q
        exact ⟨x2, e2, h2, by simp only [den, k, Option.bind_some, hj, joinE]; exact k2, q2⟩
      | exit id => exact ⟨_, _, _, by simp only [den, k, Option.bind_some], q⟩
      | ret => exact ⟨_, _, _, by simp only [den, k, Option.bind_some], q⟩
    | some L =>
      rw [hj] at w
      obtain ⟨R, w1, w2⟩ := w
      obtain ⟨x, e1, h1, k, q⟩ := wp_sound a _ e h ok.1 w1
      cases x with
      | normal =>
        obtain ⟨vs, hvs, r⟩ := evW_some q
        obtain ⟨m1, m2⟩ := look_map hvs
        obtain ⟨x2, e2, h2, k2, q2⟩ := wp_sound b Q _ h1 ok.2 (w2.all vs m2 h1 r)
        exact ⟨x2, e2, h2, by simp only [den, k, Option.bind_some, hj, joinE, m1]; exact k2, q2⟩
      | exit id => exact ⟨_, _, _, by simp only [den, k, Option.bind_some], q⟩
      | ret => exact ⟨_, _, _, by simp only [den, k, Option.bind_some], q⟩
  | .cond c a b, Q, e, h, ok, w => by
    simp only [wp] at w
    simp only [drawsOk, Bool.and_eq_true] at ok
    obtain ⟨v, hv, t, rfl, w1, w2⟩ := evW_some w
    cases t with
    | true =>
      obtain ⟨x, e1, h1, k, q⟩ := wp_sound a Q e h ok.1 (w1 rfl)
      exact ⟨x, e1, h1, by simp only [den, hv, Option.bind_some]; exact k, q⟩
    | false =>
      obtain ⟨x, e1, h1, k, q⟩ := wp_sound b Q e h ok.2 (w2 rfl)
      exact ⟨x, e1, h1, by simp only [den, hv, Option.bind_some]; exact k, q⟩
  | .block id c, Q, e, h, ok, w => by
    simp only [wp] at w
    obtain ⟨x, e1, h1, k, q⟩ := wp_sound c _ e h ok w
    exact ⟨x.leave id, e1, h1, by simp only [den, k, Option.map_some, leave_eq], q⟩
  | .loop c, Q, e, h, ok, w => by
    simp only [wp] at w
    obtain ⟨vs, hvs, I, μ, hI, hround⟩ := evW_some w
    obtain ⟨m1, m2⟩ := look_map hvs
    have key := loopW_rule (F := fun (s : Vs × Heap) => (den P H C c (headE e (loopH H c) (asg c) s.1) s.2).map fun (x, e', h') => (x, ((loopH H c).map e', h')))
      (fun s => ∃ vs : List Value, s.1 = vs.map some ∧ vs.length = (loopH H c).length ∧ I vs s.2) (fun s => μ (s.1.map fun v => v.getD undef) s.2)
      (fun x s => ∃ vs : List Value, s.1 = vs.map some ∧ Q x (headE e (loopH H c) (asg c) (vs.map some)) s.2) (fun s hs => by
        obtain ⟨us, hus, hlen, hIu⟩ := hs
        obtain ⟨s1, s2⟩ := s
        simp only at hus hIu
        subst hus
        obtain ⟨x, e1, h1, k, q⟩ := wp_sound c _ _ _ ok (hround.all us hlen s2 hIu)
        obtain ⟨vs', hvs', q⟩ := evW_some q
        obtain ⟨n1, n2⟩ := look_map hvs'
        have back : ∀ l : List Value, (l.map some).map (fun v => v.getD undef) = l := fun l => by
          rw [List.map_map]
          exact (List.map_congr_left fun a _ => rfl).trans (List.map_id l)
        refine ⟨x, (vs'.map some, h1), by simp only [k, Option.map_some, n1], fun hx => ?_, fun hx => ?_⟩
        · subst hx
          obtain ⟨q1, q2⟩ := q
          exact ⟨⟨vs', rfl, n2, q1⟩, by simp only [back]; exact q2⟩
        · cases x with
          | normal => exact absurd rfl hx
          | exit id => exact ⟨vs', rfl, q⟩
          | ret => exact ⟨vs', rfl, q⟩)
    obtain ⟨x, s', k, hx, vs', hs', q⟩ := key ((loopH H c).map e, h) ⟨vs, m1, m2, hI⟩
    exact ⟨x, _, _, by simp only [den]; rw [k]; simp only [Option.map_some, hs'], q⟩
  | .exit id, Q, e, h, ok, w => ⟨_, _, _, rfl, w⟩
  | .ret, Q, e, h, ok, w => ⟨_, _, _, rfl, w⟩
  | .scope c, Q, e, h, ok, w => wp_sound c Q e h ok w
  | .label _, Q, e, h, ok, w => ⟨_, _, _, rfl, w⟩
  | .rangeFunc .., Q, e, h, ok, w => w.elim
  | .goto .., Q, e, h, ok, w => w.elim
  | .refuse .., Q, e, h, ok, w => w.elim
theorem resW_sound {e : Env} {h : Heap} : ∀ (l : List ResultVar) (K : List Value → Prop), resW P e h l K → ∃ vs, resA P e h l = some vs ∧ K vs
  | [], K, w => ⟨[], rfl, w⟩
  | .tmp t :: l, K, w => by
    simp only [resW] at w
    obtain ⟨v, hv, w⟩ := evW_some w
    obtain ⟨vs, h1, h2⟩ := resW_sound l _ w
    exact ⟨v :: vs, by simp [resA, hv, h1], h2⟩
  | .cell a t :: l, K, w => by
    simp only [resW] at w
    obtain ⟨p, hp, w⟩ := evW_some w
    obtain ⟨v, hv, w⟩ := w
    obtain ⟨vs, h1, h2⟩ := resW_sound l _ w
    exact ⟨v :: vs, by simp [resA, hp, hv, h1], h2⟩
theorem fnW_sound {fn : Func} {args : List Value} {h : Heap} {Q : Value → Heap → Prop} (ok : fnOk fn = true) (w : fnW P H C fn args h Q) : Res (funA P H C fn args h) Q := by
  unfold fnOk at ok
  simp only [Bool.and_eq_true, decide_eq_true_eq] at ok
  obtain ⟨hname, ok⟩ := ok
  have key0 : ∀ c, fn.body = some c → (asg c).all (· < fn.ntmps) = true ∧ drawsOk c = true := fun c hc => by rw [hc] at ok; simpa only [Bool.and_eq_true] using ok
  unfold funA
  rw [if_neg hname]
  unfold fnW at w
  split at w
  · exact w.elim
  rename_i c hb
  obtain ⟨ok, okd⟩ := key0 c hb
  obtain ⟨x, e1, h1, k, q⟩ := wp_sound c _ _ _ okd w
  have key : ∀ l, resA P e1 h1 fn.results.toList = some l → Q (packR l) h1 → x ≠ .exit 0 → (match x with | .exit _ => False | _ => True) → Res (if (asg c).all (· < fn.ntmps) = true then (den P H C c (argE args fn.ntmps) h).bind fun (x, e, h) => (match x with
    | .exit _ => none
    | _ => (resA P e h fn.results.toList).map fun l => (packR l, h)) else none) Q := by
    intro l hl hq _ hx
    rw [if_pos ok, k, Option.bind_some]
    cases x with
    | exit id => exact hx.elim
    | normal => exact ⟨_, _, by simp only [hl, Option.map_some], hq⟩
    | ret => exact ⟨_, _, by simp only [hl, Option.map_some], hq⟩
  cases x with
  | exit id => exact q.elim
  | normal =>
    obtain ⟨l, hl, q⟩ := resW_sound _ _ q
    have := key l hl q (by simp) trivial
    split
    · rename_i hb2; rw [hb2] at hb; cases hb
    · rename_i c2 hb2
      rw [hb2] at hb; cases hb
      exact this
  | ret =>
    obtain ⟨l, hl, q⟩ := resW_sound _ _ q
    have := key l hl q (by simp) trivial
    split
    · rename_i hb2; rw [hb2] at hb; cases hb
    · rename_i c2 hb2
      rw [hb2] at hb; cases hb
      exact this
end
section
variable {P : Program} {H : Hints} {X : FuncId → Option (List Value → Heap → Option (Value × Heap))}
/-- A call, out of its body's proposition. -/
theorem call_wp {f : FuncId} {fn : Func} (hf : P.funcs[f]? = some fn) (hx : X f = none) (ok : fnOk fn = true) {args : List Value} {h : Heap} {Q : Value → Heap → Prop} (w : fnW P (H f) (call P H X) fn args h Q) : Res (call P H X f args h) Q := by
  rw [call_fun hf hx]
  exact fnW_sound ok w
end
end Go.Proofs.Ytlihmncbhaimkaa.Am
