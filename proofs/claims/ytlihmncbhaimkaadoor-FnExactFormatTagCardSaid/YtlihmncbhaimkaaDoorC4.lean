/- Texts of this claim, joined: T1, End. -/
import Derived.Test.YtlihmncbhaimkaaDoorC3
import Derived.Lib.ItoaLen
import Derived.Test.YtlihmncbhaimkaaDoorRows
import Derived.Test.YtlihmncbhaimkaaDoorTie
import Derived.Test.YtlihmncbhaimkaaDoorCards
import Derived.Stop.LaidErr
import Derived.Lib.LaidTab
import Derived.LaidMore
import Derived.Lay
import Derived.SevenTiedAt
import Derived.Stop.Joined
import Derived.WalkKit
import Derived.ProofKit
import Derived.OpenShut
import Derived.ShutString
import Derived.ChangeOld
import Derived.Below
import Derived.SizedLaws
/- What the functions of FormatTag do. -/
namespace Go.Proofs.YtlihmncbhaimkaaDoor.Am
open Go Go.RowKit
set_option linter.unusedVariables false

/-! ### FormatInt -/
theorem dig_u8 {d : Int} (h0 : 0 ≤ d) (h1 : d < 10) : UInt8.ofNat (IntKind.u8.wrap (48 + d)).toNat = UInt8.ofNat (48 + d.toNat) := by
  have : d = 0 ∨ d = 1 ∨ d = 2 ∨ d = 3 ∨ d = 4 ∨ d = 5 ∨ d = 6 ∨ d = 7 ∨ d = 8 ∨ d = 9 := by omega
  rcases this with rfl | rfl | rfl | rfl | rfl | rfl | rfl | rfl | rfl | rfl <;> rfl
theorem conv_byte (n : Int) : convD Tryd.prog 3 5 (.int n) = some (.v (.int .u8 (IntKind.u8.wrap n))) := by kernel_rfl
theorem lit_byte (x : Value) (h : isOne x = true) : litS Tryd.prog 89 1 [(0, .v x)] = some (1, [.v x]) := by cases x <;> first | (cases h; done) | kernel_rfl
theorem conv_str (n : Int) : convD Tryd.prog 89 9 (.sl 1 1 [.v (.int .u8 n)]) = some (.str [UInt8.ofNat n.toNat]) := by kernel_rfl
/-- The digits that are still to come, and those that stand. -/
def More (n x : Int) (s : List UInt8) : Prop := InR x ∧ (n < 0 → x ≤ 0) ∧ (0 ≤ n → 0 ≤ x) ∧ s.length ≤ 21 ∧ (if x = 0 then s else Lib.decDigits x.natAbs ++ s) = Lib.decDigits n.natAbs
theorem dec_step (u : Nat) : Lib.decDigits u = (if u / 10 = 0 then [] else Lib.decDigits (u / 10)) ++ [UInt8.ofNat (48 + u % 10)] := by
  conv => lhs; unfold Lib.decDigits
  split
  · rename_i h
    rw [if_pos (by omega), Nat.mod_eq_of_lt h]
    rfl
  · rename_i h
    rw [if_neg (by omega)]
theorem natAbs_le {n : Int} (h : InR n) : (Lib.decDigits n.natAbs).length ≤ 21 := by
  have := Lib.itoa_length_le n h.1 h.2
  unfold Lib.itoa at this
  split at this
  · simp at this; omega
  · rename_i hn
    rw [show n.toNat = n.natAbs by omega] at this
    exact this
theorem More.step {n x : Int} {s : List UInt8} (hn : InR n) (m : More n x s) (hx : x ≠ 0) {d : Int} (hd : d = if x.tmod 10 < 0 then -(x.tmod 10) else x.tmod 10) : 0 ≤ d ∧ d < 10 ∧ More n (x.tdiv 10) (UInt8.ofNat (48 + d.toNat) :: s) ∧ (x.tdiv 10).natAbs < x.natAbs := by
  obtain ⟨m1, m2, m3, m4, m5⟩ := m
  have a1 : (x.tdiv 10).natAbs = x.natAbs / 10 := by rw [Int.natAbs_tdiv]; rfl
  have a2 : (x.tmod 10).natAbs = x.natAbs % 10 := by rw [Int.natAbs_tmod]; rfl
  have a3 : d.toNat = x.natAbs % 10 := by subst hd; split <;> omega
  have a4 : 0 ≤ d := by subst hd; split <;> omega
  have a5 : x.tdiv 10 = 0 ↔ x.natAbs / 10 = 0 := by omega
  rw [if_neg hx, dec_step] at m5
  have hlen := natAbs_le hn
  have sg1 : x ≤ 0 → x.tdiv 10 ≤ 0 := fun h => by
    have : x.tdiv 10 = -((-x).tdiv 10) := by rw [Int.neg_tdiv]; omega
    have : 0 ≤ (-x).tdiv 10 := Int.tdiv_nonneg (by omega) (by omega)
    omega
  have sg2 : 0 ≤ x → 0 ≤ x.tdiv 10 := fun h => Int.tdiv_nonneg h (by omega)
  refine ⟨a4, by omega, ⟨⟨?_, ?_⟩, fun h => sg1 (m2 h), fun h => sg2 (m3 h), ?_, ?_⟩, by omega⟩
  · have := m1.1; have := m1.2; omega
  · have := m1.1; have := m1.2; omega
  · have := congrArg List.length m5
    simp at this
    simp
    omega
  · rw [a3, ← m5, a1]
    by_cases h0 : x.tdiv 10 = 0
    · rw [if_pos h0, if_pos (a5.1 h0)]; simp
    · rw [if_neg h0, if_neg (fun h => h0 (a5.2 h))]; simp
def absM (l : List D) : Nat := match l with
  | [_, .v (.int _ x)] => x.natAbs
  | _ => 0
theorem c25 {m : Bool} {n : Int} (hn : InR n) : Sm m 25 [.val (.int n)] (.str (Lib.itoa n)) [] := by
  refine V25 ?_
  unfold G25
  refine ⟨_, d_eql _ _ _, _, rfl, fun h => ?_, fun h => ?_⟩
  · have : n = 0 := by simpa using h
    subst this
    exact ⟨by kernel_rfl, rfl⟩
  have h0 : n ≠ 0 := by simpa using h
  refine ⟨fun l => ∃ s x, l = [.str s, .int x] ∧ More n x s, absM, ⟨[], n, rfl, hn, fun h => by omega, fun h => by omega, by simp, by rw [if_neg h0, List.append_nil]⟩, ?_⟩
  rintro x5 x6 ⟨s, x, e, mo⟩
  cases e
  refine ⟨_, d_neq _ _ _, _, rfl, fun h => ?_, fun h => ?_⟩
  · have hx : x ≠ 0 := by simpa using h
    have len : s.length ≤ 21 := mo.2.2.2.1
    refine ⟨_, d_rem _ _ _ (by omega), ?_⟩
    have rq : InR (x.tdiv 10) := (mo.step hn hx rfl).2.2.1.1
    refine ⟨_, d_lss _ _ _, _, rfl, fun h => ?_, fun h => ?_⟩

    · have hm : x.tmod 10 < 0 := by simpa using h
      obtain ⟨q1, q2, q3, q4⟩ := mo.step hn hx (d := -(x.tmod 10)) (by rw [if_pos hm])
      refine ⟨_, d_neg _, ?_⟩
      rw [show (0 : Int) - x.tmod 10 = -(x.tmod 10) by omega, wrap_in (by omega) (by omega)]
      refine ⟨_, d_add _ _ _, ?_⟩
      rw [wrap_in (by omega) (by omega)]
      refine ⟨_, conv_byte _, _, _, lit_byte _ rfl, _, conv_str _, ?_⟩
      rw [dig_u8 q1 q2]
      refine ⟨_, d_sadd _ _ _ (by simp; omega), _, d_quo _ _ _ (by omega), ?_⟩
      rw [rq.wrap]
      exact ⟨⟨_, _, rfl, q3⟩, q4⟩
    · have hm : ¬ x.tmod 10 < 0 := by simpa using h
      obtain ⟨q1, q2, q3, q4⟩ := mo.step hn hx (d := x.tmod 10) (by rw [if_neg hm])
      refine ⟨_, d_add _ _ _, ?_⟩
      rw [wrap_in (by omega) (by omega)]
      refine ⟨_, conv_byte _, _, _, lit_byte _ rfl, _, conv_str _, ?_⟩
      rw [dig_u8 q1 q2]
      refine ⟨_, d_sadd _ _ _ (by simp; omega), _, d_quo _ _ _ (by omega), ?_⟩
      rw [rq.wrap]
      exact ⟨⟨_, _, rfl, q3⟩, q4⟩
  · have hx : x = 0 := by simpa using h
    subst hx
    obtain ⟨m1, m2, m3, m4, m5⟩ := mo
    rw [if_pos rfl] at m5
    refine ⟨_, d_lss _ _ _, _, rfl, fun h => ?_, fun h => ?_⟩
    · have hneg : n < 0 := by simpa using h
      refine ⟨_, d_sadd _ _ _ (by simp; omega), ?_, rfl⟩
      unfold Lib.itoa
      rw [if_pos hneg, m5]
      rfl
    · have hneg : ¬ n < 0 := by simpa using h
      refine ⟨?_, rfl⟩
      unfold Lib.itoa
      rw [if_neg hneg, m5, show n.toNat = n.natAbs by omega]
theorem c66 {m : Bool} {n : Int} (hn : InR n) : Sm m 66 [.val (.int n)] (.str (Lib.itoa n)) [] := itoa_sem (g := 2) (fun n h => by rw [show K 66 = call Tryd.prog Hn Xn 66 from rfl, call_ext (g := itoaX 2) rfl]) (fun h u => u.1) hn.1 hn.2
theorem c37 {m : Bool} {n : Int} (hn : InR n) : Sm m 37 [.val (.int n)] (.str (Lib.itoa n)) [] := V37 ⟨_, c66 hn, rfl, rfl⟩
theorem c54 {m : Bool} {xs : List ByteArray} {sep : ByteArray} (h0 : xs ≠ []) (h1 : xs.length ≤ 140737488355328) (h2 : (joinB xs sep).length ≤ 140737488355328) : Sm m 54 [.val (strsD xs), .val (.v (.string sep))] (.str (joinB xs sep)) [] :=
  join_sem (fun us h => by rw [show K 54 = call Tryd.prog Hn Xn 54 from rfl, call_ext (g := joinX) rfl]) h0 h1 h2

/-! ### Texts -/
theorem itoa_le {n : Int} (h : InR n) : (Lib.itoa n).length ≤ 21 := Lib.itoa_length_le n h.1 h.2
/-- A slice of texts. -/
def txtD (xs : List (List UInt8)) : D := .sl 1 xs.length (xs.map D.str)
theorem txt_strs (xs : List (List UInt8)) : txtD xs = strsD (xs.map fun s => ⟨s.toArray⟩) := by
  unfold txtD strsD
  rw [List.length_map, List.map_map]
  rfl
theorem joinB_txt (xs : List (List UInt8)) (sep : List UInt8) : joinB (xs.map fun s => ⟨s.toArray⟩) ⟨sep.toArray⟩ = Lib.join xs sep := by
  unfold joinB
  rw [List.map_map]
  have : ((fun x : ByteArray => x.data.toList) ∘ fun s : List UInt8 => (⟨s.toArray⟩ : ByteArray)) = id := by funext s; rfl
  rw [this, List.map_id]
theorem c54t {m : Bool} {xs : List (List UInt8)} {sep : List UInt8} (h0 : xs ≠ []) (h1 : xs.length ≤ 140737488355328) (h2 : (Lib.join xs sep).length ≤ 140737488355328) : Sm m 54 [.val (txtD xs), .val (.str sep)] (.str (Lib.join xs sep)) [] := by
  rw [txt_strs, ← joinB_txt]
  exact c54 (by simpa using h0) (by simpa using h1) (by rw [joinB_txt]; exact h2)
theorem join_le (sep : List UInt8) (k : Nat) : ∀ xs : List (List UInt8), (∀ x ∈ xs, x.length ≤ k) → (Lib.join xs sep).length ≤ xs.length * (k + sep.length)
  | [], _ => by simp [Lib.join, List.intercalate]
  | x :: xs, h => by
    rw [Lib.join_cons]
    have h1 := h x (by simp)
    have h2 : ∀ ys : List (List UInt8), (∀ y ∈ ys, y.length ≤ k) → (Lib.joinTail sep ys).length ≤ ys.length * (k + sep.length) := by
      intro ys
      induction ys with
      | nil => intro _; simp [Lib.joinTail]
      | cons y ys ih =>
        intro hy
        have := ih fun z hz => hy z (by simp [hz])
        have := hy y (by simp)
        simp only [Lib.joinTail, List.map_cons, List.flatten_cons, List.length_append, List.length_cons, Nat.succ_mul] at *
        omega
    have := h2 xs fun y hy => h y (by simp [hy])
    simp only [List.length_append, List.length_cons, Nat.succ_mul]
    omega

/-! ### joined -/
theorem lit_nil : litS Tryd.prog 91 0 [] = some (0, []) := by kernel_rfl
theorem lit_str (s : List UInt8) : litS Tryd.prog 91 1 [(0, .str s)] = some (1, [.str s]) := by kernel_rfl
theorem app_str {n : Nat} {ds : List D} (s : List UInt8) (h : n < 4398046511104) : appD Tryd.prog 9 n ds (srcD Tryd.prog 9 (.sl 1 1 [.str s])) = some (n + 1, ds ++ [.str s]) := by
  have e1 : srcD Tryd.prog 9 (.sl 1 1 [.str s]) = some (1, [.str s]) := by kernel_rfl
  have e2 : by_ Tryd.prog 9 = 16 := by kernel_rfl
  rw [e1]
  simp only [appD, Option.bind_some, roomD, e2]
  rw [if_pos (by simp; omega)]
theorem e3 : (Tryd.prog.info? 3).isSome = true := by kernel_rfl
theorem a3 : aggT Tryd.prog 3 = some false := by kernel_rfl
theorem z3 : sz Tryd.prog 3 = 1 := by kernel_rfl
/-- A slice of numbers. -/
def intsD (ns : List Int) : D := .sl 1 ns.length (ns.map D.int)
theorem c26 {m : Bool} {sep : List UInt8} {ns : List Int} (h0 : ns ≠ []) (h1 : ns.length ≤ 1000000) (h2 : sep.length ≤ 1000000) (hr : ∀ n ∈ ns, InR n) : Sm m 26 [.val (.str sep), .val (intsD ns)] (.str (Lib.join (ns.map Lib.itoa) sep)) [] := by
  refine V26 ?_
  unfold G26
  refine ⟨_, _, lit_nil, _, d_len Tryd.underlying90, ?_⟩
  refine ⟨fun l => ∃ i : Nat, i ≤ ns.length ∧ l = [txtD ((ns.take i).map Lib.itoa), .int i], upM ns.length 1, ⟨0, by omega, rfl⟩, ?_⟩
  rintro n6 r7 x8 ⟨i, hi, e⟩
  simp only [txtD, List.length_map, List.cons.injEq, D.sl.injEq, true_and, and_true] at e
  obtain ⟨⟨rfl, rfl⟩, rfl⟩ := e
  rw [List.length_take, Nat.min_eq_left hi]
  refine ⟨_, d_lss _ _ _, _, rfl, fun h => ?_, fun h => ?_⟩
  · have hlt : i < ns.length := by simpa using h
    obtain ⟨k1, k2⟩ := d_at1 (P := Tryd.prog) (f := D.int) Tryd.underlying90 e3 a3 z3 (x := ns[i]) (i := i) (l := ns) (by simp [hlt])
    have hin := hr ns[i] (by simp)
    refine ⟨_, k1, _, k2, _, c37 hin, _, _, lit_str _, _, _, app_str _ (by omega), _, d_add _ _ _, ?_⟩
    rw [wrap_in (by omega) (by omega)]
    refine ⟨⟨i + 1, hlt, ?_⟩, ?_⟩
    · simp only [txtD, List.length_map, List.length_take, Nat.min_eq_left (Nat.succ_le_of_lt hlt)]
      rw [List.take_succ_eq_append_getElem hlt]
      simp only [List.map_append, List.map_cons, List.map_nil]
      rfl
    · simp only [upM, List.getElem?_cons_succ, List.getElem?_cons_zero]
      omega
  · have hge : i = ns.length := by
      have : ¬ i < ns.length := by simpa using h
      omega
    subst hge
    rw [List.take_length]
    have len : (Lib.join (ns.map Lib.itoa) sep).length ≤ 140737488355328 := by
      have := join_le sep 21 (ns.map Lib.itoa) (by
        intro x hx
        obtain ⟨n, hn, rfl⟩ := List.mem_map.1 hx
        exact itoa_le (hr n hn))
      rw [List.length_map] at this
      have := Nat.mul_le_mul h1 (show 21 + sep.length ≤ 1000021 by omega)
      omega
    have := c54t (m := m) (xs := ns.map Lib.itoa) (sep := sep) (by simpa using h0) (by rw [List.length_map]; omega) len
    simp only [txtD, List.length_map] at this
    exact ⟨_, this, rfl, rfl⟩

/-! ### Tags -/
theorem cells23 (a b c : D) : cellsD Tryd.prog 23 (.agg [a, b, c]) = some [a, b, c] := by kernel_rfl
theorem cells25 (a b c : D) : cellsD Tryd.prog 25 (.agg [a, b, c]) = some [a, b, c] := by kernel_rfl
structure TagV where
  vat : Int
  ent : Int
  seq : Int
def TagV.ok (t : TagV) : Prop := InR t.vat ∧ InR t.ent ∧ InR t.seq
def TagV.cs (t : TagV) : List D := [.int t.vat, .int t.ent, .int t.seq]
def TagV.d (t : TagV) : D := .agg t.cs
def TagV.txt (t : TagV) : List UInt8 := Lib.itoa t.vat ++ [46] ++ Lib.itoa t.ent ++ [46] ++ Lib.itoa t.seq
theorem TagV.txt_le {t : TagV} (h : t.ok) : t.txt.length ≤ 65 := by
  have h1 := itoa_le h.1
  have h2 := itoa_le h.2.1
  have h3 := itoa_le h.2.2
  unfold TagV.txt
  simp
  omega
theorem c7 {m : Bool} {t : TagV} (h : t.ok) : Sm m 7 [.val t.d] (.str t.txt) [] := by
  have h1 := itoa_le h.1
  have h2 := itoa_le h.2.1
  have h3 := itoa_le h.2.2
  refine V7 ?_
  unfold G7
  refine ⟨_, _, _, cells25 _ _ _, _, c25 h.1, _, d_sadd _ _ _ (by simp; omega), _, c25 h.2.1, _, d_sadd _ _ _ (by simp; omega), _, d_sadd _ _ _ (by simp; omega), _, c25 h.2.2, _, d_sadd _ _ _ (by simp; omega), ?_, rfl⟩
  rfl
theorem c8 {m : Bool} {t : TagV} : Sm m 8 [.val t.d] t.d [] := V8 ⟨_, _, _, cells23 _ _ _, _, _, _, cells25 _ _ _, rfl, rfl⟩
theorem lit_tag (a b c : Int) : litS Tryd.prog 90 3 [(0, .int a), (1, .int b), (2, .int c)] = some (3, [.int a, .int b, .int c]) := by kernel_rfl
theorem c9 {m : Bool} {t : TagV} (h : t.ok) : Sm m 9 [.val t.d] (.str t.txt) [] := by
  refine V9 ⟨_, _, _, cells25 _ _ _, _, _, lit_tag _ _ _, _, c26 (ns := [t.vat, t.ent, t.seq]) (by simp) (by simp) (by simp) ?_, ?_, rfl⟩
  · intro n hn
    simp at hn
    rcases hn with rfl | rfl | rfl
    · exact h.1
    · exact h.2.1
    · exact h.2.2
  · unfold TagV.txt Lib.join
    simp [List.intercalate, List.intersperse]
theorem c3 {m : Bool} {t : TagV} (h : t.ok) : Sm m 3 [.val t.d] (.bool true) [] := by
  refine V3 ⟨_, _, _, cells23 _ _ _, _, c8 (t := t), _, c7 h, _, c8 (t := t), _, c9 h, _, d_sneq _ _ _, _, rfl, fun h => by simp at h, fun _ => ⟨rfl, rfl⟩⟩
end Go.Proofs.YtlihmncbhaimkaaDoor.Am
/- From what a law computes to its call in the model: the tables that are listed, the start. -/
namespace Go.Proofs.YtlihmncbhaimkaaDoor.Am
open Go Go.RowKit Go.ChangeShapes Go.WideShapes Go.ChangeAt
set_option linter.unusedVariables false

theorem own : ownKnob Tryd.prog.godebug = none := by kernel_rfl
theorem laidOut : laidOutB Tryd.prog = true := by kernel_rfl
theorem mixed : Tryd.prog.follows .mixedOrders = true := by kernel_rfl
/-- The package's variables that are read. -/
def glV (m : Bool) (g : Nat) : Option (Nat × List Value) := if g = 2 then some (1, powV) else if g = 0 ∧ m = true then some (1, namesV) else none
/-- What the model's world holds there. -/
def Tabs (m : Bool) (W : World) : Prop := Lib.TabIs Tryd.prog W "internal/strconv.uint64pow10" .u64 Lib.pow10Tab ∧ (m = true → W.var? Tryd.prog "loop.example/g00591/impl.messageNames" = some namesV.toArray)
theorem var_cells {W : World} {name : String} {g : Nat} {vs : Array Value} (hg : Tryd.prog.globalNamed name = some g) (h : W.var? Tryd.prog name = some vs) : ∃ ty fz, W.heap[g]? = some (.cells vs ty fz) := by
  unfold World.var? at h
  rw [hg, Option.bind_some] at h
  split at h
  · rename_i cs ty fz hc
    cases h
    exact ⟨ty, fz, hc⟩
  · cases h
theorem start_ok {m : Bool} {W : World} (h : Tabs m W) : StartOk Tryd.prog W (glV m) [] := by
  refine ⟨fun i x cs hi => by simp at hi, fun g s cs hs hg => ?_⟩
  unfold glV at hg
  split at hg
  · rename_i e
    subst e
    cases hg
    obtain ⟨ty, fz, hc⟩ := var_cells gTab h.1
    refine ⟨_, ty, fz, hc, by simp [powV], fun j v hj => ⟨v, ?_, ?_⟩⟩
    · rw [List.getElem?_toArray]
      exact hj
    · unfold powV at hj
      rw [List.getElem?_map] at hj
      obtain ⟨z, _, rfl⟩ := map_inv hj
      exact .int _ _
  · split at hg
    · rename_i e
      obtain ⟨rfl, hm⟩ := e
      cases hg
      obtain ⟨ty, fz, hc⟩ := var_cells gMsg (h.2 hm)
      refine ⟨_, ty, fz, hc, by simp, fun j v hj => ⟨v, ?_, ?_⟩⟩
      · rw [List.getElem?_toArray]
        exact hj
      · unfold namesV at hj
        rw [List.getElem?_map] at hj
        obtain ⟨z, _, rfl⟩ := map_inv hj
        exact .string _
    · cases hg
theorem lives (m : Bool) : ∃ g s cs, g < Tryd.prog.globals.size ∧ glV m g = some (s, cs) := ⟨2, 1, powV, lTab, rfl⟩
theorem lMsg : 0 < Tryd.prog.globals.size := of_decide_eq_true (by kernel_rfl)
theorem un_start (m : Bool) (bs : List (RB × Option (List Value))) : Un m (startH Tryd.prog (glV m) bs) := ⟨startH_glob lTab rfl, fun hm => startH_glob lMsg (by subst hm; rfl)⟩
/-- A law that comes to 'true' over the data comes to 'true' in the model. -/
theorem law_true {m : Bool} {W : World} {f : FuncId} {v : Value} {d : D} (lay : ∃ bs, StartOk Tryd.prog W (glV m) bs ∧ ∃ u, RV (startR Tryd.prog (glV m) bs) u v ∧ RD (startH Tryd.prog (glV m) bs) noOwn d u) (c : Sm m f [.val d] (.bool true) []) :
    Calls Tryd.prog f #[v] W fun e W' => e = .returned (.bool true) ∧ Below W.heap.size W W' := by
  obtain ⟨bs, s, u, h1, h2⟩ := lay
  refine law_calls (H := Hn) xsound mixed (args := [u]) s (RL.cons h1 (RL.nil _)) ?_
  obtain ⟨w, h', e, t⟩ := c _ noOwn [u] (un_start m bs) start_lt (fun _ h => h.elim) (.val _ _ _ _ h2 .nil)
  refine ⟨w, h', e, ?_⟩
  have := t.res
  cases this
  rfl
theorem tTab : (Tryd.prog.globals[2]?).map (·.type) = some 135 := by kernel_rfl
/-- The tables that the rows list. -/
theorem tabs_of3 {W : World} (h : laidMet Tryd.prog [("math/bits.deBruijn32tab", Rows.laid_math_bits_deBruijn32tab), ("math/bits.deBruijn64tab", Rows.laid_math_bits_deBruijn64tab), ("internal/strconv.uint64pow10", Rows.laid_internal_strconv_uint64pow10)] W) : Tabs false W :=
  ⟨Lib.tabIs_of_head (n := 20) (k := .u64) (zs := Lib.pow10Tab) gTab tTab Tryd.underlying135 Tryd.underlying128 (by kernel_rfl) (by kernel_rfl) h.tail.tail, fun h => by cases h⟩
end Go.Proofs.YtlihmncbhaimkaaDoor.Am
