/- Texts of this claim, joined: T0, T1, T2, T3, T4, T5, T6, T7, End, Open. -/
import Derived.Test.YtlihmncbhaimkaaDoorC3
import Derived.Lib.ItoaLen
import Derived.Test.YtlihmncbhaimkaaDoorRows
import Derived.Test.YtlihmncbhaimkaaDoorTie
import Derived.Test.YtlihmncbhaimkaaDoorCards
import Derived.Stop.LaidErr
import Derived.Lib.LaidTab
import Derived.LaidMore
import Derived.Lay
import Derived.SevenTiedAt
import Derived.Stop.Joined
import Derived.WalkKit
import Derived.ProofKit
import Derived.OpenShut
import Derived.ShutString
import Derived.ChangeOld
import Derived.ChangeVars
import Derived.Below
import Derived.SizedLaws
/- The data that the functions of this seat are about. -/
namespace Go.Proofs.YtlihmncbhaimkaaDoor.Am
open Go Go.RowKit

structure TagV where
  vat : Int
  ent : Int
  seq : Int
def TagV.ok (t : TagV) : Prop := InR t.vat ∧ InR t.ent ∧ InR t.seq
def TagV.cs (t : TagV) : List D := [.int t.vat, .int t.ent, .int t.seq]
def TagV.d (t : TagV) : D := .agg t.cs
/-- A value, a wire, an asker. -/
structure PairV where
  k : Int
  n : Int
def PairV.ok (p : PairV) : Prop := InR p.k ∧ InR p.n
def PairV.cs (p : PairV) : List D := [.int p.k, .int p.n]
def PairV.d (p : PairV) : D := .agg p.cs
/-- A slice of tags, of pairs. -/
abbrev tagsD (l : List TagV) : D := rowD 3 TagV.cs l
abbrev pairsD (l : List PairV) : D := rowD 2 PairV.cs l
structure SentV where
  target : Int
  name : List UInt8
  args : List PairV
  result : Int
  tag : TagV
def SentV.ok (s : SentV) : Prop := InR s.target ∧ s.name.length ≤ maxLen ∧ ((∀ a ∈ s.args, a.ok) ∧ s.args.length ≤ maxLen) ∧ InR s.result ∧ s.tag.ok
def SentV.cs (s : SentV) : List D := [.int s.target, .str s.name, pairsD s.args, .int s.result, .int s.tag.vat, .int s.tag.ent, .int s.tag.seq]
def SentV.d (s : SentV) : D := .agg s.cs
abbrev sentsD (l : List SentV) : D := rowD 7 SentV.cs l
structure EntV where
  kind : Int
  script : Int
  slots : List PairV
  state : Int
  value : PairV
  queue : List SentV
  askers : List PairV
  peer : Int
  pos : Int
  count : Int
  sent : Int
def EntV.ok (e : EntV) : Prop := InR e.kind ∧ InR e.script ∧ ((∀ a ∈ e.slots, a.ok) ∧ e.slots.length ≤ maxLen) ∧ InR e.state ∧ e.value.ok ∧ ((∀ a ∈ e.queue, a.ok) ∧ e.queue.length ≤ maxLen) ∧ ((∀ a ∈ e.askers, a.ok) ∧ e.askers.length ≤ maxLen) ∧ InR e.peer ∧ InR e.pos ∧ InR e.count ∧ InR e.sent
def EntV.cs (e : EntV) : List D := [.int e.kind, .int e.script, pairsD e.slots, .int e.state, .int e.value.k, .int e.value.n, sentsD e.queue, pairsD e.askers, .int e.peer, .int e.pos, .int e.count, .int e.sent]
def EntV.d (e : EntV) : D := .agg e.cs
structure MsgV where
  kind : Int
  pos : Int
  answer : Int
  question : Int
  name : List UInt8
  args : List PairV
  value : PairV
  count : Int
  tag : TagV
def MsgV.ok (m : MsgV) : Prop := InR m.kind ∧ InR m.pos ∧ InR m.answer ∧ InR m.question ∧ m.name.length ≤ maxLen ∧ ((∀ a ∈ m.args, a.ok) ∧ m.args.length ≤ maxLen) ∧ m.value.ok ∧ InR m.count ∧ m.tag.ok
def MsgV.cs (m : MsgV) : List D := [.int m.kind, .int m.pos, .int m.answer, .int m.question, .str m.name, pairsD m.args, .int m.value.k, .int m.value.n, .int m.count, .int m.tag.vat, .int m.tag.ent, .int m.tag.seq]
def MsgV.d (m : MsgV) : D := .agg m.cs
end Go.Proofs.YtlihmncbhaimkaaDoor.Am
/- What the functions of FormatTag do. -/
namespace Go.Proofs.YtlihmncbhaimkaaDoor.Am
open Go Go.RowKit
set_option linter.unusedVariables false

/-! ### FormatInt -/
theorem dig_u8 {d : Int} (h0 : 0 ≤ d) (h1 : d < 10) : UInt8.ofNat (IntKind.u8.wrap (48 + d)).toNat = UInt8.ofNat (48 + d.toNat) := by
  have : d = 0 ∨ d = 1 ∨ d = 2 ∨ d = 3 ∨ d = 4 ∨ d = 5 ∨ d = 6 ∨ d = 7 ∨ d = 8 ∨ d = 9 := by omega
  rcases this with rfl | rfl | rfl | rfl | rfl | rfl | rfl | rfl | rfl | rfl <;> rfl
theorem conv_byte (n : Int) : convD Tryd.prog 3 5 (.int n) = some (.v (.int .u8 (IntKind.u8.wrap n))) := by kernel_rfl
theorem lit_byte (x : Value) (h : isOne x = true) : litS Tryd.prog 89 1 [(0, .v x)] = some (1, [.v x]) := by cases x <;> first | (cases h; done) | kernel_rfl
theorem conv_str (n : Int) : convD Tryd.prog 89 9 (.sl 1 1 [.v (.int .u8 n)]) = some (.str [UInt8.ofNat n.toNat]) := by kernel_rfl
/-- The digits that are still to come, and those that stand. -/
def More (n x : Int) (s : List UInt8) : Prop := InR x ∧ (n < 0 → x ≤ 0) ∧ (0 ≤ n → 0 ≤ x) ∧ s.length ≤ 21 ∧ (if x = 0 then s else Lib.decDigits x.natAbs ++ s) = Lib.decDigits n.natAbs
theorem dec_step (u : Nat) : Lib.decDigits u = (if u / 10 = 0 then [] else Lib.decDigits (u / 10)) ++ [UInt8.ofNat (48 + u % 10)] := by
  conv => lhs; unfold Lib.decDigits
  split
  · rename_i h
    rw [if_pos (by omega), Nat.mod_eq_of_lt h]
    rfl
  · rename_i h
    rw [if_neg (by omega)]
theorem natAbs_le {n : Int} (h : InR n) : (Lib.decDigits n.natAbs).length ≤ 21 := by
  have := Lib.itoa_length_le n h.1 h.2
  unfold Lib.itoa at this
  split at this
  · simp at this; omega
  · rename_i hn
    rw [show n.toNat = n.natAbs by omega] at this
    exact this
theorem More.step {n x : Int} {s : List UInt8} (hn : InR n) (m : More n x s) (hx : x ≠ 0) {d : Int} (hd : d = if x.tmod 10 < 0 then -(x.tmod 10) else x.tmod 10) : 0 ≤ d ∧ d < 10 ∧ More n (x.tdiv 10) (UInt8.ofNat (48 + d.toNat) :: s) ∧ (x.tdiv 10).natAbs < x.natAbs := by
  obtain ⟨m1, m2, m3, m4, m5⟩ := m
  have a1 : (x.tdiv 10).natAbs = x.natAbs / 10 := by rw [Int.natAbs_tdiv]; rfl
  have a2 : (x.tmod 10).natAbs = x.natAbs % 10 := by rw [Int.natAbs_tmod]; rfl
  have a3 : d.toNat = x.natAbs % 10 := by subst hd; split <;> omega
  have a4 : 0 ≤ d := by subst hd; split <;> omega
  have a5 : x.tdiv 10 = 0 ↔ x.natAbs / 10 = 0 := by omega
  rw [if_neg hx, dec_step] at m5
  have hlen := natAbs_le hn
  have sg1 : x ≤ 0 → x.tdiv 10 ≤ 0 := fun h => by
    have : x.tdiv 10 = -((-x).tdiv 10) := by rw [Int.neg_tdiv]; omega
    have : 0 ≤ (-x).tdiv 10 := Int.tdiv_nonneg (by omega) (by omega)
    omega
  have sg2 : 0 ≤ x → 0 ≤ x.tdiv 10 := fun h => Int.tdiv_nonneg h (by omega)
  refine ⟨a4, by omega, ⟨⟨?_, ?_⟩, fun h => sg1 (m2 h), fun h => sg2 (m3 h), ?_, ?_⟩, by omega⟩
  · have := m1.1; have := m1.2; omega
  · have := m1.1; have := m1.2; omega
  · have := congrArg List.length m5
    simp at this
    simp
    omega
  · rw [a3, ← m5, a1]
    by_cases h0 : x.tdiv 10 = 0
    · rw [if_pos h0, if_pos (a5.1 h0)]; simp
    · rw [if_neg h0, if_neg (fun h => h0 (a5.2 h))]; simp
def absM (l : List D) : Nat := match l with
  | [_, .v (.int _ x)] => x.natAbs
  | _ => 0
theorem c25 {m : Bool} {n : Int} (hn : InR n) : Sm m 25 [.val (.int n)] (.str (Lib.itoa n)) [] := by
  refine V25 ?_
  unfold G25
  refine ⟨_, d_eql _ _ _, _, rfl, fun h => ?_, fun h => ?_⟩
  · have : n = 0 := by simpa using h
    subst this
    exact ⟨by kernel_rfl, rfl⟩
  have h0 : n ≠ 0 := by simpa using h
  refine ⟨fun l => ∃ s x, l = [.str s, .int x] ∧ More n x s, absM, ⟨[], n, rfl, hn, fun h => by omega, fun h => by omega, by simp, by rw [if_neg h0, List.append_nil]⟩, ?_⟩
  rintro x5 x6 ⟨s, x, e, mo⟩
  cases e
  refine ⟨_, d_neq _ _ _, _, rfl, fun h => ?_, fun h => ?_⟩
  · have hx : x ≠ 0 := by simpa using h
    have len : s.length ≤ 21 := mo.2.2.2.1
    refine ⟨_, d_rem _ _ _ (by omega), ?_⟩
    have rq : InR (x.tdiv 10) := (mo.step hn hx rfl).2.2.1.1
    refine ⟨_, d_lss _ _ _, _, rfl, fun h => ?_, fun h => ?_⟩

    · have hm : x.tmod 10 < 0 := by simpa using h
      obtain ⟨q1, q2, q3, q4⟩ := mo.step hn hx (d := -(x.tmod 10)) (by rw [if_pos hm])
      refine ⟨_, d_neg _, ?_⟩
      rw [show (0 : Int) - x.tmod 10 = -(x.tmod 10) by omega, wrap_in (by omega) (by omega)]
      refine ⟨_, d_add _ _ _, ?_⟩
      rw [wrap_in (by omega) (by omega)]
      refine ⟨_, conv_byte _, _, _, lit_byte _ rfl, _, conv_str _, ?_⟩
      rw [dig_u8 q1 q2]
      refine ⟨_, d_sadd _ _ _ (by simp; omega), _, d_quo _ _ _ (by omega), ?_⟩
      rw [rq.wrap]
      exact ⟨⟨_, _, rfl, q3⟩, q4⟩
    · have hm : ¬ x.tmod 10 < 0 := by simpa using h
      obtain ⟨q1, q2, q3, q4⟩ := mo.step hn hx (d := x.tmod 10) (by rw [if_neg hm])
      refine ⟨_, d_add _ _ _, ?_⟩
      rw [wrap_in (by omega) (by omega)]
      refine ⟨_, conv_byte _, _, _, lit_byte _ rfl, _, conv_str _, ?_⟩
      rw [dig_u8 q1 q2]
      refine ⟨_, d_sadd _ _ _ (by simp; omega), _, d_quo _ _ _ (by omega), ?_⟩
      rw [rq.wrap]
      exact ⟨⟨_, _, rfl, q3⟩, q4⟩
  · have hx : x = 0 := by simpa using h
    subst hx
    obtain ⟨m1, m2, m3, m4, m5⟩ := mo
    rw [if_pos rfl] at m5
    refine ⟨_, d_lss _ _ _, _, rfl, fun h => ?_, fun h => ?_⟩
    · have hneg : n < 0 := by simpa using h
      refine ⟨_, d_sadd _ _ _ (by simp; omega), ?_, rfl⟩
      unfold Lib.itoa
      rw [if_pos hneg, m5]
      rfl
    · have hneg : ¬ n < 0 := by simpa using h
      refine ⟨?_, rfl⟩
      unfold Lib.itoa
      rw [if_neg hneg, m5, show n.toNat = n.natAbs by omega]
theorem c66 {m : Bool} {n : Int} (hn : InR n) : Sm m 66 [.val (.int n)] (.str (Lib.itoa n)) [] := itoa_sem (g := 2) (fun n h => by rw [show K 66 = call Tryd.prog Hn Xn 66 from rfl, call_ext (g := itoaX 2) rfl]) (fun h u => u.1) hn.1 hn.2
theorem c37 {m : Bool} {n : Int} (hn : InR n) : Sm m 37 [.val (.int n)] (.str (Lib.itoa n)) [] := V37 ⟨_, c66 hn, rfl, rfl⟩
theorem c54 {m : Bool} {xs : List ByteArray} {sep : ByteArray} (h0 : xs ≠ []) (h1 : xs.length ≤ 140737488355328) (h2 : (joinB xs sep).length ≤ 140737488355328) : Sm m 54 [.val (strsD xs), .val (.v (.string sep))] (.str (joinB xs sep)) [] :=
  join_sem (fun us h => by rw [show K 54 = call Tryd.prog Hn Xn 54 from rfl, call_ext (g := joinX) rfl]) h0 h1 h2

/-! ### Texts -/
theorem itoa_le {n : Int} (h : InR n) : (Lib.itoa n).length ≤ 21 := Lib.itoa_length_le n h.1 h.2
/-- A slice of texts. -/
def txtD (xs : List (List UInt8)) : D := .sl 1 xs.length (xs.map D.str)
theorem txt_strs (xs : List (List UInt8)) : txtD xs = strsD (xs.map fun s => ⟨s.toArray⟩) := by
  unfold txtD strsD
  rw [List.length_map, List.map_map]
  rfl
theorem joinB_txt (xs : List (List UInt8)) (sep : List UInt8) : joinB (xs.map fun s => ⟨s.toArray⟩) ⟨sep.toArray⟩ = Lib.join xs sep := by
  unfold joinB
  rw [List.map_map]
  have : ((fun x : ByteArray => x.data.toList) ∘ fun s : List UInt8 => (⟨s.toArray⟩ : ByteArray)) = id := by funext s; rfl
  rw [this, List.map_id]
theorem c54t {m : Bool} {xs : List (List UInt8)} {sep : List UInt8} (h0 : xs ≠ []) (h1 : xs.length ≤ 140737488355328) (h2 : (Lib.join xs sep).length ≤ 140737488355328) : Sm m 54 [.val (txtD xs), .val (.str sep)] (.str (Lib.join xs sep)) [] := by
  rw [txt_strs, ← joinB_txt]
  exact c54 (by simpa using h0) (by simpa using h1) (by rw [joinB_txt]; exact h2)
theorem join_le (sep : List UInt8) (k : Nat) : ∀ xs : List (List UInt8), (∀ x ∈ xs, x.length ≤ k) → (Lib.join xs sep).length ≤ xs.length * (k + sep.length)
  | [], _ => by simp [Lib.join, List.intercalate]
  | x :: xs, h => by
    rw [Lib.join_cons]
    have h1 := h x (by simp)
    have h2 : ∀ ys : List (List UInt8), (∀ y ∈ ys, y.length ≤ k) → (Lib.joinTail sep ys).length ≤ ys.length * (k + sep.length) := by
      intro ys
      induction ys with
      | nil => intro _; simp [Lib.joinTail]
      | cons y ys ih =>
        intro hy
        have := ih fun z hz => hy z (by simp [hz])
        have := hy y (by simp)
        simp only [Lib.joinTail, List.map_cons, List.flatten_cons, List.length_append, List.length_cons, Nat.succ_mul] at *
        omega
    have := h2 xs fun y hy => h y (by simp [hy])
    simp only [List.length_append, List.length_cons, Nat.succ_mul]
    omega

/-! ### joined -/
theorem lit_nil : litS Tryd.prog 91 0 [] = some (0, []) := by kernel_rfl
theorem lit_str (s : List UInt8) : litS Tryd.prog 91 1 [(0, .str s)] = some (1, [.str s]) := by kernel_rfl
theorem app_str {n : Nat} {ds : List D} (s : List UInt8) (h : n < 4398046511104) : appD Tryd.prog 9 n ds (srcD Tryd.prog 9 (.sl 1 1 [.str s])) = some (n + 1, ds ++ [.str s]) := by
  have e1 : srcD Tryd.prog 9 (.sl 1 1 [.str s]) = some (1, [.str s]) := by kernel_rfl
  have e2 : by_ Tryd.prog 9 = 16 := by kernel_rfl
  rw [e1]
  simp only [appD, Option.bind_some, roomD, e2]
  rw [if_pos (by simp; omega)]
theorem e3 : (Tryd.prog.info? 3).isSome = true := by kernel_rfl
theorem a3 : aggT Tryd.prog 3 = some false := by kernel_rfl
theorem z3 : sz Tryd.prog 3 = 1 := by kernel_rfl
/-- A slice of numbers. -/
def intsD (ns : List Int) : D := .sl 1 ns.length (ns.map D.int)
theorem c26 {m : Bool} {sep : List UInt8} {ns : List Int} (h0 : ns ≠ []) (h1 : ns.length ≤ 1000000) (h2 : sep.length ≤ 1000000) (hr : ∀ n ∈ ns, InR n) : Sm m 26 [.val (.str sep), .val (intsD ns)] (.str (Lib.join (ns.map Lib.itoa) sep)) [] := by
  refine V26 ?_
  unfold G26
  refine ⟨_, _, lit_nil, _, d_len Tryd.underlying90, ?_⟩
  refine ⟨fun l => ∃ i : Nat, i ≤ ns.length ∧ l = [txtD ((ns.take i).map Lib.itoa), .int i], upM ns.length 1, ⟨0, by omega, rfl⟩, ?_⟩
  rintro n6 r7 x8 ⟨i, hi, e⟩
  simp only [txtD, List.length_map, List.cons.injEq, D.sl.injEq, true_and, and_true] at e
  obtain ⟨⟨rfl, rfl⟩, rfl⟩ := e
  rw [List.length_take, Nat.min_eq_left hi]
  refine ⟨_, d_lss _ _ _, _, rfl, fun h => ?_, fun h => ?_⟩
  · have hlt : i < ns.length := by simpa using h
    obtain ⟨k1, k2⟩ := d_at1 (P := Tryd.prog) (f := D.int) Tryd.underlying90 e3 a3 z3 (x := ns[i]) (i := i) (l := ns) (by simp [hlt])
    have hin := hr ns[i] (by simp)
    refine ⟨_, k1, _, k2, _, c37 hin, _, _, lit_str _, _, _, app_str _ (by omega), _, d_add _ _ _, ?_⟩
    rw [wrap_in (by omega) (by omega)]
    refine ⟨⟨i + 1, hlt, ?_⟩, ?_⟩
    · simp only [txtD, List.length_map, List.length_take, Nat.min_eq_left (Nat.succ_le_of_lt hlt)]
      rw [List.take_succ_eq_append_getElem hlt]
      simp only [List.map_append, List.map_cons, List.map_nil]
      rfl
    · simp only [upM, List.getElem?_cons_succ, List.getElem?_cons_zero]
      omega
  · have hge : i = ns.length := by
      have : ¬ i < ns.length := by simpa using h
      omega
    subst hge
    rw [List.take_length]
    have len : (Lib.join (ns.map Lib.itoa) sep).length ≤ 140737488355328 := by
      have := join_le sep 21 (ns.map Lib.itoa) (by
        intro x hx
        obtain ⟨n, hn, rfl⟩ := List.mem_map.1 hx
        exact itoa_le (hr n hn))
      rw [List.length_map] at this
      have := Nat.mul_le_mul h1 (show 21 + sep.length ≤ 1000021 by omega)
      omega
    have := c54t (m := m) (xs := ns.map Lib.itoa) (sep := sep) (by simpa using h0) (by rw [List.length_map]; omega) len
    simp only [txtD, List.length_map] at this
    exact ⟨_, this, rfl, rfl⟩

/-! ### Tags -/
theorem cells23 (a b c : D) : cellsD Tryd.prog 23 (.agg [a, b, c]) = some [a, b, c] := by kernel_rfl
theorem cells25 (a b c : D) : cellsD Tryd.prog 25 (.agg [a, b, c]) = some [a, b, c] := by kernel_rfl
def TagV.txt (t : TagV) : List UInt8 := Lib.itoa t.vat ++ [46] ++ Lib.itoa t.ent ++ [46] ++ Lib.itoa t.seq
theorem TagV.txt_le {t : TagV} (h : t.ok) : t.txt.length ≤ 65 := by
  have h1 := itoa_le h.1
  have h2 := itoa_le h.2.1
  have h3 := itoa_le h.2.2
  unfold TagV.txt
  simp
  omega
theorem c7 {m : Bool} {t : TagV} (h : t.ok) : Sm m 7 [.val t.d] (.str t.txt) [] := by
  have h1 := itoa_le h.1
  have h2 := itoa_le h.2.1
  have h3 := itoa_le h.2.2
  refine V7 ?_
  unfold G7
  refine ⟨_, _, _, cells25 _ _ _, _, c25 h.1, _, d_sadd _ _ _ (by simp; omega), _, c25 h.2.1, _, d_sadd _ _ _ (by simp; omega), _, d_sadd _ _ _ (by simp; omega), _, c25 h.2.2, _, d_sadd _ _ _ (by simp; omega), ?_, rfl⟩
  rfl
theorem c8 {m : Bool} {t : TagV} : Sm m 8 [.val t.d] t.d [] := V8 ⟨_, _, _, cells23 _ _ _, _, _, _, cells25 _ _ _, rfl, rfl⟩
theorem lit_tag (a b c : Int) : litS Tryd.prog 90 3 [(0, .int a), (1, .int b), (2, .int c)] = some (3, [.int a, .int b, .int c]) := by kernel_rfl
theorem c9 {m : Bool} {t : TagV} (h : t.ok) : Sm m 9 [.val t.d] (.str t.txt) [] := by
  refine V9 ⟨_, _, _, cells25 _ _ _, _, _, lit_tag _ _ _, _, c26 (ns := [t.vat, t.ent, t.seq]) (by simp) (by simp) (by simp) ?_, ?_, rfl⟩
  · intro n hn
    simp at hn
    rcases hn with rfl | rfl | rfl
    · exact h.1
    · exact h.2.1
    · exact h.2.2
  · unfold TagV.txt Lib.join
    simp [List.intercalate, List.intersperse]
theorem c3 {m : Bool} {t : TagV} (h : t.ok) : Sm m 3 [.val t.d] (.bool true) [] := by
  refine V3 ⟨_, _, _, cells23 _ _ _, _, c8 (t := t), _, c7 h, _, c8 (t := t), _, c9 h, _, d_sneq _ _ _, _, rfl, fun h => by simp at h, fun _ => ⟨rfl, rfl⟩⟩
end Go.Proofs.YtlihmncbhaimkaaDoor.Am
/- What the functions of FormatTurns do. -/
namespace Go.Proofs.YtlihmncbhaimkaaDoor.Am
open Go Go.RowKit
set_option linter.unusedVariables false

theorem i23 : (Tryd.prog.info? 23).isSome = true := by kernel_rfl
theorem g23 : aggT Tryd.prog 23 = some true := by kernel_rfl
theorem s23 : sz Tryd.prog 23 = 3 := by kernel_rfl
theorem i25 : (Tryd.prog.info? 25).isSome = true := by kernel_rfl
theorem g25 : aggT Tryd.prog 25 = some true := by kernel_rfl
theorem s25 : sz Tryd.prog 25 = 3 := by kernel_rfl
theorem b25 : by_ Tryd.prog 25 = 24 := by kernel_rfl
theorem cs3 (t : TagV) : t.cs.length = 3 := rfl
theorem c10 {m : Bool} {n : Nat} {ds : List D} (h : (n : Int) ≤ 9223372036854775807) {left : Int} (h0 : 0 ≤ left) (h1 : left ≤ 1048576) : ∃ r : Int, Sm m 10 [.val (.sl 3 n ds), .val (.int left)] (.int r) [] ∧ r ≤ left ∧ (0 ≤ r → n + r ≤ left) ∧ (r < 0 → r = -1) := by
  by_cases hc : left - n < 0
  · refine ⟨-1, V10 ⟨_, d_len Tryd.underlying28, _, d_sub _ _ _, ?_⟩, by omega, fun h => by omega, fun _ => rfl⟩
    rw [wrap_in (by omega) (by omega)]
    exact ⟨_, d_lss _ _ _, _, rfl, fun _ => ⟨rfl, rfl⟩, fun h => absurd hc (by simpa using h)⟩
  · refine ⟨left - n, V10 ⟨_, d_len Tryd.underlying28, _, d_sub _ _ _, ?_⟩, by omega, fun h => by omega, fun h => absurd h hc⟩
    rw [wrap_in (by omega) (by omega)]
    exact ⟨_, d_lss _ _ _, _, rfl, fun h => absurd (of_decide_eq_true h) hc, fun h => ⟨rfl, rfl⟩⟩
theorem c12 {m : Bool} {l : List TagV} (hl : l.length ≤ 1048576) : Sm m 12 [.val (tagsD l)] (tagsD l) [] := by
  refine V12 ?_
  unfold G12
  refine ⟨_, d_len Tryd.underlying28, _, _, d_mk (by rw [b25]; omega) (by omega), ?_⟩
  refine ⟨fun d => ∃ i : Nat, i ≤ l.length ∧ d = [.int i, .agg (fillR TagV.cs [.int 0, .int 0, .int 0] l i)], upM l.length 0, ⟨0, by omega, by rw [part_zero]; rfl⟩, ?_⟩
  rintro x16 r17 ⟨i, hi, e⟩
  cases e
  refine ⟨_, d_len Tryd.underlying28, _, d_lss _ _ _, _, rfl, fun h => ?_, fun h => ?_⟩
  · have hlt : i < l.length := by simpa using h
    have hx : l[i]? = some l[i] := by simp [hlt]
    obtain ⟨k1, k2⟩ := d_at (P := Tryd.prog) Tryd.underlying28 i23 g23 s23 cs3 hx
    refine ⟨_, k1, _, k2, _, c8, _, d_elem Tryd.underlying31 i25 s25 hlt, _, part_step g25 s25 cs3 rfl hx, _, d_add _ _ _, ?_⟩
    rw [wrap_in (by omega) (by omega)]
    exact ⟨⟨i + 1, hlt, rfl⟩, by simp only [upM, List.getElem?_cons_zero]; omega⟩
  · have : i = l.length := by
      have : ¬ i < l.length := by simpa using h
      omega
    subst this
    rw [part_end]
    exact ⟨rfl, rfl⟩
theorem c28 {m : Bool} {t : TagV} : Sm m 28 [.val t.d, .val t.d] (.bool true) [] := by
  refine V28 ⟨_, _, _, cells25 _ _ _, _, _, _, cells25 _ _ _, _, d_neq _ _ _, _, rfl, fun h => by simp at h, fun _ => ⟨_, d_neq _ _ _, _, rfl, fun h => by simp at h, fun _ => ⟨_, d_neq _ _ _, _, rfl, fun h => by simp at h, fun _ => ⟨rfl, rfl⟩⟩⟩⟩
theorem c14 {m : Bool} {l : List TagV} (hl : l.length ≤ 1048576) : Sm m 14 [.val (tagsD l), .val (tagsD l)] (.bool true) [] := by
  refine V14 ?_
  unfold G14
  refine ⟨_, d_len Tryd.underlying31, _, d_len Tryd.underlying31, _, d_neq _ _ _, _, rfl, fun h => by simp at h, fun _ => ?_⟩
  refine ⟨fun d => ∃ i : Nat, i ≤ l.length ∧ ∃ b : Bool, d = [.bool b, .int i], upM l.length 1, ⟨0, by omega, _, rfl⟩, ?_⟩
  rintro x7 x8 ⟨i, hi, b, e⟩
  cases e
  refine ⟨_, d_len Tryd.underlying31, _, d_lss _ _ _, _, rfl, fun h => ?_, fun h => ⟨rfl, rfl⟩⟩
  have hlt : i < l.length := by simpa using h
  have hx : l[i]? = some l[i] := by simp [hlt]
  obtain ⟨k1, k2⟩ := d_at (P := Tryd.prog) Tryd.underlying31 i25 g25 s25 cs3 hx
  refine ⟨_, k1, _, k2, _, k1, _, k2, _, c28, _, d_not _, _, rfl, fun h => by simp at h, fun _ => ⟨_, d_add _ _ _, ?_⟩⟩
  rw [wrap_in (by omega) (by omega)]
  exact ⟨⟨i + 1, hlt, _, rfl⟩, by simp only [upM, List.getElem?_cons_zero, List.getElem?_cons_succ]; omega⟩

/-! ### Texts in a row -/
theorem join_snoc (sep y : List UInt8) : ∀ xs : List (List UInt8), xs ≠ [] → Lib.join (xs ++ [y]) sep = Lib.join xs sep ++ (sep ++ y)
  | [], h => absurd rfl h
  | x :: xs, _ => by
    rw [List.cons_append, Lib.join_cons, Lib.join_cons]
    simp [Lib.joinTail]
def turnsT (l : List TagV) : List UInt8 := if l = [] then [45] else Lib.join (l.map TagV.txt) [32]
theorem turns_le {l : List TagV} (h : ∀ t ∈ l, t.ok) : (Lib.join (l.map TagV.txt) [32]).length ≤ l.length * 66 := by
  have := join_le [32] 65 (l.map TagV.txt) (by
    intro x hx
    obtain ⟨t, ht, rfl⟩ := List.mem_map.1 hx
    exact TagV.txt_le (h t ht))
  rw [List.length_map] at this
  exact this
theorem c11 {m : Bool} {l : List TagV} (hl : l.length ≤ 1048576) (ok : ∀ t ∈ l, t.ok) : Sm m 11 [.val (tagsD l)] (.str (turnsT l)) [] := by
  refine V11 ?_
  unfold G11
  refine ⟨_, d_len Tryd.underlying31, _, d_eql _ _ _, _, rfl, fun h => ?_, fun h => ?_⟩
  · have : l = [] := by
      have : l.length = 0 := by simpa using h
      exact List.eq_nil_of_length_eq_zero this
    subst this
    exact ⟨rfl, rfl⟩
  have hpos : 0 < l.length := by
    have : ¬ l.length = 0 := by simpa using h
    omega
  have hne : l ≠ [] := List.length_pos_iff.1 hpos
  have hx0 : l[0]? = some l[0] := by simp [hpos]
  obtain ⟨k1, k2⟩ := d_at (P := Tryd.prog) Tryd.underlying31 i25 g25 s25 cs3 hx0
  refine ⟨_, k1, _, k2, _, c7 (ok _ (List.getElem_mem hpos)), ?_⟩
  refine ⟨fun d => ∃ i : Nat, 1 ≤ i ∧ i ≤ l.length ∧ d = [.str (Lib.join ((l.take i).map TagV.txt) [32]), .int i], upM l.length 1, ⟨1, by omega, hpos, ?_⟩, ?_⟩
  · rw [List.take_add_one, hx0]
    simp [Lib.join_one]
  rintro x9 x10 ⟨i, hi0, hi, e⟩
  cases e
  refine ⟨_, d_len Tryd.underlying31, _, d_lss _ _ _, _, rfl, fun h => ?_, fun h => ?_⟩
  · have hlt : i < l.length := by simpa using h
    have hx : l[i]? = some l[i] := by simp [hlt]
    have okx := ok l[i] (List.getElem_mem hlt)
    have len := turns_le (l := l.take i) (fun t ht => ok t (List.mem_of_mem_take ht))
    rw [List.length_take, Nat.min_eq_left hi] at len
    have lx := TagV.txt_le okx
    obtain ⟨k1, k2⟩ := d_at (P := Tryd.prog) Tryd.underlying31 i25 g25 s25 cs3 hx
    refine ⟨_, d_sadd _ _ _ (by simp only [List.length_cons, List.length_nil]; omega), _, k1, _, k2, _, c7 okx, _, d_sadd _ _ _ (by simp only [List.length_append, List.length_cons, List.length_nil]; omega), _, d_add _ _ _, ?_⟩
    rw [wrap_in (by omega) (by omega)]
    refine ⟨⟨i + 1, by omega, hlt, ?_⟩, by simp only [upM, List.getElem?_cons_zero, List.getElem?_cons_succ]; omega⟩
    rw [List.take_add_one, hx]
    simp only [Option.toList_some, List.map_append, List.map_cons, List.map_nil]
    rw [join_snoc _ _ _ (by
      intro h0
      have := congrArg List.length h0
      rw [List.length_map, List.length_take, List.length_nil] at this
      omega), List.append_assoc]
    rfl
  · have : i = l.length := by
      have : ¬ i < l.length := by simpa using h
      omega
    subst this
    rw [List.take_length]
    exact ⟨by unfold turnsT; rw [if_neg hne], rfl⟩
theorem c27 {m : Bool} {l : List TagV} (hl : l.length ≤ 1048576) (ok : ∀ t ∈ l, t.ok) : Sm m 27 [.val (tagsD l), .val (.str [32]), .val (.fn 9 [] [])] (.str (turnsT l)) [] := by
  refine V27 ?_
  unfold G27
  refine ⟨_, _, lit_nil, _, d_len Tryd.underlying31, ?_⟩
  refine ⟨fun d => ∃ i : Nat, i ≤ l.length ∧ d = [txtD ((l.take i).map TagV.txt), .int i], upM l.length 1, ⟨0, by omega, rfl⟩, ?_⟩
  rintro n6 r7 x8 ⟨i, hi, e⟩
  simp only [txtD, List.length_map, List.cons.injEq, D.sl.injEq, true_and, and_true] at e
  obtain ⟨⟨rfl, rfl⟩, rfl⟩ := e
  rw [List.length_take, Nat.min_eq_left hi]
  refine ⟨_, d_lss _ _ _, _, rfl, fun h => ?_, fun h => ?_⟩
  · have hlt : i < l.length := by simpa using h
    have hx : l[i]? = some l[i] := by simp [hlt]
    obtain ⟨k1, k2⟩ := d_at (P := Tryd.prog) Tryd.underlying31 i25 g25 s25 cs3 hx
    refine ⟨_, k1, _, k2, _, _, _, cells25 _ _ _, _, _, _, _, rfl, c9 (ok _ (List.getElem_mem hlt)), _, _, lit_str _, _, _, app_str _ (by omega), _, d_add _ _ _, ?_⟩
    rw [wrap_in (by omega) (by omega)]
    refine ⟨⟨i + 1, hlt, ?_⟩, ?_⟩
    · simp only [txtD, List.length_map, List.length_take, Nat.min_eq_left (Nat.succ_le_of_lt hlt)]
      rw [List.take_succ_eq_append_getElem hlt]
      simp only [List.map_append, List.map_cons, List.map_nil]
      rfl
    · simp only [upM, List.getElem?_cons_succ, List.getElem?_cons_zero]
      omega
  · have hge : i = l.length := by
      have : ¬ i < l.length := by simpa using h
      omega
    subst hge
    rw [List.take_length]
    refine ⟨_, d_eql _ _ _, _, rfl, fun h => ?_, fun h => ?_⟩
    · have : l = [] := by
        have : l.length = 0 := by simpa using h
        exact List.eq_nil_of_length_eq_zero this
      subst this
      exact ⟨rfl, rfl⟩
    · have hne : l ≠ [] := by
        intro h0
        subst h0
        simp at h
      have len := turns_le ok
      have := c54t (m := m) (xs := l.map TagV.txt) (sep := [32]) (by simpa using hne) (by rw [List.length_map]; omega) (by omega)
      simp only [txtD, List.length_map] at this
      exact ⟨_, this, by unfold turnsT; rw [if_neg hne], rfl⟩
theorem c13 {m : Bool} {l : List TagV} (hl : l.length ≤ 1048576) (ok : ∀ t ∈ l, t.ok) : Sm m 13 [.val (tagsD l)] (.str (turnsT l)) [] := V13 ⟨_, c27 hl ok, rfl, rfl⟩
theorem c4 {m : Bool} {l : List TagV} (hl : l.length ≤ 9223372036854775807) (ok : ∀ t ∈ l, t.ok) : Sm m 4 [.val (tagsD l)] (.bool true) [] := by
  refine V4 ?_
  unfold G4
  obtain ⟨r, k1, k2, k3, k4⟩ := c10 (m := m) (n := l.length) (ds := l.flatMap TagV.cs) (by omega) (left := 1048576) (by omega) (by omega)
  refine ⟨_, k1, _, d_lss _ _ _, _, rfl, fun h => ⟨rfl, rfl⟩, fun h => ?_⟩
  have hr : ¬ r < 0 := by simpa using h
  have hl' : l.length ≤ 1048576 := by have := k3 (by omega); omega
  refine ⟨_, c12 hl', _, c11 hl' ok, _, c12 hl', _, c13 hl' ok, _, d_sneq _ _ _, _, rfl, fun h => by simp at h, fun _ => ?_⟩
  exact ⟨_, c12 hl', _, c14 hl', _, d_not _, _, rfl, fun h => by simp at h, fun _ => ⟨rfl, rfl⟩⟩
end Go.Proofs.YtlihmncbhaimkaaDoor.Am
/- What the copies, comparisons and sizes of pairs and of what was sent do. -/
namespace Go.Proofs.YtlihmncbhaimkaaDoor.Am
open Go Go.RowKit
set_option linter.unusedVariables false

theorem i37 : (Tryd.prog.info? 37).isSome = true := by kernel_rfl
theorem g37 : aggT Tryd.prog 37 = some true := by kernel_rfl
theorem s37 : sz Tryd.prog 37 = 2 := by kernel_rfl
theorem cells37 (a0 a1 : D) : cellsD Tryd.prog 37 (.agg [a0, a1]) = some [a0, a1] := by kernel_rfl
theorem i43 : (Tryd.prog.info? 43).isSome = true := by kernel_rfl
theorem g43 : aggT Tryd.prog 43 = some true := by kernel_rfl
theorem s43 : sz Tryd.prog 43 = 2 := by kernel_rfl
theorem cells43 (a0 a1 : D) : cellsD Tryd.prog 43 (.agg [a0, a1]) = some [a0, a1] := by kernel_rfl
theorem i50 : (Tryd.prog.info? 50).isSome = true := by kernel_rfl
theorem g50 : aggT Tryd.prog 50 = some true := by kernel_rfl
theorem s50 : sz Tryd.prog 50 = 2 := by kernel_rfl
theorem cells50 (a0 a1 : D) : cellsD Tryd.prog 50 (.agg [a0, a1]) = some [a0, a1] := by kernel_rfl
theorem i58 : (Tryd.prog.info? 58).isSome = true := by kernel_rfl
theorem g58 : aggT Tryd.prog 58 = some true := by kernel_rfl
theorem s58 : sz Tryd.prog 58 = 2 := by kernel_rfl
theorem cells58 (a0 a1 : D) : cellsD Tryd.prog 58 (.agg [a0, a1]) = some [a0, a1] := by kernel_rfl
theorem i109 : (Tryd.prog.info? 109).isSome = true := by kernel_rfl
theorem g109 : aggT Tryd.prog 109 = some true := by kernel_rfl
theorem s109 : sz Tryd.prog 109 = 2 := by kernel_rfl
theorem cells109 (a0 a1 : D) : cellsD Tryd.prog 109 (.agg [a0, a1]) = some [a0, a1] := by kernel_rfl
theorem i107 : (Tryd.prog.info? 107).isSome = true := by kernel_rfl
theorem g107 : aggT Tryd.prog 107 = some true := by kernel_rfl
theorem s107 : sz Tryd.prog 107 = 2 := by kernel_rfl
theorem cells107 (a0 a1 : D) : cellsD Tryd.prog 107 (.agg [a0, a1]) = some [a0, a1] := by kernel_rfl
theorem i102 : (Tryd.prog.info? 102).isSome = true := by kernel_rfl
theorem g102 : aggT Tryd.prog 102 = some true := by kernel_rfl
theorem s102 : sz Tryd.prog 102 = 7 := by kernel_rfl
theorem cells102 (a0 a1 a2 a3 a4 a5 a6 : D) : cellsD Tryd.prog 102 (.agg [a0, a1, a2, a3, a4, a5, a6]) = some [a0, a1, a2, a3, a4, a5, a6] := by kernel_rfl
theorem i104 : (Tryd.prog.info? 104).isSome = true := by kernel_rfl
theorem g104 : aggT Tryd.prog 104 = some true := by kernel_rfl
theorem s104 : sz Tryd.prog 104 = 7 := by kernel_rfl
theorem cells104 (a0 a1 a2 a3 a4 a5 a6 : D) : cellsD Tryd.prog 104 (.agg [a0, a1, a2, a3, a4, a5, a6]) = some [a0, a1, a2, a3, a4, a5, a6] := by kernel_rfl
theorem b43 : by_ Tryd.prog 43 = 16 := by kernel_rfl
theorem b58 : by_ Tryd.prog 58 = 16 := by kernel_rfl
theorem b107 : by_ Tryd.prog 107 = 16 := by kernel_rfl
theorem b104 : by_ Tryd.prog 104 = 80 := by kernel_rfl
theorem cs2 (p : PairV) : p.cs.length = 2 := rfl
theorem cs7 (s : SentV) : s.cs.length = 7 := rfl
theorem c34 {m : Bool} {p : PairV} : Sm m 34 [.val p.d] p.d [] := V34 ⟨_, _, cells37 _ _, _, _, cells43 _ _, rfl, rfl⟩
theorem c46 {m : Bool} {p : PairV} : Sm m 46 [.val p.d] p.d [] := V46 ⟨_, _, cells50 _ _, _, _, cells58 _ _, rfl, rfl⟩
theorem c69 {m : Bool} {p : PairV} : Sm m 69 [.val p.d] p.d [] := V69 ⟨_, _, cells109 _ _, _, _, cells107 _ _, rfl, rfl⟩
theorem c40 {m : Bool} {p : PairV} : Sm m 40 [.val p.d, .val p.d] (.bool true) [] := V40 ⟨_, _, cells43 _ _, _, _, cells43 _ _, _, d_neq _ _ _, _, rfl, fun h => by simp at h, fun _ => ⟨_, d_neq _ _ _, _, rfl, fun h => by simp at h, fun _ => ⟨rfl, rfl⟩⟩⟩
theorem c51 {m : Bool} {p : PairV} : Sm m 51 [.val p.d, .val p.d] (.bool true) [] := V51 ⟨_, _, cells58 _ _, _, _, cells58 _ _, _, d_neq _ _ _, _, rfl, fun h => by simp at h, fun _ => ⟨_, d_neq _ _ _, _, rfl, fun h => by simp at h, fun _ => ⟨rfl, rfl⟩⟩⟩
theorem c71 {m : Bool} {p : PairV} : Sm m 71 [.val p.d, .val p.d] (.bool true) [] := V71 ⟨_, _, cells107 _ _, _, _, cells107 _ _, _, d_neq _ _ _, _, rfl, fun h => by simp at h, fun _ => ⟨_, d_neq _ _ _, _, rfl, fun h => by simp at h, fun _ => ⟨rfl, rfl⟩⟩⟩
theorem c29 {m : Bool} {z n : Nat} {ds : List D} (h : (n : Int) ≤ 9223372036854775807) {left : Int} (h0 : 0 ≤ left) (h1 : left ≤ 1048576) : ∃ r : Int, Sm m 29 [.val (.sl z n ds), .val (.int left)] (.int r) [] ∧ r ≤ left ∧ (0 ≤ r → n + r ≤ left) ∧ (r < 0 → r = -1) := by
  by_cases hc : left - n < 0
  · refine ⟨-1, V29 ⟨_, d_len Tryd.underlying35, _, d_sub _ _ _, ?_⟩, by omega, fun h => by omega, fun _ => rfl⟩
    rw [wrap_in (by omega) (by omega)]
    exact ⟨_, d_lss _ _ _, _, rfl, fun _ => ⟨rfl, rfl⟩, fun h => absurd hc (by simpa using h)⟩
  · refine ⟨left - n, V29 ⟨_, d_len Tryd.underlying35, _, d_sub _ _ _, ?_⟩, by omega, fun h => by omega, fun h => absurd h hc⟩
    rw [wrap_in (by omega) (by omega)]
    exact ⟨_, d_lss _ _ _, _, rfl, fun h => absurd (of_decide_eq_true h) hc, fun h => ⟨rfl, rfl⟩⟩
theorem c41 {m : Bool} {z n : Nat} {ds : List D} (h : (n : Int) ≤ 9223372036854775807) {left : Int} (h0 : 0 ≤ left) (h1 : left ≤ 1048576) : ∃ r : Int, Sm m 41 [.val (.sl z n ds), .val (.int left)] (.int r) [] ∧ r ≤ left ∧ (0 ≤ r → n + r ≤ left) ∧ (r < 0 → r = -1) := by
  by_cases hc : left - n < 0
  · refine ⟨-1, V41 ⟨_, d_len Tryd.underlying49, _, d_sub _ _ _, ?_⟩, by omega, fun h => by omega, fun _ => rfl⟩
    rw [wrap_in (by omega) (by omega)]
    exact ⟨_, d_lss _ _ _, _, rfl, fun _ => ⟨rfl, rfl⟩, fun h => absurd hc (by simpa using h)⟩
  · refine ⟨left - n, V41 ⟨_, d_len Tryd.underlying49, _, d_sub _ _ _, ?_⟩, by omega, fun h => by omega, fun h => absurd h hc⟩
    rw [wrap_in (by omega) (by omega)]
    exact ⟨_, d_lss _ _ _, _, rfl, fun h => absurd (of_decide_eq_true h) hc, fun h => ⟨rfl, rfl⟩⟩
theorem c43 {m : Bool} {z n : Nat} {ds : List D} (h : (n : Int) ≤ 9223372036854775807) {left : Int} (h0 : 0 ≤ left) (h1 : left ≤ 1048576) : ∃ r : Int, Sm m 43 [.val (.sl z n ds), .val (.int left)] (.int r) [] ∧ r ≤ left ∧ (0 ≤ r → n + r ≤ left) ∧ (r < 0 → r = -1) := by
  by_cases hc : left - n < 0
  · refine ⟨-1, V43 ⟨_, d_len Tryd.underlying52, _, d_sub _ _ _, ?_⟩, by omega, fun h => by omega, fun _ => rfl⟩
    rw [wrap_in (by omega) (by omega)]
    exact ⟨_, d_lss _ _ _, _, rfl, fun _ => ⟨rfl, rfl⟩, fun h => absurd hc (by simpa using h)⟩
  · refine ⟨left - n, V43 ⟨_, d_len Tryd.underlying52, _, d_sub _ _ _, ?_⟩, by omega, fun h => by omega, fun h => absurd h hc⟩
    rw [wrap_in (by omega) (by omega)]
    exact ⟨_, d_lss _ _ _, _, rfl, fun h => absurd (of_decide_eq_true h) hc, fun h => ⟨rfl, rfl⟩⟩
theorem c33 {m : Bool} {l : List PairV} (hl : l.length ≤ 1048576) : Sm m 33 [.val (pairsD l)] (pairsD l) [] := by
  refine V33 ?_
  unfold G33
  refine ⟨_, d_len Tryd.underlying35, _, _, d_mk (by rw [b43]; omega) (by omega), ?_⟩
  refine ⟨fun d => ∃ i : Nat, i ≤ l.length ∧ d = [.int i, .agg (fillR PairV.cs [.int 0, .int 0] l i)], upM l.length 0, ⟨0, by omega, by rw [part_zero]; rfl⟩, ?_⟩
  rintro x16 r17 ⟨i, hi, e⟩
  cases e
  refine ⟨_, d_len Tryd.underlying35, _, d_lss _ _ _, _, rfl, fun h => ?_, fun h => ?_⟩
  · have hlt : i < l.length := by simpa using h
    have hx : l[i]? = some l[i] := by simp [hlt]
    obtain ⟨k1, k2⟩ := d_at (P := Tryd.prog) Tryd.underlying35 i37 g37 s37 cs2 hx
    refine ⟨_, k1, _, k2, _, c34, _, d_elem Tryd.underlying42 i43 s43 hlt, _, part_step g43 s43 cs2 rfl hx, _, d_add _ _ _, ?_⟩
    rw [wrap_in (by omega) (by omega)]
    exact ⟨⟨i + 1, hlt, rfl⟩, by simp only [upM, List.getElem?_cons_zero]; omega⟩
  · have : i = l.length := by
      have : ¬ i < l.length := by simpa using h
      omega
    subst this
    rw [part_end]
    exact ⟨rfl, rfl⟩
theorem c45 {m : Bool} {l : List PairV} (hl : l.length ≤ 1048576) : Sm m 45 [.val (pairsD l)] (pairsD l) [] := by
  refine V45 ?_
  unfold G45
  refine ⟨_, d_len Tryd.underlying49, _, _, d_mk (by rw [b58]; omega) (by omega), ?_⟩
  refine ⟨fun d => ∃ i : Nat, i ≤ l.length ∧ d = [.int i, .agg (fillR PairV.cs [.int 0, .int 0] l i)], upM l.length 0, ⟨0, by omega, by rw [part_zero]; rfl⟩, ?_⟩
  rintro x16 r17 ⟨i, hi, e⟩
  cases e
  refine ⟨_, d_len Tryd.underlying49, _, d_lss _ _ _, _, rfl, fun h => ?_, fun h => ?_⟩
  · have hlt : i < l.length := by simpa using h
    have hx : l[i]? = some l[i] := by simp [hlt]
    obtain ⟨k1, k2⟩ := d_at (P := Tryd.prog) Tryd.underlying49 i50 g50 s50 cs2 hx
    refine ⟨_, k1, _, k2, _, c46, _, d_elem Tryd.underlying57 i58 s58 hlt, _, part_step g58 s58 cs2 rfl hx, _, d_add _ _ _, ?_⟩
    rw [wrap_in (by omega) (by omega)]
    exact ⟨⟨i + 1, hlt, rfl⟩, by simp only [upM, List.getElem?_cons_zero]; omega⟩
  · have : i = l.length := by
      have : ¬ i < l.length := by simpa using h
      omega
    subst this
    rw [part_end]
    exact ⟨rfl, rfl⟩
theorem c48 {m : Bool} {l : List PairV} (hl : l.length ≤ 1048576) : Sm m 48 [.val (pairsD l)] (pairsD l) [] := by
  refine V48 ?_
  unfold G48
  refine ⟨_, d_len Tryd.underlying52, _, _, d_mk (by rw [b107]; omega) (by omega), ?_⟩
  refine ⟨fun d => ∃ i : Nat, i ≤ l.length ∧ d = [.int i, .agg (fillR PairV.cs [.int 0, .int 0] l i)], upM l.length 0, ⟨0, by omega, by rw [part_zero]; rfl⟩, ?_⟩
  rintro x16 r17 ⟨i, hi, e⟩
  cases e
  refine ⟨_, d_len Tryd.underlying52, _, d_lss _ _ _, _, rfl, fun h => ?_, fun h => ?_⟩
  · have hlt : i < l.length := by simpa using h
    have hx : l[i]? = some l[i] := by simp [hlt]
    obtain ⟨k1, k2⟩ := d_at (P := Tryd.prog) Tryd.underlying52 i109 g109 s109 cs2 hx
    refine ⟨_, k1, _, k2, _, c69, _, d_elem Tryd.underlying60 i107 s107 hlt, _, part_step g107 s107 cs2 rfl hx, _, d_add _ _ _, ?_⟩
    rw [wrap_in (by omega) (by omega)]
    exact ⟨⟨i + 1, hlt, rfl⟩, by simp only [upM, List.getElem?_cons_zero]; omega⟩
  · have : i = l.length := by
      have : ¬ i < l.length := by simpa using h
      omega
    subst this
    rw [part_end]
    exact ⟨rfl, rfl⟩
theorem c39 {m : Bool} {l : List PairV} (hl : l.length ≤ 1048576) : Sm m 39 [.val (pairsD l), .val (pairsD l)] (.bool true) [] := by
  refine V39 ?_
  unfold G39
  refine ⟨_, d_len Tryd.underlying42, _, d_len Tryd.underlying42, _, d_neq _ _ _, _, rfl, fun h => by simp at h, fun _ => ?_⟩
  refine ⟨fun d => ∃ i : Nat, i ≤ l.length ∧ ∃ b : Bool, d = [.bool b, .int i], upM l.length 1, ⟨0, by omega, _, rfl⟩, ?_⟩
  rintro x7 x8 ⟨i, hi, b, e⟩
  cases e
  refine ⟨_, d_len Tryd.underlying42, _, d_lss _ _ _, _, rfl, fun h => ?_, fun h => ⟨rfl, rfl⟩⟩
  have hlt : i < l.length := by simpa using h
  have hx : l[i]? = some l[i] := by simp [hlt]
  obtain ⟨k1, k2⟩ := d_at (P := Tryd.prog) Tryd.underlying42 i43 g43 s43 cs2 hx
  refine ⟨_, k1, _, k2, _, k1, _, k2, _, c40, _, d_not _, _, rfl, fun h => by simp at h, fun _ => ⟨_, d_add _ _ _, ?_⟩⟩
  rw [wrap_in (by omega) (by omega)]
  exact ⟨⟨i + 1, hlt, _, rfl⟩, by simp only [upM, List.getElem?_cons_zero, List.getElem?_cons_succ]; omega⟩
theorem c50 {m : Bool} {l : List PairV} (hl : l.length ≤ 1048576) : Sm m 50 [.val (pairsD l), .val (pairsD l)] (.bool true) [] := by
  refine V50 ?_
  unfold G50
  refine ⟨_, d_len Tryd.underlying57, _, d_len Tryd.underlying57, _, d_neq _ _ _, _, rfl, fun h => by simp at h, fun _ => ?_⟩
  refine ⟨fun d => ∃ i : Nat, i ≤ l.length ∧ ∃ b : Bool, d = [.bool b, .int i], upM l.length 1, ⟨0, by omega, _, rfl⟩, ?_⟩
  rintro x7 x8 ⟨i, hi, b, e⟩
  cases e
  refine ⟨_, d_len Tryd.underlying57, _, d_lss _ _ _, _, rfl, fun h => ?_, fun h => ⟨rfl, rfl⟩⟩
  have hlt : i < l.length := by simpa using h
  have hx : l[i]? = some l[i] := by simp [hlt]
  obtain ⟨k1, k2⟩ := d_at (P := Tryd.prog) Tryd.underlying57 i58 g58 s58 cs2 hx
  refine ⟨_, k1, _, k2, _, k1, _, k2, _, c51, _, d_not _, _, rfl, fun h => by simp at h, fun _ => ⟨_, d_add _ _ _, ?_⟩⟩
  rw [wrap_in (by omega) (by omega)]
  exact ⟨⟨i + 1, hlt, _, rfl⟩, by simp only [upM, List.getElem?_cons_zero, List.getElem?_cons_succ]; omega⟩
theorem c53 {m : Bool} {l : List PairV} (hl : l.length ≤ 1048576) : Sm m 53 [.val (pairsD l), .val (pairsD l)] (.bool true) [] := by
  refine V53 ?_
  unfold G53
  refine ⟨_, d_len Tryd.underlying60, _, d_len Tryd.underlying60, _, d_neq _ _ _, _, rfl, fun h => by simp at h, fun _ => ?_⟩
  refine ⟨fun d => ∃ i : Nat, i ≤ l.length ∧ ∃ b : Bool, d = [.bool b, .int i], upM l.length 1, ⟨0, by omega, _, rfl⟩, ?_⟩
  rintro x7 x8 ⟨i, hi, b, e⟩
  cases e
  refine ⟨_, d_len Tryd.underlying60, _, d_lss _ _ _, _, rfl, fun h => ?_, fun h => ⟨rfl, rfl⟩⟩
  have hlt : i < l.length := by simpa using h
  have hx : l[i]? = some l[i] := by simp [hlt]
  obtain ⟨k1, k2⟩ := d_at (P := Tryd.prog) Tryd.underlying60 i107 g107 s107 cs2 hx
  refine ⟨_, k1, _, k2, _, k1, _, k2, _, c71, _, d_not _, _, rfl, fun h => by simp at h, fun _ => ⟨_, d_add _ _ _, ?_⟩⟩
  rw [wrap_in (by omega) (by omega)]
  exact ⟨⟨i + 1, hlt, _, rfl⟩, by simp only [upM, List.getElem?_cons_zero, List.getElem?_cons_succ]; omega⟩
theorem one_sl (z n : Nat) (ds : List D) : oneD (.sl z n ds) = some (.sl z n ds) := rfl
theorem c68 {m : Bool} {s : SentV} (h : s.args.length ≤ 1048576) : Sm m 68 [.val s.d] s.d [] :=
  V68 ⟨_, _, _, _, _, _, _, cells102 _ _ _ _ _ _ _, _, c45 h, _, one_sl _ _ _, _, c8 (t := s.tag), _, _, _, cells25 _ _ _, _, _, _, _, _, _, _, cells104 _ _ _ _ _ _ _, rfl, rfl⟩
theorem c70 {m : Bool} {s : SentV} (h : s.args.length ≤ 1048576) : Sm m 70 [.val s.d, .val s.d] (.bool true) [] :=
  V70 ⟨_, _, _, _, _, _, _, cells104 _ _ _ _ _ _ _, _, _, _, _, _, _, _, cells104 _ _ _ _ _ _ _, _, d_neq _ _ _, _, rfl, fun h => by simp at h, fun _ => ⟨_, d_sneq _ _ _, _, rfl, fun h => by simp at h, fun _ => ⟨_, c50 h, _, d_not _, _, rfl, fun h => by simp at h, fun _ => ⟨_, d_neq _ _ _, _, rfl, fun h => by simp at h, fun _ => ⟨_, c28 (t := s.tag), _, d_not _, _, rfl, fun h => by simp at h, fun _ => ⟨rfl, rfl⟩⟩⟩⟩⟩⟩
theorem c47 {m : Bool} {l : List SentV} (hl : l.length ≤ 1048576) (ha : ∀ s ∈ l, s.args.length ≤ 1048576) : Sm m 47 [.val (sentsD l)] (sentsD l) [] := by
  refine V47 ?_
  unfold G47
  refine ⟨_, d_len Tryd.underlying51, _, _, d_mk (by rw [b104]; omega) (by omega), ?_⟩
  refine ⟨fun d => ∃ i : Nat, i ≤ l.length ∧ d = [.int i, .agg (fillR SentV.cs [.int 0, .str [], .sl 2 0 [], .int 0, .int 0, .int 0, .int 0] l i)], upM l.length 0, ⟨0, by omega, by rw [part_zero]; rfl⟩, ?_⟩
  rintro x16 r17 ⟨i, hi, e⟩
  cases e
  refine ⟨_, d_len Tryd.underlying51, _, d_lss _ _ _, _, rfl, fun h => ?_, fun h => ?_⟩
  · have hlt : i < l.length := by simpa using h
    have hx : l[i]? = some l[i] := by simp [hlt]
    obtain ⟨k1, k2⟩ := d_at (P := Tryd.prog) Tryd.underlying51 i102 g102 s102 cs7 hx
    refine ⟨_, k1, _, k2, _, c68 (ha _ (List.getElem_mem hlt)), _, d_elem Tryd.underlying59 i104 s104 hlt, _, part_step g104 s104 cs7 rfl hx, _, d_add _ _ _, ?_⟩
    rw [wrap_in (by omega) (by omega)]
    exact ⟨⟨i + 1, hlt, rfl⟩, by simp only [upM, List.getElem?_cons_zero]; omega⟩
  · have : i = l.length := by
      have : ¬ i < l.length := by simpa using h
      omega
    subst this
    rw [part_end]
    exact ⟨rfl, rfl⟩
theorem c52 {m : Bool} {l : List SentV} (hl : l.length ≤ 1048576) (ha : ∀ s ∈ l, s.args.length ≤ 1048576) : Sm m 52 [.val (sentsD l), .val (sentsD l)] (.bool true) [] := by
  refine V52 ?_
  unfold G52
  refine ⟨_, d_len Tryd.underlying59, _, d_len Tryd.underlying59, _, d_neq _ _ _, _, rfl, fun h => by simp at h, fun _ => ?_⟩
  refine ⟨fun d => ∃ i : Nat, i ≤ l.length ∧ ∃ b : Bool, d = [.bool b, .int i], upM l.length 1, ⟨0, by omega, _, rfl⟩, ?_⟩
  rintro x7 x8 ⟨i, hi, b, e⟩
  cases e
  refine ⟨_, d_len Tryd.underlying59, _, d_lss _ _ _, _, rfl, fun h => ?_, fun h => ⟨rfl, rfl⟩⟩
  have hlt : i < l.length := by simpa using h
  have hx : l[i]? = some l[i] := by simp [hlt]
  obtain ⟨k1, k2⟩ := d_at (P := Tryd.prog) Tryd.underlying59 i104 g104 s104 cs7 hx
  refine ⟨_, k1, _, k2, _, k1, _, k2, _, c70 (ha _ (List.getElem_mem hlt)), _, d_not _, _, rfl, fun h => by simp at h, fun _ => ⟨_, d_add _ _ _, ?_⟩⟩
  rw [wrap_in (by omega) (by omega)]
  exact ⟨⟨i + 1, hlt, _, rfl⟩, by simp only [upM, List.getElem?_cons_zero, List.getElem?_cons_succ]; omega⟩
theorem d_slen (t : TypeId) (h : Tryd.prog.underlying t = some .string) (s : List UInt8) : lenD Tryd.prog t (.str s) = some (.int s.length) := by
  simp only [lenD, h, str_size]
theorem c67 {m : Bool} {s : SentV} (ok : s.ok) {left : Int} (h0 : 0 ≤ left) (h1 : left ≤ 1048576) : ∃ r : Int, Sm m 67 [.val s.d, .val (.int left)] (.int r) [] ∧ r ≤ left ∧ (0 ≤ r → s.name.length + s.args.length + r ≤ left) := by
  have hn : s.name.length ≤ 9223372036854775807 := ok.2.1
  have ha : s.args.length ≤ 9223372036854775807 := ok.2.2.1.2
  by_cases hc : left - s.name.length < 0
  · refine ⟨-1, V67 ⟨_, _, _, _, _, _, _, cells102 _ _ _ _ _ _ _, _, d_slen 9 Tryd.underlying9 _, _, d_sub _ _ _, ?_⟩, by omega, fun h => by omega⟩
    rw [wrap_in (by omega) (by omega)]
    exact ⟨_, d_lss _ _ _, _, rfl, fun _ => ⟨rfl, rfl⟩, fun h => absurd hc (by simpa using h)⟩
  · obtain ⟨r, k1, k2, k3, k4⟩ := c41 (m := m) (z := 2) (n := s.args.length) (ds := s.args.flatMap PairV.cs) (by omega) (left := left - s.name.length) (by omega) (by omega)
    by_cases hr : r < 0
    · refine ⟨-1, V67 ⟨_, _, _, _, _, _, _, cells102 _ _ _ _ _ _ _, _, d_slen 9 Tryd.underlying9 _, _, d_sub _ _ _, ?_⟩, by omega, fun h => by omega⟩
      rw [wrap_in (by omega) (by omega)]
      exact ⟨_, d_lss _ _ _, _, rfl, fun h => absurd (of_decide_eq_true h) hc, fun _ => ⟨_, k1, _, d_lss _ _ _, _, rfl, fun _ => ⟨rfl, rfl⟩, fun h => absurd hr (by simpa using h)⟩⟩
    · refine ⟨r, V67 ⟨_, _, _, _, _, _, _, cells102 _ _ _ _ _ _ _, _, d_slen 9 Tryd.underlying9 _, _, d_sub _ _ _, ?_⟩, by omega, fun h => by have := k3 h; omega⟩
      rw [wrap_in (by omega) (by omega)]
      exact ⟨_, d_lss _ _ _, _, rfl, fun h => absurd (of_decide_eq_true h) hc, fun _ => ⟨_, k1, _, d_lss _ _ _, _, rfl, fun h => absurd (of_decide_eq_true h) hr, fun _ => ⟨rfl, rfl⟩⟩⟩
/-- What is left behind the sizes of some of the elements, or nothing is. -/
def Left (l : List SentV) (i : Nat) (r : Int) : Prop := 0 ≤ r ∧ r ≤ 1048576 ∧ ∀ s ∈ l.take i, s.args.length ≤ 1048576
theorem c42 {m : Bool} {l : List SentV} (hl : l.length ≤ 9223372036854775807) (ok : ∀ s ∈ l, s.ok) {left : Int} (h0 : 0 ≤ left) (h1 : left ≤ 1048576) :
    ∃ r : Int, Sm m 42 [.val (sentsD l), .val (.int left)] (.int r) [] ∧ r ≤ left ∧ (0 ≤ r → l.length ≤ 1048576 ∧ ∀ s ∈ l, s.args.length ≤ 1048576) := by
  by_cases hc : left - l.length < 0
  · refine ⟨-1, V42 ⟨_, d_len Tryd.underlying51, _, d_sub _ _ _, ?_⟩, by omega, fun h => by omega⟩
    rw [wrap_in (by omega) (by omega)]
    exact ⟨_, d_lss _ _ _, _, rfl, fun _ => ⟨rfl, rfl⟩, fun h => absurd hc (by simpa using h)⟩
  -- which sizes come out, element by element
  have step : ∀ i, i ≤ l.length → (∃ r : Int, 0 ≤ r ∧ r ≤ left ∧ (∀ s ∈ l.take i, s.args.length ≤ 1048576) ∧ ∃ f : Nat → Int, f 0 = left - l.length ∧ f i = r ∧ (∀ j, j ≤ i → 0 ≤ f j ∧ f j ≤ left) ∧ ∀ j s, j < i → l[j]? = some s → Sm m 67 [.val s.d, .val (.int (f j))] (.int (f (j + 1))) []) ∨
      ∃ n, n < l.length ∧ ∃ f : Nat → Int, f 0 = left - l.length ∧ (∀ j, j ≤ n → 0 ≤ f j ∧ f j ≤ left) ∧ f (n + 1) < 0 ∧ ∀ j s, j ≤ n → l[j]? = some s → Sm m 67 [.val s.d, .val (.int (f j))] (.int (f (j + 1))) [] := by
    intro i
    induction i with
    | zero => exact fun _ => .inl ⟨left - l.length, by omega, by omega, by simp, fun _ => left - l.length, rfl, rfl, fun j hj => ⟨by show (0 : Int) ≤ left - l.length; omega, by show left - (l.length : Int) ≤ left; omega⟩, fun j s hj => by omega⟩
    | succ i ih =>
      intro hi
      rcases ih (by omega) with ⟨r, r0, r1, r2, f, f0, f1, f2, f3⟩ | h
      · have hlt : i < l.length := hi
        have hx : l[i]? = some l[i] := by simp [hlt]
        obtain ⟨q, q1, q2, q3⟩ := c67 (m := m) (ok l[i] (List.getElem_mem hlt)) (left := f i) (f2 i (Nat.le_refl _)).1 (by have := (f2 i (Nat.le_refl _)).2; omega)
        have hle := (f2 i (Nat.le_refl _)).2
        have e0 : ∀ j, j ≤ i → (fun j => if j = i + 1 then q else f j) j = f j := fun j hj => if_neg (by omega)
        have e1 : (fun j => if j = i + 1 then q else f j) (i + 1) = q := if_pos rfl
        by_cases hq : q < 0
        · refine .inr ⟨i, hlt, fun j => if j = i + 1 then q else f j, by rw [e0 0 (by omega)]; exact f0, fun j hj => by rw [e0 j hj]; exact f2 j hj, by rw [e1]; exact hq, fun j s hj hs => ?_⟩
          rw [e0 j hj]
          rcases Nat.lt_or_ge j i with h | h
          · rw [e0 (j + 1) (by omega)]
            exact f3 j s h hs
          · obtain rfl : j = i := by omega
            rw [e1]
            rw [hx] at hs
            cases hs
            exact q1
        · refine .inl ⟨q, by omega, by omega, fun s hs => ?_, fun j => if j = i + 1 then q else f j, by rw [e0 0 (by omega)]; exact f0, e1, fun j hj => ?_, fun j s hj hs => ?_⟩
          · rw [List.take_add_one, hx] at hs
            rcases List.mem_append.1 hs with h | h
            · exact r2 s h
            · simp at h
              subst h
              have := q3 (by omega)
              omega
          · rcases Nat.lt_or_ge i j with h | h
            · obtain rfl : j = i + 1 := by omega
              rw [e1]
              exact ⟨by omega, by omega⟩
            · rw [e0 j h]
              exact f2 j h
          · rw [e0 j (by omega)]
            rcases Nat.lt_or_ge j i with h | h
            · rw [e0 (j + 1) (by omega)]
              exact f3 j s h hs
            · obtain rfl : j = i := by omega
              rw [e1]
              rw [hx] at hs
              cases hs
              exact q1
      · exact .inr h
  rcases step l.length (Nat.le_refl _) with ⟨r, r0, r1, r2, f, f0, f1, f2, f3⟩ | ⟨n, hn, f, f0, f2, f4, f3⟩
  · rw [List.take_length] at r2
    refine ⟨r, V42 ⟨_, d_len Tryd.underlying51, _, d_sub _ _ _, ?_⟩, r1, fun _ => ⟨by omega, r2⟩⟩
    rw [wrap_in (by omega) (by omega)]
    refine ⟨_, d_lss _ _ _, _, rfl, fun h => absurd (of_decide_eq_true h) hc, fun _ => ?_⟩
    refine ⟨fun d => ∃ i : Nat, i ≤ l.length ∧ ∃ x : D, d = [.int (f i), x, .int i], upM l.length 2, ⟨0, by omega, _, by rw [f0]; rfl⟩, ?_⟩
    rintro x21 x22 x23 ⟨i, hi, x, e⟩
    cases e
    refine ⟨_, d_len Tryd.underlying51, _, d_lss _ _ _, _, rfl, fun h => ?_, fun h => ?_⟩
    · have hlt : i < l.length := by simpa using h
      have hx : l[i]? = some l[i] := by simp [hlt]
      obtain ⟨k1, k2⟩ := d_at (P := Tryd.prog) Tryd.underlying51 i102 g102 s102 cs7 hx
      refine ⟨_, k1, _, k2, _, f3 i _ hlt hx, _, d_lss _ _ _, _, rfl, fun h => absurd (of_decide_eq_true h) (by have := (f2 (i + 1) hlt).1; omega), fun _ => ⟨_, d_add _ _ _, ?_⟩⟩
      rw [wrap_in (by omega) (by omega)]
      exact ⟨⟨i + 1, hlt, _, rfl⟩, by simp only [upM, List.getElem?_cons_zero, List.getElem?_cons_succ]; omega⟩
    · have : i = l.length := by
        have : ¬ i < l.length := by simpa using h
        omega
      subst this
      rw [f1]
      exact ⟨rfl, rfl⟩
  · refine ⟨-1, V42 ⟨_, d_len Tryd.underlying51, _, d_sub _ _ _, ?_⟩, by omega, fun h => by omega⟩
    rw [wrap_in (by omega) (by omega)]
    refine ⟨_, d_lss _ _ _, _, rfl, fun h => absurd (of_decide_eq_true h) hc, fun _ => ?_⟩
    refine ⟨fun d => ∃ i : Nat, i ≤ n ∧ ∃ x : D, d = [.int (f i), x, .int i], upM l.length 2, ⟨0, by omega, _, by rw [f0]; rfl⟩, ?_⟩
    rintro x21 x22 x23 ⟨i, hi, x, e⟩
    cases e
    refine ⟨_, d_len Tryd.underlying51, _, d_lss _ _ _, _, rfl, fun h => ?_, fun h => ?_⟩
    · have hlt : i < l.length := by simpa using h
      have hx : l[i]? = some l[i] := by simp [hlt]
      obtain ⟨k1, k2⟩ := d_at (P := Tryd.prog) Tryd.underlying51 i102 g102 s102 cs7 hx
      refine ⟨_, k1, _, k2, _, f3 i _ hi hx, _, d_lss _ _ _, _, rfl, fun _ => ⟨rfl, rfl⟩, fun h => ⟨_, d_add _ _ _, ?_⟩⟩
      rw [wrap_in (by omega) (by omega)]
      have hne : ¬ f (i + 1) < 0 := by simpa using h
      have hi' : i + 1 ≤ n := by
        rcases Nat.lt_or_ge i n with h | h
        · exact h
        · obtain rfl : i = n := by omega
          exact absurd f4 hne
      exact ⟨⟨i + 1, hi', _, rfl⟩, by simp only [upM, List.getElem?_cons_zero, List.getElem?_cons_succ]; omega⟩
    · have : ¬ i < l.length := by simpa using h
      omega
end Go.Proofs.YtlihmncbhaimkaaDoor.Am
/- What the functions of FormatEntity do. -/
namespace Go.Proofs.YtlihmncbhaimkaaDoor.Am
open Go Go.RowKit
set_option linter.unusedVariables false

theorem cells54 (a0 a1 a2 a3 a4 a5 a6 a7 a8 a9 a10 a11 : D) : cellsD Tryd.prog 54 (.agg [a0, a1, a2, a3, a4, a5, a6, a7, a8, a9, a10, a11]) = some [a0, a1, a2, a3, a4, a5, a6, a7, a8, a9, a10, a11] := by kernel_rfl
theorem cells62 (a0 a1 a2 a3 a4 a5 a6 a7 a8 a9 a10 a11 : D) : cellsD Tryd.prog 62 (.agg [a0, a1, a2, a3, a4, a5, a6, a7, a8, a9, a10, a11]) = some [a0, a1, a2, a3, a4, a5, a6, a7, a8, a9, a10, a11] := by kernel_rfl
/-- A value's text. -/
def valT (p : PairV) : List UInt8 := if p.k = 0 then Lib.itoa p.n else if p.k = 1 then [64] ++ Lib.itoa p.n else if p.k = 2 then [33] else [63]
theorem valT_le {p : PairV} (h : p.ok) : (valT p).length ≤ 22 := by
  have := itoa_le h.2
  unfold valT
  split
  · omega
  · split
    · simp only [List.length_append, List.length_cons, List.length_nil]; omega
    · split <;> simp
theorem c44 {m : Bool} {p : PairV} (ok : p.ok) : Sm m 44 [.val p.d] (.str (valT p)) [] := by
  have := itoa_le ok.2
  refine V44 ⟨_, _, cells58 _ _, _, d_eql _ _ _, _, rfl, fun h => ⟨_, c25 ok.2, ?_, rfl⟩, fun h => ⟨_, d_eql _ _ _, _, rfl, fun h1 => ⟨_, c25 ok.2, _, d_sadd _ _ _ (by simp only [List.length_cons, List.length_nil]; omega), ?_, rfl⟩, fun h1 => ⟨_, d_eql _ _ _, _, rfl, fun h2 => ⟨?_, rfl⟩, fun h2 => ⟨?_, rfl⟩⟩⟩⟩
  all_goals simp only [decide_eq_true_eq, decide_eq_false_iff_not] at *
  · rw [valT, if_pos h]
  · rw [valT, if_neg h, if_pos h1]
  · rw [valT, if_neg h, if_neg h1, if_pos h2]
  · rw [valT, if_neg h, if_neg h1, if_neg h2]
theorem c49 {m : Bool} {p : PairV} (ok : p.ok) : Sm m 49 [.val p.d] (.str (valT p)) [] := by
  have := itoa_le ok.2
  refine V49 ⟨_, _, cells58 _ _, _, d_eql _ _ _, _, rfl, fun h => ⟨_, c37 ok.2, ?_, rfl⟩, fun h => ⟨_, d_eql _ _ _, _, rfl, fun h1 => ⟨_, c37 ok.2, _, d_sadd _ _ _ (by simp only [List.length_cons, List.length_nil]; omega), ?_, rfl⟩, fun h1 => ⟨_, d_eql _ _ _, _, rfl, fun h2 => ⟨?_, rfl⟩, fun h2 => ⟨?_, rfl⟩⟩⟩⟩
  all_goals simp only [decide_eq_true_eq, decide_eq_false_iff_not] at *
  · rw [valT, if_pos h]
  · rw [valT, if_neg h, if_pos h1]
  · rw [valT, if_neg h, if_neg h1, if_pos h2]
  · rw [valT, if_neg h, if_neg h1, if_neg h2]
/-- The texts of several, each behind a blank. -/
def blanks {α : Type} (f : α → List UInt8) (l : List α) : List UInt8 := (l.map fun x => [32] ++ f x).flatten
theorem blanks_le {α : Type} {f : α → List UInt8} {k : Nat} : ∀ {l : List α}, (∀ x ∈ l, (f x).length ≤ k) → (blanks f l).length ≤ l.length * (k + 1)
  | [], _ => by simp [blanks]
  | x :: l, h => by
    have h1 := h x (by simp)
    have h2 := blanks_le (l := l) fun y hy => h y (by simp [hy])
    simp only [blanks, List.map_cons, List.flatten_cons, List.length_append, List.length_cons, List.length_nil, Nat.succ_mul] at *
    omega
theorem blanks_step {α : Type} {f : α → List UInt8} {l : List α} {i : Nat} {x : α} (hx : l[i]? = some x) : blanks f (l.take (i + 1)) = blanks f (l.take i) ++ ([32] ++ f x) := by
  unfold blanks
  rw [List.take_add_one, hx]
  simp
/-- An entity's text. -/
def entT (e : EntV) : List UInt8 :=
  if e.kind = 1 then [111, 98, 106] ++ Lib.itoa e.script ++ blanks valT e.slots
  else if e.kind = 3 then [102, 97, 114] ++ Lib.itoa e.peer ++ [58] ++ Lib.itoa e.pos
  else if e.kind = 2 then
    (if e.state = 1 then [111, 112, 101, 110] else if e.state = 2 then [107, 101, 112, 116, 32] ++ valT e.value
    else if e.state = 3 then [97, 119, 97, 121, 32] ++ Lib.itoa e.peer ++ [63] ++ Lib.itoa e.pos else if e.state = 4 then [104, 101, 108, 100, 32] ++ valT e.value else [63])
  else [63]
theorem c21 {m : Bool} {e : EntV} (ok : e.ok) (hs : e.slots.length ≤ 1048576) : Sm m 21 [.val e.d] (.str (entT e)) [] := by
  obtain ⟨o1, o2, ⟨o3, _⟩, o4, o5, _, _, o8, o9, _, _⟩ := ok
  have l2 := itoa_le o2
  have l8 := itoa_le o8
  have l9 := itoa_le o9
  have l5 := valT_le o5
  refine V21 ?_
  unfold G21
  refine ⟨_, _, _, _, _, _, _, _, _, _, _, _, cells62 _ _ _ _ _ _ _ _ _ _ _ _, _, d_eql _ _ _, _, rfl, fun h => ?_, fun h => ⟨_, d_eql _ _ _, _, rfl, fun h3 => ⟨_, c25 o8, _, d_sadd _ _ _ (by simp only [List.length_cons, List.length_nil]; omega), _, d_sadd _ _ _ (by simp only [List.length_append, List.length_cons, List.length_nil]; omega), _, c25 o9, _, d_sadd _ _ _ (by simp only [List.length_append, List.length_cons, List.length_nil]; omega), ?_, rfl⟩, fun h3 => ⟨_, d_eql _ _ _, _, rfl, fun h2 => ⟨_, d_eql _ _ _, _, rfl, fun s1 => ⟨?_, rfl⟩, fun s1 => ⟨_, d_eql _ _ _, _, rfl, fun s2 => ⟨_, c44 (p := e.value) o5, _, d_sadd _ _ _ (by simp only [List.length_cons, List.length_nil]; omega), ?_, rfl⟩, fun s2 => ⟨_, d_eql _ _ _, _, rfl, fun s3 => ⟨_, c25 o8, _, d_sadd _ _ _ (by simp only [List.length_cons, List.length_nil]; omega), _, d_sadd _ _ _ (by simp only [List.length_append, List.length_cons, List.length_nil]; omega), _, c25 o9, _, d_sadd _ _ _ (by simp only [List.length_append, List.length_cons, List.length_nil]; omega), ?_, rfl⟩, fun s3 => ⟨_, d_eql _ _ _, _, rfl, fun s4 => ⟨_, c44 (p := e.value) o5, _, d_sadd _ _ _ (by simp only [List.length_cons, List.length_nil]; omega), ?_, rfl⟩, fun s4 => ⟨?_, rfl⟩⟩⟩⟩⟩, fun h2 => ⟨?_, rfl⟩⟩⟩⟩
  case refine_1 =>
    have hk : e.kind = 1 := of_decide_eq_true h
    refine ⟨_, c25 o2, _, d_sadd _ _ _ (by simp only [List.length_cons, List.length_nil]; omega), ?_⟩
    refine ⟨fun d => ∃ i : Nat, i ≤ e.slots.length ∧ d = [.str ([111, 98, 106] ++ Lib.itoa e.script ++ blanks valT (e.slots.take i)), .int i], upM e.slots.length 1, ⟨0, by omega, by simp [blanks]⟩, ?_⟩
    rintro x19 x20 ⟨i, hi, q⟩
    cases q
    refine ⟨_, d_len Tryd.underlying57, _, d_lss _ _ _, _, rfl, fun h => ?_, fun h => ?_⟩
    · have hlt : i < e.slots.length := by simpa using h
      have hx : e.slots[i]? = some e.slots[i] := by simp [hlt]
      have okx := o3 _ (List.getElem_mem hlt)
      have lx := valT_le okx
      have lb := blanks_le (f := valT) (k := 22) (l := e.slots.take i) fun x hx => valT_le (o3 x (List.mem_of_mem_take hx))
      rw [List.length_take, Nat.min_eq_left hi] at lb
      obtain ⟨k1, k2⟩ := d_at (P := Tryd.prog) Tryd.underlying57 i58 g58 s58 cs2 hx
      refine ⟨_, d_sadd _ _ _ (by simp only [List.length_append, List.length_cons, List.length_nil]; omega), _, k1, _, k2, _, c44 okx, _, d_sadd _ _ _ (by simp only [List.length_append, List.length_cons, List.length_nil]; omega), _, d_add _ _ _, ?_⟩
      rw [wrap_in (by omega) (by omega)]
      refine ⟨⟨i + 1, hlt, ?_⟩, by simp only [upM, List.getElem?_cons_zero, List.getElem?_cons_succ]; omega⟩
      rw [blanks_step hx]
      simp only [List.append_assoc]
      rfl
    · have : i = e.slots.length := by
        have : ¬ i < e.slots.length := by simpa using h
        omega
      subst this
      rw [List.take_length]
      exact ⟨by rw [entT, if_pos hk], rfl⟩
  all_goals simp only [decide_eq_true_eq, decide_eq_false_iff_not] at *
  · rw [entT, if_neg h, if_pos h3]
  · rw [entT, if_neg h, if_neg h3, if_pos h2, if_pos s1]
  · rw [entT, if_neg h, if_neg h3, if_pos h2, if_neg s1, if_pos s2]
  · rw [entT, if_neg h, if_neg h3, if_pos h2, if_neg s1, if_neg s2, if_pos s3]
  · rw [entT, if_neg h, if_neg h3, if_pos h2, if_neg s1, if_neg s2, if_neg s3, if_pos s4]
  · rw [entT, if_neg h, if_neg h3, if_pos h2, if_neg s1, if_neg s2, if_neg s3, if_neg s4]
  · rw [entT, if_neg h, if_neg h3, if_neg h2]
theorem c23 {m : Bool} {e : EntV} (ok : e.ok) (hs : e.slots.length ≤ 1048576) : Sm m 23 [.val e.d] (.str (entT e)) [] := by
  obtain ⟨o1, o2, ⟨o3, _⟩, o4, o5, _, _, o8, o9, _, _⟩ := ok
  have l2 := itoa_le o2
  have l8 := itoa_le o8
  have l9 := itoa_le o9
  have l5 := valT_le o5
  refine V23 ?_
  unfold G23
  refine ⟨_, _, _, _, _, _, _, _, _, _, _, _, cells62 _ _ _ _ _ _ _ _ _ _ _ _, _, d_eql _ _ _, _, rfl, fun h => ?_, fun h => ⟨_, d_eql _ _ _, _, rfl, fun h3 => ⟨_, c37 o8, _, d_sadd _ _ _ (by simp only [List.length_cons, List.length_nil]; omega), _, d_sadd _ _ _ (by simp only [List.length_append, List.length_cons, List.length_nil]; omega), _, c37 o9, _, d_sadd _ _ _ (by simp only [List.length_append, List.length_cons, List.length_nil]; omega), ?_, rfl⟩, fun h3 => ⟨_, d_neq _ _ _, _, rfl, fun h2 => ⟨?_, rfl⟩, fun h2 => ⟨_, d_eql _ _ _, _, rfl, fun s1 => ⟨?_, rfl⟩, fun s1 => ⟨_, d_eql _ _ _, _, rfl, fun s2 => ⟨_, c49 (p := e.value) o5, _, d_sadd _ _ _ (by simp only [List.length_cons, List.length_nil]; omega), ?_, rfl⟩, fun s2 => ⟨_, d_eql _ _ _, _, rfl, fun s3 => ⟨_, c37 o8, _, d_sadd _ _ _ (by simp only [List.length_cons, List.length_nil]; omega), _, d_sadd _ _ _ (by simp only [List.length_append, List.length_cons, List.length_nil]; omega), _, c37 o9, _, d_sadd _ _ _ (by simp only [List.length_append, List.length_cons, List.length_nil]; omega), ?_, rfl⟩, fun s3 => ⟨_, d_eql _ _ _, _, rfl, fun s4 => ⟨_, c49 (p := e.value) o5, _, d_sadd _ _ _ (by simp only [List.length_cons, List.length_nil]; omega), ?_, rfl⟩, fun s4 => ⟨?_, rfl⟩⟩⟩⟩⟩⟩⟩⟩
  case refine_1 =>
    have hk : e.kind = 1 := of_decide_eq_true h
    refine ⟨_, c37 o2, _, d_sadd _ _ _ (by simp only [List.length_cons, List.length_nil]; omega), _, d_len Tryd.underlying57, ?_⟩
    refine ⟨fun d => ∃ i : Nat, i ≤ e.slots.length ∧ d = [.str ([111, 98, 106] ++ Lib.itoa e.script ++ blanks valT (e.slots.take i)), .int i], upM e.slots.length 1, ⟨0, by omega, by simp [blanks]⟩, ?_⟩
    rintro x19 x20 ⟨i, hi, q⟩
    cases q
    refine ⟨_, d_lss _ _ _, _, rfl, fun h => ?_, fun h => ?_⟩
    · have hlt : i < e.slots.length := by simpa using h
      have hx : e.slots[i]? = some e.slots[i] := by simp [hlt]
      have okx := o3 _ (List.getElem_mem hlt)
      have lx := valT_le okx
      have lb := blanks_le (f := valT) (k := 22) (l := e.slots.take i) fun x hx => valT_le (o3 x (List.mem_of_mem_take hx))
      rw [List.length_take, Nat.min_eq_left hi] at lb
      obtain ⟨k1, k2⟩ := d_at (P := Tryd.prog) Tryd.underlying57 i58 g58 s58 cs2 hx
      refine ⟨_, k1, _, k2, _, _, cells58 _ _, _, c49 okx, _, d_sadd _ _ _ (by simp only [List.length_cons, List.length_nil]; omega), _, d_sadd _ _ _ (by simp only [List.length_append, List.length_cons, List.length_nil]; omega), _, d_add _ _ _, ?_⟩
      rw [wrap_in (by omega) (by omega)]
      refine ⟨⟨i + 1, hlt, ?_⟩, by simp only [upM, List.getElem?_cons_zero, List.getElem?_cons_succ]; omega⟩
      rw [blanks_step hx]
      simp only [List.append_assoc]
      rfl
    · have : i = e.slots.length := by
        have : ¬ i < e.slots.length := by simpa using h
        omega
      subst this
      rw [List.take_length]
      exact ⟨by rw [entT, if_pos hk], rfl⟩
  all_goals simp only [decide_eq_true_eq, decide_eq_false_iff_not, Bool.not_eq_true', Bool.not_eq_false'] at *
  · rw [entT, if_neg h, if_pos h3]
  · rw [entT, if_neg h, if_neg h3, if_neg h2]
  · rw [entT, if_neg h, if_neg h3, if_pos h2, if_pos s1]
  · rw [entT, if_neg h, if_neg h3, if_pos h2, if_neg s1, if_pos s2]
  · rw [entT, if_neg h, if_neg h3, if_pos h2, if_neg s1, if_neg s2, if_pos s3]
  · rw [entT, if_neg h, if_neg h3, if_pos h2, if_neg s1, if_neg s2, if_neg s3, if_pos s4]
  · rw [entT, if_neg h, if_neg h3, if_pos h2, if_neg s1, if_neg s2, if_neg s3, if_neg s4]
/-- Small enough to be looked at. -/
structure EntV.small (e : EntV) : Prop where
  slots : e.slots.length ≤ 1048576
  queue : e.queue.length ≤ 1048576
  args : ∀ s ∈ e.queue, s.args.length ≤ 1048576
  askers : e.askers.length ≤ 1048576
theorem c22 {m : Bool} {e : EntV} (h : e.small) : Sm m 22 [.val e.d] e.d [] :=
  V22 ⟨_, _, _, _, _, _, _, _, _, _, _, _, cells54 _ _ _ _ _ _ _ _ _ _ _ _, _, c45 h.slots, _, one_sl _ _ _, _, c46 (p := e.value), _, _, cells58 _ _, _, c47 h.queue h.args, _, one_sl _ _ _, _, c48 h.askers, _, one_sl _ _ _, _, _, _, _, _, _, _, _, _, _, _, _, cells62 _ _ _ _ _ _ _ _ _ _ _ _, rfl, rfl⟩
theorem c24 {m : Bool} {e : EntV} (h : e.small) : Sm m 24 [.val e.d, .val e.d] (.bool true) [] :=
  V24 ⟨_, _, _, _, _, _, _, _, _, _, _, _, cells62 _ _ _ _ _ _ _ _ _ _ _ _, _, _, _, _, _, _, _, _, _, _, _, _, cells62 _ _ _ _ _ _ _ _ _ _ _ _, _, d_neq _ _ _, _, rfl, fun h => by simp at h, fun _ => ⟨_, d_neq _ _ _, _, rfl, fun h => by simp at h, fun _ => ⟨_, c50 h.slots, _, d_not _, _, rfl, fun h => by simp at h, fun _ => ⟨_, d_neq _ _ _, _, rfl, fun h => by simp at h, fun _ => ⟨_, c51 (p := e.value), _, d_not _, _, rfl, fun h => by simp at h, fun _ => ⟨_, c52 h.queue h.args, _, d_not _, _, rfl, fun h => by simp at h, fun _ => ⟨_, c53 h.askers, _, d_not _, _, rfl, fun h => by simp at h, fun _ => ⟨_, d_neq _ _ _, _, rfl, fun h => by simp at h, fun _ => ⟨_, d_neq _ _ _, _, rfl, fun h => by simp at h, fun _ => ⟨_, d_neq _ _ _, _, rfl, fun h => by simp at h, fun _ => ⟨_, d_neq _ _ _, _, rfl, fun h => by simp at h, fun _ => ⟨rfl, rfl⟩⟩⟩⟩⟩⟩⟩⟩⟩⟩⟩⟩
theorem c20 {m : Bool} {e : EntV} (ok : e.ok) : ∃ r : Int, Sm m 20 [.val e.d, .val (.int 1048576)] (.int r) [] ∧ (0 ≤ r → e.small) := by
  obtain ⟨_, _, ⟨_, o3⟩, _, _, ⟨o6, o6l⟩, ⟨_, o7⟩, _⟩ := ok
  have o3 : e.slots.length ≤ 9223372036854775807 := o3
  have o6l : e.queue.length ≤ 9223372036854775807 := o6l
  have o7 : e.askers.length ≤ 9223372036854775807 := o7
  obtain ⟨r1, a1, a2, a3, _⟩ := c41 (m := m) (z := 2) (n := e.slots.length) (ds := e.slots.flatMap PairV.cs) (by omega) (left := 1048576) (by omega) (by omega)
  by_cases h1 : r1 < 0
  · exact ⟨-1, V20 ⟨_, _, _, _, _, _, _, _, _, _, _, _, cells54 _ _ _ _ _ _ _ _ _ _ _ _, _, a1, _, d_lss _ _ _, _, rfl, fun _ => ⟨rfl, rfl⟩, fun h => absurd h1 (by simpa using h)⟩, fun h => by omega⟩
  obtain ⟨r2, b1, b2, b3⟩ := c42 (m := m) o6l o6 (left := r1) (by omega) (by omega)
  by_cases h2 : r2 < 0
  · exact ⟨-1, V20 ⟨_, _, _, _, _, _, _, _, _, _, _, _, cells54 _ _ _ _ _ _ _ _ _ _ _ _, _, a1, _, d_lss _ _ _, _, rfl, fun h => absurd (of_decide_eq_true h) h1, fun _ => ⟨_, b1, _, d_lss _ _ _, _, rfl, fun _ => ⟨rfl, rfl⟩, fun h => absurd h2 (by simpa using h)⟩⟩, fun h => by omega⟩
  obtain ⟨r3, d1, d2, d3, _⟩ := c43 (m := m) (z := 2) (n := e.askers.length) (ds := e.askers.flatMap PairV.cs) (by omega) (left := r2) (by omega) (by omega)
  by_cases h3 : r3 < 0
  · exact ⟨-1, V20 ⟨_, _, _, _, _, _, _, _, _, _, _, _, cells54 _ _ _ _ _ _ _ _ _ _ _ _, _, a1, _, d_lss _ _ _, _, rfl, fun h => absurd (of_decide_eq_true h) h1, fun _ => ⟨_, b1, _, d_lss _ _ _, _, rfl, fun h => absurd (of_decide_eq_true h) h2, fun _ => ⟨_, d1, _, d_lss _ _ _, _, rfl, fun _ => ⟨rfl, rfl⟩, fun h => absurd h3 (by simpa using h)⟩⟩⟩, fun h => by omega⟩
  · refine ⟨r3, V20 ⟨_, _, _, _, _, _, _, _, _, _, _, _, cells54 _ _ _ _ _ _ _ _ _ _ _ _, _, a1, _, d_lss _ _ _, _, rfl, fun h => absurd (of_decide_eq_true h) h1, fun _ => ⟨_, b1, _, d_lss _ _ _, _, rfl, fun h => absurd (of_decide_eq_true h) h2, fun _ => ⟨_, d1, _, d_lss _ _ _, _, rfl, fun h => absurd (of_decide_eq_true h) h3, fun _ => ⟨rfl, rfl⟩⟩⟩⟩, fun _ => ⟨?_, (b3 (by omega)).1, (b3 (by omega)).2, ?_⟩⟩
    · have := a3 (by omega); omega
    · have := d3 (by omega); omega
theorem c6 {m : Bool} {e : EntV} (ok : e.ok) : Sm m 6 [.val e.d] (.bool true) [] := by
  obtain ⟨r, k1, k2⟩ := c20 (m := m) ok
  refine V6 ⟨_, _, _, _, _, _, _, _, _, _, _, _, cells54 _ _ _ _ _ _ _ _ _ _ _ _, _, k1, _, d_lss _ _ _, _, rfl, fun h => ⟨rfl, rfl⟩, fun h => ?_⟩
  have sm := k2 (by have : ¬ r < 0 := by simpa using h
                    omega)
  refine ⟨_, c22 sm, _, c21 ok sm.slots, _, c22 sm, _, _, _, _, _, _, _, _, _, _, _, _, cells62 _ _ _ _ _ _ _ _ _ _ _ _, _, c23 ok sm.slots, _, d_sneq _ _ _, _, rfl, fun h => by simp at h, fun _ => ?_⟩
  exact ⟨_, c22 sm, _, c24 sm, _, d_not _, _, rfl, fun h => by simp at h, fun _ => ⟨rfl, rfl⟩⟩
end Go.Proofs.YtlihmncbhaimkaaDoor.Am
/- What the checks of messages do. -/
namespace Go.Proofs.YtlihmncbhaimkaaDoor.Am
open Go Go.RowKit
set_option linter.unusedVariables false

/-! ### Words that are asked for under a condition -/
theorem pick_and (b c : Bool) : pickD (.bool b) (.bool c) (.bool false) = some (.bool (b && c)) := by cases b <;> rfl
theorem pick_or (b c : Bool) : pickD (.bool b) (.bool true) (.bool c) = some (.bool (b || c)) := by cases b <;> rfl
theorem g_not (c : Bool) : truD (.bool c) = false → wantD (.bool c) false = true := by cases c <;> exact fun h => by first | rfl | cases h
theorem g_tru (c : Bool) : truD (.bool c) = true → wantD (.bool c) true = true := by cases c <;> exact fun h => by first | rfl | cases h
theorem g_andt {a c : Bool} : a = true → truD (.bool c) = true → (a && wantD (.bool c) true) = true := by rintro rfl; cases c <;> exact fun h => by first | rfl | cases h
theorem g_and {a b : Bool} : a = true → b = true → (a && b) = true := by rintro rfl rfl; rfl
theorem g_andn {a c : Bool} : a = true → truD (.bool c) = false → (a && wantD (.bool c) false) = true := by rintro rfl; cases c <;> exact fun h => by first | rfl | cases h
theorem d_lssk {P : Program} (t : TypeId) (k : IntKind) (a b : Int) : binD P .lss t (.v (.int k a)) (.v (.int k b)) = some (.bool (decide (a < b))) := by simp [binD, toV, binA, intOp]
theorem d_gtrk {P : Program} (t : TypeId) (k : IntKind) (a b : Int) : binD P .gtr t (.v (.int k a)) (.v (.int k b)) = some (.bool (decide (b < a))) := by simp [binD, toV, binA, intOp]

/-! ### Numbers -/
def inB (n lo hi : Int) : Bool := decide (lo ≤ n) && decide (n ≤ hi)
theorem c58 {m : Bool} {n lo hi : Int} : Sm m 58 [.val (.int n), .val (.int lo), .val (.int hi)] (.bool (inB n lo hi)) [] :=
  V58 ⟨_, d_geq _ _ _, fun h => h, fun h => h, _, fun _ => d_leq _ _ _, g_tru _, _, pick_and _ _, rfl, rfl⟩
theorem c65 {m : Bool} {n lo hi : Int} : Sm m 65 [.val (.int n), .val (.int lo), .val (.int hi)] (.bool (inB n lo hi)) [] :=
  V65 ⟨_, d_leq _ _ _, fun h => h, fun h => h, _, fun _ => d_leq _ _ _, g_tru _, _, pick_and _ _, rfl, rfl⟩
def oneB (n : Int) : Bool := inB n 1 999999
theorem c56 {m : Bool} {n : Int} : Sm m 56 [.val (.int n)] (.bool (oneB n)) [] := V56 ⟨_, c58, rfl, rfl⟩
theorem c59 {m : Bool} {n : Int} : Sm m 59 [.val (.int n)] (.bool (oneB n)) [] := V59 ⟨_, c65, rfl, rfl⟩

/-! ### Wires -/
def wireB (p : PairV) : Bool := if p.k = 0 then inB p.n 0 999999 else if p.k = 1 ∨ p.k = 2 then oneB p.n else (decide (p.k = 3) && decide (p.n = 0))
theorem c55 {m : Bool} {p : PairV} : Sm m 55 [.val p.d] (.bool (wireB p)) [] := by
  refine V55 ⟨_, _, cells43 _ _, _, d_eql _ _ _, _, rfl, fun h => ⟨_, c58, ?_, rfl⟩, fun h => ⟨_, d_eql _ _ _, _, rfl, fun h1 => ⟨_, rfl, fun _ => ⟨_, c58, ?_, rfl⟩, fun h2 => ?_⟩, fun h1 => ⟨_, d_eql _ _ _, _, rfl, fun h2 => ⟨_, c58, ?_, rfl⟩, fun h2 => ⟨_, d_eql _ _ _, fun h => h, fun h => h, _, fun _ => d_eql _ _ _, g_tru _, _, pick_and _ _, ?_, rfl⟩⟩⟩⟩
  case refine_3 => rw [h1] at h2; cases h2
  all_goals simp only [decide_eq_true_eq, decide_eq_false_iff_not] at *
  · rw [wireB, if_pos h]
  · rw [wireB, if_neg h, if_pos (.inl h1)]; rfl
  · rw [wireB, if_neg h, if_pos (.inr h2)]; rfl
  · rw [wireB, if_neg h, if_neg (by rintro (h' | h') <;> contradiction)]
theorem c63 {m : Bool} {p : PairV} : Sm m 63 [.val p.d] (.bool (wireB p)) [] := by
  refine V63 ⟨_, _, cells43 _ _, _, d_eql _ _ _, _, rfl, fun h => ⟨_, c65, ?_, rfl⟩, fun h => ⟨_, d_eql _ _ _, _, rfl, fun h1 => ⟨_, rfl, fun _ => ⟨_, c59, ?_, rfl⟩, fun h2 => ?_⟩, fun h1 => ⟨_, d_eql _ _ _, _, rfl, fun h2 => ⟨_, c59, ?_, rfl⟩, fun h2 => ⟨_, d_eql _ _ _, _, rfl, fun h3 => ⟨_, d_eql _ _ _, ?_, rfl⟩, fun h3 => ⟨?_, rfl⟩⟩⟩⟩⟩
  case refine_3 => rw [h1] at h2; cases h2
  all_goals simp only [decide_eq_true_eq, decide_eq_false_iff_not] at *
  · rw [wireB, if_pos h]
  · rw [wireB, if_neg h, if_pos (.inl h1)]
  · rw [wireB, if_neg h, if_pos (.inr h2)]
  · rw [wireB, if_neg h, if_neg (by rintro (h' | h') <;> contradiction)]; simp [h3]
  · rw [wireB, if_neg h, if_neg (by rintro (h' | h') <;> contradiction)]; simp [h3]
theorem c62 {m : Bool} {p : PairV} : Sm m 62 [.val p.d] (.bool (!wireB p)) [] := V62 ⟨_, _, cells43 _ _, _, c63 (p := p), _, d_not _, rfl, rfl⟩
/-- Where the first wrong one stands. -/
theorem c75 {m : Bool} {l : List PairV} (hl : l.length ≤ 9223372036854775807) : ∃ i : Int, Sm m 75 [.val (pairsD l), .val (.fn 62 [] [])] (.int i) [] ∧ ((0 ≤ i) ↔ l.all wireB = false) := by
  -- the first wrong one, or none
  have first : (∃ n, ∃ h : n < l.length, (l.take n).all wireB = true ∧ wireB l[n] = false) ∨ l.all wireB = true := by
    have : ∀ k, k ≤ l.length → (∃ n, ∃ h : n < l.length, (l.take n).all wireB = true ∧ wireB l[n] = false) ∨ (l.take k).all wireB = true := by
      intro k
      induction k with
      | zero => exact fun _ => .inr rfl
      | succ k ih =>
        intro hk
        rcases ih (by omega) with h | h
        · exact .inl h
        · cases hw : wireB (l[k]'hk) with
          | false => exact .inl ⟨k, hk, h, hw⟩
          | true =>
            refine .inr ?_
            rw [List.take_add_one, show l[k]? = some (l[k]'hk) by simp]
            rw [List.all_append, h]
            simp [hw]
    rcases this l.length (Nat.le_refl _) with h | h
    · exact .inl h
    · rw [List.take_length] at h
      exact .inr h
  have run : ∀ (N : Nat) (r : Int), N ≤ l.length → (l.take N).all wireB = true → (N = l.length ∧ r = -1 ∨ ∃ h : N < l.length, wireB l[N] = false ∧ r = N) → Sm m 75 [.val (pairsD l), .val (.fn 62 [] [])] (.int r) [] := by
    intro N r hN hall hr
    refine V75 ?_
    unfold G75
    refine ⟨_, d_len Tryd.underlying42, ?_⟩
    refine ⟨fun d => ∃ i : Nat, i ≤ N ∧ ∃ x : D, d = [x, .int i], upM l.length 1, ⟨0, by omega, _, rfl⟩, ?_⟩
    rintro x4 x5 ⟨i, hi, x, e⟩
    cases e
    refine ⟨_, d_lss _ _ _, _, rfl, fun h => ?_, fun h => ?_⟩
    · have hlt : i < l.length := by simpa using h
      have hx : l[i]? = some l[i] := by simp [hlt]
      obtain ⟨k1, k2⟩ := d_at (P := Tryd.prog) Tryd.underlying42 i43 g43 s43 cs2 hx
      refine ⟨_, k1, _, k2, _, _, _, _, rfl, c62 (p := l[i]), _, rfl, fun h => ?_, fun h => ?_⟩
      · have hw : wireB l[i] = false := by simpa using h
        have hiN : i = N := by
          rcases Nat.lt_or_ge i N with h' | h'
          · have := List.all_eq_true.1 hall l[i] (List.mem_take_iff_getElem.2 ⟨i, by omega, rfl⟩)
            rw [hw] at this
            cases this
          · omega
        subst hiN
        rcases hr with ⟨h1, _⟩ | ⟨_, _, rfl⟩
        · omega
        · exact ⟨rfl, rfl⟩
      · have hw : wireB l[i] = true := by simpa using h
        have hiN : i < N := by
          rcases Nat.lt_or_ge i N with h' | h'
          · exact h'
          · obtain rfl : i = N := by omega
            rcases hr with ⟨h1, _⟩ | ⟨_, h2, _⟩
            · omega
            · rw [hw] at h2; cases h2
        refine ⟨_, d_add _ _ _, ?_⟩
        rw [wrap_in (by omega) (by omega)]
        exact ⟨⟨i + 1, hiN, _, rfl⟩, by simp only [upM, List.getElem?_cons_zero, List.getElem?_cons_succ]; omega⟩
    · have hge : ¬ i < l.length := by simpa using h
      rcases hr with ⟨_, rfl⟩ | ⟨h1, _, _⟩
      · exact ⟨rfl, rfl⟩
      · omega
  rcases first with ⟨n, hn, h1, h2⟩ | h
  · refine ⟨n, run n n (by omega) h1 (.inr ⟨hn, h2, rfl⟩), fun _ => ?_, fun _ => by omega⟩
    rw [Bool.eq_false_iff]
    intro ha
    have := List.all_eq_true.1 ha l[n] (List.getElem_mem hn)
    rw [h2] at this
    cases this
  · exact ⟨-1, run l.length (-1) (Nat.le_refl _) (by rw [List.take_length]; exact h) (.inl ⟨rfl, rfl⟩), fun h' => by omega, fun h' => by rw [h] at h'; cases h'⟩
theorem c61 {m : Bool} {l : List PairV} (hl : l.length ≤ 9223372036854775807) : Sm m 61 [.val (pairsD l), .val (.fn 62 [] [])] (.bool (!l.all wireB)) [] := by
  obtain ⟨i, h1, h2⟩ := c75 (m := m) hl
  refine V61 ⟨_, h1, _, d_geq _ _ _, ?_, rfl⟩
  cases h : l.all wireB with
  | false => rw [decide_eq_true (h2.2 h)]; rfl
  | true =>
    rw [decide_eq_false (fun h' => by rw [h2.1 h'] at h; cases h)]
    rfl

/-! ### Names, tags -/
def lowB (c : UInt8) : Bool := !(decide ((c.toNat : Int) < 97) || decide ((122 : Int) < c.toNat))
def nameB (s : List UInt8) : Bool := s.all lowB && inB s.length 1 6
theorem d_sidx (s : List UInt8) {i : Nat} {c : UInt8} (h : s[i]? = some c) : indexD Tryd.prog 9 (.str s) (.int i) = some (.v (.int .u8 c.toNat)) := by
  have e : (⟨s.toArray⟩ : ByteArray)[i]? = some c := by
    have hi := (List.getElem?_eq_some_iff.1 h).1
    rw [getElem?_pos (⟨s.toArray⟩ : ByteArray) i (by simpa [ByteArray.size] using hi)]
    have := (List.getElem?_eq_some_iff.1 h).2
    rw [← this]
    rfl
  simp only [indexD, Tryd.underlying9]
  rw [if_pos (by omega), show (i : Int).toNat = i by omega, e]
  rfl
theorem c57 {m : Bool} {s : List UInt8} (hl : s.length ≤ 9223372036854775807) : Sm m 57 [.val (.str s)] (.bool (nameB s)) [] := by
  refine V57 ?_
  unfold G57
  refine ⟨fun d => ∃ i : Nat, i ≤ s.length ∧ (s.take i).all lowB = true ∧ ∃ x : D, d = [x, .int i], upM s.length 1, ⟨0, by omega, rfl, _, rfl⟩, ?_⟩
  rintro x3 x4 ⟨i, hi, ha, x, e⟩
  cases e
  refine ⟨_, d_slen 9 Tryd.underlying9 _, _, d_lss _ _ _, _, rfl, fun h => ?_, fun h => ?_⟩
  · have hlt : i < s.length := by simpa using h
    have hx : s[i]? = some s[i] := by simp [hlt]
    refine ⟨_, d_sidx s hx, _, d_lssk _ _ _ _, fun h => h, fun h => h, _, fun _ => d_sidx s hx, fun h => h, _, fun _ => d_gtrk _ _ _ _, g_not _, _, pick_or _ _, _, rfl, fun h => ?_, fun h => ?_⟩
    · refine ⟨?_, rfl⟩
      have hw : lowB s[i] = false := by unfold lowB; rw [h]; rfl
      have : s.all lowB = false := by
        rw [Bool.eq_false_iff]
        intro h'
        have := List.all_eq_true.1 h' s[i] (List.getElem_mem hlt)
        rw [hw] at this
        cases this
      rw [nameB, this]
      rfl
    · refine ⟨_, d_add _ _ _, ?_⟩
      rw [wrap_in (by omega) (by omega)]
      refine ⟨⟨i + 1, hlt, ?_, _, rfl⟩, by simp only [upM, List.getElem?_cons_zero, List.getElem?_cons_succ]; omega⟩
      have hw : lowB s[i] = true := by unfold lowB; rw [h]; rfl
      rw [List.take_add_one, hx, List.all_append, ha]
      simp [hw]
  · have : i = s.length := by
      have : ¬ i < s.length := by simpa using h
      omega
    subst this
    rw [List.take_length] at ha
    exact ⟨_, d_slen 9 Tryd.underlying9 _, _, c58, by rw [nameB, ha]; rfl, rfl⟩
theorem c60 {m : Bool} {s : List UInt8} (hl : s.length ≤ 9223372036854775807) : Sm m 60 [.val (.str s)] (.bool (nameB s)) [] := by
  refine V60 ?_
  unfold G60
  refine ⟨_, d_slen 9 Tryd.underlying9 _, _, c65, _, d_not _, _, rfl, fun h => ?_, fun h => ?_⟩
  · have h : inB s.length 1 6 = false := by simpa using h
    exact ⟨by rw [nameB, h, Bool.and_false], rfl⟩
  have hin : inB s.length 1 6 = true := by simpa using h
  refine ⟨_, d_slen 9 Tryd.underlying9 _, ?_⟩
  refine ⟨fun d => ∃ i : Nat, i ≤ s.length ∧ (s.take i).all lowB = true ∧ ∃ x : D, d = [x, .int i], upM s.length 1, ⟨0, by omega, rfl, _, rfl⟩, ?_⟩
  rintro x3 x4 ⟨i, hi, ha, x, e⟩
  cases e
  refine ⟨_, d_lss _ _ _, _, rfl, fun h => ?_, fun h => ?_⟩
  · have hlt : i < s.length := by simpa using h
    have hx : s[i]? = some s[i] := by simp [hlt]
    refine ⟨_, d_sidx s hx, _, d_lssk _ _ _ _, fun h => h, fun h => h, _, fun _ => d_sidx s hx, fun h => h, _, fun _ => d_gtrk _ _ _ _, g_not _, _, pick_or _ _, _, rfl, fun h => ?_, fun h => ?_⟩
    · refine ⟨?_, rfl⟩
      have hw : lowB s[i] = false := by unfold lowB; rw [h]; rfl
      have : s.all lowB = false := by
        rw [Bool.eq_false_iff]
        intro h'
        have := List.all_eq_true.1 h' s[i] (List.getElem_mem hlt)
        rw [hw] at this
        cases this
      rw [nameB, this]
      rfl
    · refine ⟨_, d_add _ _ _, ?_⟩
      rw [wrap_in (by omega) (by omega)]
      refine ⟨⟨i + 1, hlt, ?_, _, rfl⟩, by simp only [upM, List.getElem?_cons_zero, List.getElem?_cons_succ]; omega⟩
      have hw : lowB s[i] = true := by unfold lowB; rw [h]; rfl
      rw [List.take_add_one, hx, List.all_append, ha]
      simp [hw]
  · have : i = s.length := by
      have : ¬ i < s.length := by simpa using h
      omega
    subst this
    rw [List.take_length] at ha
    exact ⟨by rw [nameB, ha, hin]; rfl, rfl⟩
def tagB (t : TagV) : Bool := (oneB t.vat && oneB t.seq) && inB t.ent 0 999999
theorem c64 {m : Bool} {t : TagV} : Sm m 64 [.val t.d] (.bool (tagB t)) [] :=
  V64 ⟨_, _, _, cells25 _ _ _, _, c59, fun h => h, fun h => h, _, fun _ => c59, g_tru _, _, pick_and _ _, fun h => h, fun h => h, _, fun _ => c65, g_tru _, _, pick_and _ _, rfl, rfl⟩
end Go.Proofs.YtlihmncbhaimkaaDoor.Am
/- What the checks of a whole message do. -/
namespace Go.Proofs.YtlihmncbhaimkaaDoor.Am
open Go Go.RowKit
set_option linter.unusedVariables false

theorem cells39 (a0 a1 a2 a3 a4 a5 a6 a7 a8 a9 a10 a11 : D) : cellsD Tryd.prog 39 (.agg [a0, a1, a2, a3, a4, a5, a6, a7, a8, a9, a10, a11]) = some [a0, a1, a2, a3, a4, a5, a6, a7, a8, a9, a10, a11] := by kernel_rfl
theorem cells45 (a0 a1 a2 a3 a4 a5 a6 a7 a8 a9 a10 a11 : D) : cellsD Tryd.prog 45 (.agg [a0, a1, a2, a3, a4, a5, a6, a7, a8, a9, a10, a11]) = some [a0, a1, a2, a3, a4, a5, a6, a7, a8, a9, a10, a11] := by kernel_rfl
theorem fill43 : (fillD Tryd.prog 43 [.int 0, .int 0] []).map D.agg = some (.agg [.int 0, .int 0]) := by kernel_rfl
theorem fill25 : (fillD Tryd.prog 25 [.int 0, .int 0, .int 0] []).map D.agg = some (.agg [.int 0, .int 0, .int 0]) := by kernel_rfl
theorem eq2 (a b : Int) : binD Tryd.prog .eql 43 (.agg [.int a, .int b]) (.agg [.int 0, .int 0]) = ((((some (a == 0)).bind fun c => if c then ((some (b == 0)).bind fun c => if c then some true else some false) else some false).map Value.bool).map D.v) := by kernel_rfl
theorem zval (a b : Int) : binD Tryd.prog .eql 43 (.agg [.int a, .int b]) (.agg [.int 0, .int 0]) = some (.bool (decide (a = 0) && decide (b = 0))) := by
  rw [eq2]
  by_cases h1 : a = 0 <;> by_cases h2 : b = 0 <;> simp [h1, h2]
theorem ne2 (a b : Int) : binD Tryd.prog .neq 43 (.agg [.int a, .int b]) (.agg [.int 0, .int 0]) = ((((some (a == 0)).bind fun c => if c then ((some (b == 0)).bind fun c => if c then some true else some false) else some false).map fun b => Value.bool (!b)).map D.v) := by kernel_rfl
theorem nval (a b : Int) : binD Tryd.prog .neq 43 (.agg [.int a, .int b]) (.agg [.int 0, .int 0]) = some (.bool (!(decide (a = 0) && decide (b = 0)))) := by
  rw [ne2]
  by_cases h1 : a = 0 <;> by_cases h2 : b = 0 <;> simp [h1, h2]
theorem eq3 (a b c : Int) : binD Tryd.prog .eql 25 (.agg [.int a, .int b, .int c]) (.agg [.int 0, .int 0, .int 0]) = ((((some (a == 0)).bind fun x => if x then ((some (b == 0)).bind fun x => if x then ((some (c == 0)).bind fun x => if x then some true else some false) else some false) else some false).map Value.bool).map D.v) := by kernel_rfl
theorem ztag (a b c : Int) : binD Tryd.prog .eql 25 (.agg [.int a, .int b, .int c]) (.agg [.int 0, .int 0, .int 0]) = some (.bool ((decide (a = 0) && decide (b = 0)) && decide (c = 0))) := by
  rw [eq3]
  by_cases h1 : a = 0 <;> by_cases h2 : b = 0 <;> by_cases h3 : c = 0 <;> simp [h1, h2, h3]
theorem ne3 (a b c : Int) : binD Tryd.prog .neq 25 (.agg [.int a, .int b, .int c]) (.agg [.int 0, .int 0, .int 0]) = ((((some (a == 0)).bind fun x => if x then ((some (b == 0)).bind fun x => if x then ((some (c == 0)).bind fun x => if x then some true else some false) else some false) else some false).map fun b => Value.bool (!b)).map D.v) := by kernel_rfl
theorem ntag (a b c : Int) : binD Tryd.prog .neq 25 (.agg [.int a, .int b, .int c]) (.agg [.int 0, .int 0, .int 0]) = some (.bool (!((decide (a = 0) && decide (b = 0)) && decide (c = 0)))) := by
  rw [ne3]
  by_cases h1 : a = 0 <;> by_cases h2 : b = 0 <;> by_cases h3 : c = 0 <;> simp [h1, h2, h3]

/-! ### The check -/
def zTag (t : TagV) : Bool := (decide (t.vat = 0) && decide (t.ent = 0)) && decide (t.seq = 0)
def zVal (p : PairV) : Bool := decide (p.k = 0) && decide (p.n = 0)
def calmB (m : MsgV) : Bool := ((decide (m.answer = 0) && decide (m.name = [])) && decide ((m.args.length : Int) = 0)) && zTag m.tag
def toB (m : MsgV) : Bool := (oneB m.pos && decide (m.answer = 0)) || (oneB m.answer && decide (m.pos = 0))
def callB (m : MsgV) : Bool := ((((((((toB m && oneB m.question) && nameB m.name) && decide ((m.args.length : Int) ≤ 2)) && zVal m.value) && decide (m.count = 0)) && oneB m.tag.vat) && oneB m.tag.seq) && inB m.tag.ent 0 999999)
def msgB (m : MsgV) : Bool :=
  if m.kind = 1 then m.args.all wireB && callB m
  else if m.kind = 2 then (((calmB m && oneB m.question) && wireB m.value) && decide (m.pos = 0)) && decide (m.count = 0)
  else if m.kind = 3 ∨ m.kind = 4 ∨ m.kind = 5 then (((calmB m && oneB m.question) && zVal m.value) && decide (m.pos = 0)) && decide (m.count = 0)
  else if m.kind = 6 then (((calmB m && decide (m.question = 0)) && zVal m.value) && oneB m.pos) && oneB m.count
  else false
theorem d_lenp (l : List PairV) : lenD Tryd.prog 42 (pairsD l) = some (.int l.length) := d_len Tryd.underlying42
theorem c55v {m : Bool} {k n : Int} : Sm m 55 [.val (.agg [.int k, .int n])] (.bool (wireB ⟨k, n⟩)) [] := c55 (p := ⟨k, n⟩)
theorem c63v {m : Bool} {k n : Int} : Sm m 63 [.val (.agg [.int k, .int n])] (.bool (wireB ⟨k, n⟩)) [] := c63 (p := ⟨k, n⟩)
theorem c64v {m : Bool} {a b c : Int} : Sm m 64 [.val (.agg [.int a, .int b, .int c])] (.bool (tagB ⟨a, b, c⟩)) [] := c64 (t := ⟨a, b, c⟩)
theorem d_leqI {P : Program} (t : TypeId) (a b : Int) : binD P .leq t (.int a) (.int b) = some (.bool (decide (a ≤ b))) := d_leq t a b
theorem c30 {b : Bool} {m : MsgV} (ok : m.ok) : Sm b 30 [.val m.d] (.bool (msgB m)) [] := by
  obtain ⟨_, _, _, _, o5, ⟨_, o6⟩, _⟩ := ok
  have o6 : m.args.length ≤ 9223372036854775807 := o6
  have o5 : m.name.length ≤ 9223372036854775807 := o5
  refine V30 ?_
  unfold G30
  simp only [Bnd]
  refine ⟨_, _, _, _, _, _, _, _, _, _, _, _, cells45 _ _ _ _ _ _ _ _ _ _ _ _, _, fill43, _, _, cells43 _ _, _, d_eql _ _ _, ?_⟩
  refine ⟨fun h => h, fun h => h, _, fun _ => d_seql _ _ _, g_tru _, _, pick_and _ _, fun h => h, fun h => h, _, fun _ => d_len Tryd.underlying42, fun h => h, _, fun _ => d_eql _ _ _, g_tru _, _, pick_and _ _, ?_⟩
  refine ⟨fun h => h, _, fun _ => fill25, fun h => h, fun h => h, _, fun _ => ztag _ _ _, g_tru _, _, pick_and _ _, _, d_eql _ _ _, _, rfl, fun h => ?_, fun h => ?_⟩
  · have hk : m.kind = 1 := of_decide_eq_true h
    refine ⟨fun d => ∃ i : Nat, i ≤ m.args.length ∧ (m.args.take i).all wireB = true ∧ ∃ x : D, d = [x, .int i], upM m.args.length 1, ⟨0, by omega, rfl, _, rfl⟩, ?_⟩
    rintro x3 x4 ⟨i, hi, ha, x, e⟩
    cases e
    refine ⟨_, d_len Tryd.underlying42, _, d_lss _ _ _, _, rfl, fun h => ?_, fun h => ?_⟩
    · have hlt : i < m.args.length := by simpa using h
      have hx : m.args[i]? = some m.args[i] := by simp [hlt]
      obtain ⟨k1, k2⟩ := d_at (P := Tryd.prog) Tryd.underlying42 i43 g43 s43 cs2 hx
      refine ⟨_, k1, _, k2, _, c55 (p := m.args[i]), _, d_not _, _, rfl, fun h => ?_, fun h => ?_⟩
      · have hw : wireB m.args[i] = false := by simpa using h
        have : m.args.all wireB = false := by
          rw [Bool.eq_false_iff]
          intro h'
          have := List.all_eq_true.1 h' m.args[i] (List.getElem_mem hlt)
          rw [hw] at this
          cases this
        exact ⟨by rw [msgB, if_pos hk, this]; rfl, trivial⟩
      · have hw : wireB m.args[i] = true := by simpa using h
        refine ⟨_, d_add _ _ _, ?_⟩
        rw [wrap_in (by omega) (by omega)]
        refine ⟨⟨i + 1, hlt, ?_, _, rfl⟩, by simp only [upM, List.getElem?_cons_zero, List.getElem?_cons_succ]; omega⟩
        rw [List.take_add_one, hx, List.all_append, ha]
        simp [hw]
    · have : i = m.args.length := by
        have : ¬ i < m.args.length := by simpa using h
        omega
      subst this
      rw [List.take_length] at ha
      refine ⟨_, c56, ?_⟩
      repeat (first
      | exact ⟨by rw [msgB, if_pos hk, ha]; rfl, trivial⟩
      | with_reducible refine ⟨fun h => h, ?_⟩
      | with_reducible refine ⟨g_tru _, ?_⟩
      | with_reducible refine ⟨g_not _, ?_⟩
      | with_reducible refine ⟨fun h1 h2 => g_andt h1 h2, ?_⟩
      | with_reducible refine ⟨fun h1 h2 => g_andn h1 h2, ?_⟩
      | with_reducible refine ⟨_, fun _ => zval _ _, ?_⟩
      | with_reducible refine ⟨_, fun _ => nval _ _, ?_⟩
      | with_reducible refine ⟨_, fun _ => ztag _ _ _, ?_⟩
      | with_reducible refine ⟨_, fun _ => ntag _ _ _, ?_⟩
      | with_reducible refine ⟨_, fun _ => pick_and _ _, ?_⟩
      | with_reducible refine ⟨_, fun _ => pick_or _ _, ?_⟩
      | with_reducible refine ⟨_, pick_and _ _, ?_⟩
      | with_reducible refine ⟨_, pick_or _ _, ?_⟩
      | with_reducible refine ⟨_, fun _ => d_eql _ _ _, ?_⟩
      | with_reducible refine ⟨_, fun _ => d_neq _ _ _, ?_⟩
      | with_reducible refine ⟨_, fun _ => d_leq _ _ _, ?_⟩
      | with_reducible refine ⟨_, fun _ => d_gtr _ _ _, ?_⟩
      | with_reducible refine ⟨_, fun _ => d_not _, ?_⟩
      | with_reducible refine ⟨_, fun _ => d_seql _ _ _, ?_⟩
      | with_reducible refine ⟨_, fun _ => d_sneq _ _ _, ?_⟩
      | with_reducible refine ⟨_, fun _ => d_lenp _, ?_⟩
      | with_reducible refine ⟨_, fun _ => fill25, ?_⟩
      | with_reducible refine ⟨_, fun _ => fill43, ?_⟩
      | with_reducible refine ⟨_, fun _ => c56, ?_⟩
      | with_reducible refine ⟨_, fun _ => c58, ?_⟩
      | with_reducible refine ⟨_, fun _ => c59, ?_⟩
      | with_reducible refine ⟨_, fun _ => c57 (by omega), ?_⟩
      | with_reducible refine ⟨_, fun _ => c60 (by omega), ?_⟩
      | with_reducible refine ⟨_, fun _ => c55v, ?_⟩
      | with_reducible refine ⟨_, fun _ => c63v, ?_⟩
      | with_reducible refine ⟨_, fun _ => c61 (by omega), ?_⟩
      | with_reducible refine ⟨_, fun _ => c64v, ?_⟩)
  have k1 : ¬ m.kind = 1 := of_decide_eq_false h
  refine ⟨_, d_eql _ _ _, _, rfl, fun h => ?_, fun h => ?_⟩
  · have hk : m.kind = 2 := of_decide_eq_true h
    repeat (first
      | exact ⟨by rw [msgB, if_neg k1, if_pos hk]; rfl, trivial⟩
      | with_reducible refine ⟨fun h => h, ?_⟩
      | with_reducible refine ⟨g_tru _, ?_⟩
      | with_reducible refine ⟨g_not _, ?_⟩
      | with_reducible refine ⟨fun h1 h2 => g_andt h1 h2, ?_⟩
      | with_reducible refine ⟨fun h1 h2 => g_andn h1 h2, ?_⟩
      | with_reducible refine ⟨_, fun _ => zval _ _, ?_⟩
      | with_reducible refine ⟨_, fun _ => nval _ _, ?_⟩
      | with_reducible refine ⟨_, fun _ => ztag _ _ _, ?_⟩
      | with_reducible refine ⟨_, fun _ => ntag _ _ _, ?_⟩
      | with_reducible refine ⟨_, fun _ => pick_and _ _, ?_⟩
      | with_reducible refine ⟨_, fun _ => pick_or _ _, ?_⟩
      | with_reducible refine ⟨_, pick_and _ _, ?_⟩
      | with_reducible refine ⟨_, pick_or _ _, ?_⟩
      | with_reducible refine ⟨_, fun _ => d_eql _ _ _, ?_⟩
      | with_reducible refine ⟨_, fun _ => d_neq _ _ _, ?_⟩
      | with_reducible refine ⟨_, fun _ => d_leq _ _ _, ?_⟩
      | with_reducible refine ⟨_, fun _ => d_gtr _ _ _, ?_⟩
      | with_reducible refine ⟨_, fun _ => d_not _, ?_⟩
      | with_reducible refine ⟨_, fun _ => d_seql _ _ _, ?_⟩
      | with_reducible refine ⟨_, fun _ => d_sneq _ _ _, ?_⟩
      | with_reducible refine ⟨_, fun _ => d_lenp _, ?_⟩
      | with_reducible refine ⟨_, fun _ => fill25, ?_⟩
      | with_reducible refine ⟨_, fun _ => fill43, ?_⟩
      | with_reducible refine ⟨_, fun _ => c56, ?_⟩
      | with_reducible refine ⟨_, fun _ => c58, ?_⟩
      | with_reducible refine ⟨_, fun _ => c59, ?_⟩
      | with_reducible refine ⟨_, fun _ => c57 (by omega), ?_⟩
      | with_reducible refine ⟨_, fun _ => c60 (by omega), ?_⟩
      | with_reducible refine ⟨_, fun _ => c55v, ?_⟩
      | with_reducible refine ⟨_, fun _ => c63v, ?_⟩
      | with_reducible refine ⟨_, fun _ => c61 (by omega), ?_⟩
      | with_reducible refine ⟨_, fun _ => c64v, ?_⟩)
  have k2 : ¬ m.kind = 2 := of_decide_eq_false h
  refine ⟨fun l => l = [.bool (decide (m.kind = 3 ∨ m.kind = 4 ∨ m.kind = 5))], ⟨_, d_eql _ _ _, _, rfl, fun h => ?_, fun h => ⟨_, d_eql _ _ _, _, rfl, fun h1 => ?_, fun h1 => ⟨_, d_eql _ _ _, ?_⟩⟩⟩, ?_⟩
  · have hk : m.kind = 3 := of_decide_eq_true h
    show [D.bool _] = [D.bool _]
    simp [hk]
  · have h0 : ¬ m.kind = 3 := of_decide_eq_false h
    have hk : m.kind = 4 := of_decide_eq_true h1
    show [D.bool _] = [D.bool _]
    simp [hk]
  · have h0 : ¬ m.kind = 3 := of_decide_eq_false h
    have h4 : ¬ m.kind = 4 := of_decide_eq_false h1
    show [D.bool _] = [D.bool _]
    simp [h0, h4]
  rintro x143 e
  cases e
  refine ⟨_, rfl, fun h => ?_, fun h => ?_⟩
  · have hk : m.kind = 3 ∨ m.kind = 4 ∨ m.kind = 5 := of_decide_eq_true h
    repeat (first
      | exact ⟨by rw [msgB, if_neg k1, if_neg k2, if_pos hk]; rfl, trivial⟩
      | with_reducible refine ⟨fun h => h, ?_⟩
      | with_reducible refine ⟨g_tru _, ?_⟩
      | with_reducible refine ⟨g_not _, ?_⟩
      | with_reducible refine ⟨fun h1 h2 => g_andt h1 h2, ?_⟩
      | with_reducible refine ⟨fun h1 h2 => g_andn h1 h2, ?_⟩
      | with_reducible refine ⟨_, fun _ => zval _ _, ?_⟩
      | with_reducible refine ⟨_, fun _ => nval _ _, ?_⟩
      | with_reducible refine ⟨_, fun _ => ztag _ _ _, ?_⟩
      | with_reducible refine ⟨_, fun _ => ntag _ _ _, ?_⟩
      | with_reducible refine ⟨_, fun _ => pick_and _ _, ?_⟩
      | with_reducible refine ⟨_, fun _ => pick_or _ _, ?_⟩
      | with_reducible refine ⟨_, pick_and _ _, ?_⟩
      | with_reducible refine ⟨_, pick_or _ _, ?_⟩
      | with_reducible refine ⟨_, fun _ => d_eql _ _ _, ?_⟩
      | with_reducible refine ⟨_, fun _ => d_neq _ _ _, ?_⟩
      | with_reducible refine ⟨_, fun _ => d_leq _ _ _, ?_⟩
      | with_reducible refine ⟨_, fun _ => d_gtr _ _ _, ?_⟩
      | with_reducible refine ⟨_, fun _ => d_not _, ?_⟩
      | with_reducible refine ⟨_, fun _ => d_seql _ _ _, ?_⟩
      | with_reducible refine ⟨_, fun _ => d_sneq _ _ _, ?_⟩
      | with_reducible refine ⟨_, fun _ => d_lenp _, ?_⟩
      | with_reducible refine ⟨_, fun _ => fill25, ?_⟩
      | with_reducible refine ⟨_, fun _ => fill43, ?_⟩
      | with_reducible refine ⟨_, fun _ => c56, ?_⟩
      | with_reducible refine ⟨_, fun _ => c58, ?_⟩
      | with_reducible refine ⟨_, fun _ => c59, ?_⟩
      | with_reducible refine ⟨_, fun _ => c57 (by omega), ?_⟩
      | with_reducible refine ⟨_, fun _ => c60 (by omega), ?_⟩
      | with_reducible refine ⟨_, fun _ => c55v, ?_⟩
      | with_reducible refine ⟨_, fun _ => c63v, ?_⟩
      | with_reducible refine ⟨_, fun _ => c61 (by omega), ?_⟩
      | with_reducible refine ⟨_, fun _ => c64v, ?_⟩)
  have k3 : ¬ (m.kind = 3 ∨ m.kind = 4 ∨ m.kind = 5) := of_decide_eq_false h
  refine ⟨_, d_eql _ _ _, _, rfl, fun h => ?_, fun h => ?_⟩
  · have hk : m.kind = 6 := of_decide_eq_true h
    repeat (first
      | exact ⟨by rw [msgB, if_neg k1, if_neg k2, if_neg k3, if_pos hk]; rfl, trivial⟩
      | with_reducible refine ⟨fun h => h, ?_⟩
      | with_reducible refine ⟨g_tru _, ?_⟩
      | with_reducible refine ⟨g_not _, ?_⟩
      | with_reducible refine ⟨fun h1 h2 => g_andt h1 h2, ?_⟩
      | with_reducible refine ⟨fun h1 h2 => g_andn h1 h2, ?_⟩
      | with_reducible refine ⟨_, fun _ => zval _ _, ?_⟩
      | with_reducible refine ⟨_, fun _ => nval _ _, ?_⟩
      | with_reducible refine ⟨_, fun _ => ztag _ _ _, ?_⟩
      | with_reducible refine ⟨_, fun _ => ntag _ _ _, ?_⟩
      | with_reducible refine ⟨_, fun _ => pick_and _ _, ?_⟩
      | with_reducible refine ⟨_, fun _ => pick_or _ _, ?_⟩
      | with_reducible refine ⟨_, pick_and _ _, ?_⟩
      | with_reducible refine ⟨_, pick_or _ _, ?_⟩
      | with_reducible refine ⟨_, fun _ => d_eql _ _ _, ?_⟩
      | with_reducible refine ⟨_, fun _ => d_neq _ _ _, ?_⟩
      | with_reducible refine ⟨_, fun _ => d_leq _ _ _, ?_⟩
      | with_reducible refine ⟨_, fun _ => d_gtr _ _ _, ?_⟩
      | with_reducible refine ⟨_, fun _ => d_not _, ?_⟩
      | with_reducible refine ⟨_, fun _ => d_seql _ _ _, ?_⟩
      | with_reducible refine ⟨_, fun _ => d_sneq _ _ _, ?_⟩
      | with_reducible refine ⟨_, fun _ => d_lenp _, ?_⟩
      | with_reducible refine ⟨_, fun _ => fill25, ?_⟩
      | with_reducible refine ⟨_, fun _ => fill43, ?_⟩
      | with_reducible refine ⟨_, fun _ => c56, ?_⟩
      | with_reducible refine ⟨_, fun _ => c58, ?_⟩
      | with_reducible refine ⟨_, fun _ => c59, ?_⟩
      | with_reducible refine ⟨_, fun _ => c57 (by omega), ?_⟩
      | with_reducible refine ⟨_, fun _ => c60 (by omega), ?_⟩
      | with_reducible refine ⟨_, fun _ => c55v, ?_⟩
      | with_reducible refine ⟨_, fun _ => c63v, ?_⟩
      | with_reducible refine ⟨_, fun _ => c61 (by omega), ?_⟩
      | with_reducible refine ⟨_, fun _ => c64v, ?_⟩)
  · have k6 : ¬ m.kind = 6 := of_decide_eq_false h
    exact ⟨by rw [msgB, if_neg k1, if_neg k2, if_neg k3, if_neg k6], trivial⟩
set_option maxRecDepth 100000 in
theorem c35 {b : Bool} {m : MsgV} (ok : m.ok) : Sm b 35 [.val m.d] (.bool (msgB m)) [] := by
  obtain ⟨_, _, _, _, o5, ⟨_, o6⟩, _⟩ := ok
  have o6 : m.args.length ≤ 9223372036854775807 := o6
  have o5 : m.name.length ≤ 9223372036854775807 := o5
  refine V35 ?_
  unfold G35
  simp only [Bnd]
  refine ⟨_, _, _, _, _, _, _, _, _, _, _, _, cells45 _ _ _ _ _ _ _ _ _ _ _ _, ?_⟩
  repeat (first
      | with_reducible refine ⟨_, d_not _, ?_⟩
      | with_reducible refine ⟨_, d_eql _ _ _, ?_⟩
      | with_reducible refine ⟨_, d_neq _ _ _, ?_⟩
      | with_reducible refine ⟨_, c59, ?_⟩
      | with_reducible refine ⟨fun h => h, ?_⟩
      | with_reducible refine ⟨g_tru _, ?_⟩
      | with_reducible refine ⟨g_not _, ?_⟩
      | with_reducible refine ⟨fun h1 h2 => g_andt h1 h2, ?_⟩
      | with_reducible refine ⟨fun h1 h2 => g_andn h1 h2, ?_⟩
      | with_reducible refine ⟨_, fun _ => zval _ _, ?_⟩
      | with_reducible refine ⟨_, fun _ => nval _ _, ?_⟩
      | with_reducible refine ⟨_, fun _ => ztag _ _ _, ?_⟩
      | with_reducible refine ⟨_, fun _ => ntag _ _ _, ?_⟩
      | with_reducible refine ⟨_, fun _ => pick_and _ _, ?_⟩
      | with_reducible refine ⟨_, fun _ => pick_or _ _, ?_⟩
      | with_reducible refine ⟨_, pick_and _ _, ?_⟩
      | with_reducible refine ⟨_, pick_or _ _, ?_⟩
      | with_reducible refine ⟨_, fun _ => d_eql _ _ _, ?_⟩
      | with_reducible refine ⟨_, fun _ => d_neq _ _ _, ?_⟩
      | with_reducible refine ⟨_, fun _ => d_leq _ _ _, ?_⟩
      | with_reducible refine ⟨_, fun _ => d_gtr _ _ _, ?_⟩
      | with_reducible refine ⟨_, fun _ => d_not _, ?_⟩
      | with_reducible refine ⟨_, fun _ => d_seql _ _ _, ?_⟩
      | with_reducible refine ⟨_, fun _ => d_sneq _ _ _, ?_⟩
      | with_reducible refine ⟨_, fun _ => d_lenp _, ?_⟩
      | with_reducible refine ⟨_, fun _ => fill25, ?_⟩
      | with_reducible refine ⟨_, fun _ => fill43, ?_⟩
      | with_reducible refine ⟨_, fun _ => c56, ?_⟩
      | with_reducible refine ⟨_, fun _ => c58, ?_⟩
      | with_reducible refine ⟨_, fun _ => c59, ?_⟩
      | with_reducible refine ⟨_, fun _ => c57 (by omega), ?_⟩
      | with_reducible refine ⟨_, fun _ => c60 (by omega), ?_⟩
      | with_reducible refine ⟨_, fun _ => c55v, ?_⟩
      | with_reducible refine ⟨_, fun _ => c63v, ?_⟩
      | with_reducible refine ⟨_, fun _ => c61 (by omega), ?_⟩
      | with_reducible refine ⟨_, fun _ => c64v, ?_⟩)
  refine ⟨_, rfl, fun h => ?_, fun h => ?_⟩
  · refine ⟨congrArg D.bool (Eq.symm ?_), trivial⟩
    grind [msgB, calmB, callB, toB, zTag, zVal, tagB]
  repeat (first
      | with_reducible refine ⟨_, d_not _, ?_⟩
      | with_reducible refine ⟨_, d_eql _ _ _, ?_⟩
      | with_reducible refine ⟨_, d_neq _ _ _, ?_⟩
      | with_reducible refine ⟨_, c59, ?_⟩
      | with_reducible refine ⟨fun h => h, ?_⟩
      | with_reducible refine ⟨g_tru _, ?_⟩
      | with_reducible refine ⟨g_not _, ?_⟩
      | with_reducible refine ⟨fun h1 h2 => g_andt h1 h2, ?_⟩
      | with_reducible refine ⟨fun h1 h2 => g_andn h1 h2, ?_⟩
      | with_reducible refine ⟨_, fun _ => zval _ _, ?_⟩
      | with_reducible refine ⟨_, fun _ => nval _ _, ?_⟩
      | with_reducible refine ⟨_, fun _ => ztag _ _ _, ?_⟩
      | with_reducible refine ⟨_, fun _ => ntag _ _ _, ?_⟩
      | with_reducible refine ⟨_, fun _ => pick_and _ _, ?_⟩
      | with_reducible refine ⟨_, fun _ => pick_or _ _, ?_⟩
      | with_reducible refine ⟨_, pick_and _ _, ?_⟩
      | with_reducible refine ⟨_, pick_or _ _, ?_⟩
      | with_reducible refine ⟨_, fun _ => d_eql _ _ _, ?_⟩
      | with_reducible refine ⟨_, fun _ => d_neq _ _ _, ?_⟩
      | with_reducible refine ⟨_, fun _ => d_leq _ _ _, ?_⟩
      | with_reducible refine ⟨_, fun _ => d_gtr _ _ _, ?_⟩
      | with_reducible refine ⟨_, fun _ => d_not _, ?_⟩
      | with_reducible refine ⟨_, fun _ => d_seql _ _ _, ?_⟩
      | with_reducible refine ⟨_, fun _ => d_sneq _ _ _, ?_⟩
      | with_reducible refine ⟨_, fun _ => d_lenp _, ?_⟩
      | with_reducible refine ⟨_, fun _ => fill25, ?_⟩
      | with_reducible refine ⟨_, fun _ => fill43, ?_⟩
      | with_reducible refine ⟨_, fun _ => c56, ?_⟩
      | with_reducible refine ⟨_, fun _ => c58, ?_⟩
      | with_reducible refine ⟨_, fun _ => c59, ?_⟩
      | with_reducible refine ⟨_, fun _ => c57 (by omega), ?_⟩
      | with_reducible refine ⟨_, fun _ => c60 (by omega), ?_⟩
      | with_reducible refine ⟨_, fun _ => c55v, ?_⟩
      | with_reducible refine ⟨_, fun _ => c63v, ?_⟩
      | with_reducible refine ⟨_, fun _ => c61 (by omega), ?_⟩
      | with_reducible refine ⟨_, fun _ => c64v, ?_⟩)
  refine ⟨_, rfl, fun g => ?_, fun g => ?_⟩
  · refine ⟨congrArg D.bool (Eq.symm ?_), trivial⟩
    grind [msgB, calmB, callB, toB, zTag, zVal, tagB]
  refine ⟨_, d_eql _ _ _, _, rfl, fun h => ?_, fun h => ?_⟩
  · have hk : m.kind = 1 := of_decide_eq_true h
    repeat (first
      | with_reducible refine ⟨_, d_not _, ?_⟩
      | with_reducible refine ⟨_, d_eql _ _ _, ?_⟩
      | with_reducible refine ⟨_, d_neq _ _ _, ?_⟩
      | with_reducible refine ⟨_, c59, ?_⟩
      | with_reducible refine ⟨fun h => h, ?_⟩
      | with_reducible refine ⟨g_tru _, ?_⟩
      | with_reducible refine ⟨g_not _, ?_⟩
      | with_reducible refine ⟨fun h1 h2 => g_andt h1 h2, ?_⟩
      | with_reducible refine ⟨fun h1 h2 => g_andn h1 h2, ?_⟩
      | with_reducible refine ⟨_, fun _ => zval _ _, ?_⟩
      | with_reducible refine ⟨_, fun _ => nval _ _, ?_⟩
      | with_reducible refine ⟨_, fun _ => ztag _ _ _, ?_⟩
      | with_reducible refine ⟨_, fun _ => ntag _ _ _, ?_⟩
      | with_reducible refine ⟨_, fun _ => pick_and _ _, ?_⟩
      | with_reducible refine ⟨_, fun _ => pick_or _ _, ?_⟩
      | with_reducible refine ⟨_, pick_and _ _, ?_⟩
      | with_reducible refine ⟨_, pick_or _ _, ?_⟩
      | with_reducible refine ⟨_, fun _ => d_eql _ _ _, ?_⟩
      | with_reducible refine ⟨_, fun _ => d_neq _ _ _, ?_⟩
      | with_reducible refine ⟨_, fun _ => d_leq _ _ _, ?_⟩
      | with_reducible refine ⟨_, fun _ => d_gtr _ _ _, ?_⟩
      | with_reducible refine ⟨_, fun _ => d_not _, ?_⟩
      | with_reducible refine ⟨_, fun _ => d_seql _ _ _, ?_⟩
      | with_reducible refine ⟨_, fun _ => d_sneq _ _ _, ?_⟩
      | with_reducible refine ⟨_, fun _ => d_lenp _, ?_⟩
      | with_reducible refine ⟨_, fun _ => fill25, ?_⟩
      | with_reducible refine ⟨_, fun _ => fill43, ?_⟩
      | with_reducible refine ⟨_, fun _ => c56, ?_⟩
      | with_reducible refine ⟨_, fun _ => c58, ?_⟩
      | with_reducible refine ⟨_, fun _ => c59, ?_⟩
      | with_reducible refine ⟨_, fun _ => c57 (by omega), ?_⟩
      | with_reducible refine ⟨_, fun _ => c60 (by omega), ?_⟩
      | with_reducible refine ⟨_, fun _ => c55v, ?_⟩
      | with_reducible refine ⟨_, fun _ => c63v, ?_⟩
      | with_reducible refine ⟨_, fun _ => c61 (by omega), ?_⟩
      | with_reducible refine ⟨_, fun _ => c64v, ?_⟩)
    refine ⟨congrArg D.bool ?_, trivial⟩
    grind [msgB, calmB, callB, toB, zTag, zVal, tagB]
  have k1 : ¬ m.kind = 1 := of_decide_eq_false h
  refine ⟨_, d_eql _ _ _, _, rfl, fun h => ?_, fun h => ?_⟩
  · have hk : m.kind = 2 := of_decide_eq_true h
    repeat (first
      | with_reducible refine ⟨_, d_not _, ?_⟩
      | with_reducible refine ⟨_, d_eql _ _ _, ?_⟩
      | with_reducible refine ⟨_, d_neq _ _ _, ?_⟩
      | with_reducible refine ⟨_, c59, ?_⟩
      | with_reducible refine ⟨fun h => h, ?_⟩
      | with_reducible refine ⟨g_tru _, ?_⟩
      | with_reducible refine ⟨g_not _, ?_⟩
      | with_reducible refine ⟨fun h1 h2 => g_andt h1 h2, ?_⟩
      | with_reducible refine ⟨fun h1 h2 => g_andn h1 h2, ?_⟩
      | with_reducible refine ⟨_, fun _ => zval _ _, ?_⟩
      | with_reducible refine ⟨_, fun _ => nval _ _, ?_⟩
      | with_reducible refine ⟨_, fun _ => ztag _ _ _, ?_⟩
      | with_reducible refine ⟨_, fun _ => ntag _ _ _, ?_⟩
      | with_reducible refine ⟨_, fun _ => pick_and _ _, ?_⟩
      | with_reducible refine ⟨_, fun _ => pick_or _ _, ?_⟩
      | with_reducible refine ⟨_, pick_and _ _, ?_⟩
      | with_reducible refine ⟨_, pick_or _ _, ?_⟩
      | with_reducible refine ⟨_, fun _ => d_eql _ _ _, ?_⟩
      | with_reducible refine ⟨_, fun _ => d_neq _ _ _, ?_⟩
      | with_reducible refine ⟨_, fun _ => d_leq _ _ _, ?_⟩
      | with_reducible refine ⟨_, fun _ => d_gtr _ _ _, ?_⟩
      | with_reducible refine ⟨_, fun _ => d_not _, ?_⟩
      | with_reducible refine ⟨_, fun _ => d_seql _ _ _, ?_⟩
      | with_reducible refine ⟨_, fun _ => d_sneq _ _ _, ?_⟩
      | with_reducible refine ⟨_, fun _ => d_lenp _, ?_⟩
      | with_reducible refine ⟨_, fun _ => fill25, ?_⟩
      | with_reducible refine ⟨_, fun _ => fill43, ?_⟩
      | with_reducible refine ⟨_, fun _ => c56, ?_⟩
      | with_reducible refine ⟨_, fun _ => c58, ?_⟩
      | with_reducible refine ⟨_, fun _ => c59, ?_⟩
      | with_reducible refine ⟨_, fun _ => c57 (by omega), ?_⟩
      | with_reducible refine ⟨_, fun _ => c60 (by omega), ?_⟩
      | with_reducible refine ⟨_, fun _ => c55v, ?_⟩
      | with_reducible refine ⟨_, fun _ => c63v, ?_⟩
      | with_reducible refine ⟨_, fun _ => c61 (by omega), ?_⟩
      | with_reducible refine ⟨_, fun _ => c64v, ?_⟩)
    refine ⟨congrArg D.bool ?_, trivial⟩
    change (oneB m.question && wireB m.value) = msgB m
    have n6 : ¬ m.kind = 6 := by omega
    grind [msgB, calmB, callB, toB, zTag, zVal, tagB]
  have k2 : ¬ m.kind = 2 := of_decide_eq_false h
  refine ⟨fun l => l = [.bool (decide (m.kind = 3 ∨ m.kind = 4 ∨ m.kind = 5))], ⟨_, d_eql _ _ _, _, rfl, fun h => ?_, fun h => ⟨_, d_eql _ _ _, _, rfl, fun h1 => ?_, fun h1 => ⟨_, d_eql _ _ _, ?_⟩⟩⟩, ?_⟩
  · have hk : m.kind = 3 := of_decide_eq_true h
    show [D.bool _] = [D.bool _]
    simp [hk]
  · have h0 : ¬ m.kind = 3 := of_decide_eq_false h
    have hk : m.kind = 4 := of_decide_eq_true h1
    show [D.bool _] = [D.bool _]
    simp [hk]
  · have h0 : ¬ m.kind = 3 := of_decide_eq_false h
    have h4 : ¬ m.kind = 4 := of_decide_eq_false h1
    show [D.bool _] = [D.bool _]
    simp [h0, h4]
  rintro x143 e
  cases e
  refine ⟨_, rfl, fun h => ?_, fun h => ?_⟩
  · have hk : m.kind = 3 ∨ m.kind = 4 ∨ m.kind = 5 := of_decide_eq_true h
    refine ⟨_, c59, ?_⟩
    refine ⟨congrArg D.bool ?_, trivial⟩
    have n6 : ¬ m.kind = 6 := by omega
    have n2 : ¬ m.kind = 2 := by omega
    grind [msgB, calmB, callB, toB, zTag, zVal, tagB]
  have k3 : ¬ (m.kind = 3 ∨ m.kind = 4 ∨ m.kind = 5) := of_decide_eq_false h
  refine ⟨_, d_eql _ _ _, _, rfl, fun h => ?_, fun h => ?_⟩
  · have hk : m.kind = 6 := of_decide_eq_true h
    repeat (first
      | with_reducible refine ⟨_, d_not _, ?_⟩
      | with_reducible refine ⟨_, d_eql _ _ _, ?_⟩
      | with_reducible refine ⟨_, d_neq _ _ _, ?_⟩
      | with_reducible refine ⟨_, c59, ?_⟩
      | with_reducible refine ⟨fun h => h, ?_⟩
      | with_reducible refine ⟨g_tru _, ?_⟩
      | with_reducible refine ⟨g_not _, ?_⟩
      | with_reducible refine ⟨fun h1 h2 => g_andt h1 h2, ?_⟩
      | with_reducible refine ⟨fun h1 h2 => g_andn h1 h2, ?_⟩
      | with_reducible refine ⟨_, fun _ => zval _ _, ?_⟩
      | with_reducible refine ⟨_, fun _ => nval _ _, ?_⟩
      | with_reducible refine ⟨_, fun _ => ztag _ _ _, ?_⟩
      | with_reducible refine ⟨_, fun _ => ntag _ _ _, ?_⟩
      | with_reducible refine ⟨_, fun _ => pick_and _ _, ?_⟩
      | with_reducible refine ⟨_, fun _ => pick_or _ _, ?_⟩
      | with_reducible refine ⟨_, pick_and _ _, ?_⟩
      | with_reducible refine ⟨_, pick_or _ _, ?_⟩
      | with_reducible refine ⟨_, fun _ => d_eql _ _ _, ?_⟩
      | with_reducible refine ⟨_, fun _ => d_neq _ _ _, ?_⟩
      | with_reducible refine ⟨_, fun _ => d_leq _ _ _, ?_⟩
      | with_reducible refine ⟨_, fun _ => d_gtr _ _ _, ?_⟩
      | with_reducible refine ⟨_, fun _ => d_not _, ?_⟩
      | with_reducible refine ⟨_, fun _ => d_seql _ _ _, ?_⟩
      | with_reducible refine ⟨_, fun _ => d_sneq _ _ _, ?_⟩
      | with_reducible refine ⟨_, fun _ => d_lenp _, ?_⟩
      | with_reducible refine ⟨_, fun _ => fill25, ?_⟩
      | with_reducible refine ⟨_, fun _ => fill43, ?_⟩
      | with_reducible refine ⟨_, fun _ => c56, ?_⟩
      | with_reducible refine ⟨_, fun _ => c58, ?_⟩
      | with_reducible refine ⟨_, fun _ => c59, ?_⟩
      | with_reducible refine ⟨_, fun _ => c57 (by omega), ?_⟩
      | with_reducible refine ⟨_, fun _ => c60 (by omega), ?_⟩
      | with_reducible refine ⟨_, fun _ => c55v, ?_⟩
      | with_reducible refine ⟨_, fun _ => c63v, ?_⟩
      | with_reducible refine ⟨_, fun _ => c61 (by omega), ?_⟩
      | with_reducible refine ⟨_, fun _ => c64v, ?_⟩)
    refine ⟨congrArg D.bool ?_, trivial⟩
    grind [msgB, calmB, callB, toB, zTag, zVal, tagB]
  · have k6 : ¬ m.kind = 6 := of_decide_eq_false h
    exact ⟨by rw [msgB, if_neg k1, if_neg k2, if_neg k3, if_neg k6], trivial⟩
end Go.Proofs.YtlihmncbhaimkaaDoor.Am
/- What the functions of FormatMessage do. -/
namespace Go.Proofs.YtlihmncbhaimkaaDoor.Am
open Go Go.RowKit
set_option linter.unusedVariables false

/-! ### The names of the kinds -/
def nameT (k : Int) : List UInt8 := if inB k 1 6 = true then namesL.getD k.toNat [] else []
theorem in_cases {k : Int} (h : inB k 1 6 = true) : k = 1 ∨ k = 2 ∨ k = 3 ∨ k = 4 ∨ k = 5 ∨ k = 6 := by
  simp [inB] at h
  omega
theorem nameT_le (k : Int) : (nameT k).length ≤ 7 := by
  unfold nameT
  split
  · rename_i h
    rcases in_cases h with rfl | rfl | rfl | rfl | rfl | rfl <;> decide
  · simp
theorem lit7 : litS Tryd.prog 91 7 [(0, .str []), (1, .str [99, 97, 108, 108]), (2, .str [114, 101, 116, 117, 114, 110]), (3, .str [101, 99, 104, 111]), (4, .str [101, 99, 104, 111, 101, 100]), (5, .str [102, 105, 110, 105, 115, 104]), (6, .str [114, 101, 108, 101, 97, 115, 101])] = some (7, namesL.map D.str) := by kernel_rfl
theorem i9 : (Tryd.prog.info? 9).isSome = true := by kernel_rfl
theorem g9 : aggT Tryd.prog 9 = some false := by kernel_rfl
theorem s9 : sz Tryd.prog 9 = 1 := by kernel_rfl
theorem c31 {m : Bool} {k : Int} : Sm m 31 [.val (.int k)] (.str (nameT k)) [] := by
  refine V31 ?_
  unfold G31
  refine ⟨_, c58, _, d_not _, _, rfl, fun h => ?_, fun h => ?_⟩
  · have h : inB k 1 6 = false := by simpa using h
    exact ⟨by rw [nameT, h]; rfl, rfl⟩
  · have h : inB k 1 6 = true := by simpa using h
    refine ⟨_, _, lit7, ?_⟩
    have hk : ∃ n : Nat, k = n ∧ n < 7 := by
      rcases in_cases h with rfl | rfl | rfl | rfl | rfl | rfl
      · exact ⟨1, rfl, by omega⟩
      · exact ⟨2, rfl, by omega⟩
      · exact ⟨3, rfl, by omega⟩
      · exact ⟨4, rfl, by omega⟩
      · exact ⟨5, rfl, by omega⟩
      · exact ⟨6, rfl, by omega⟩
    obtain ⟨n, rfl, hn⟩ := hk
    refine ⟨_, d_elem Tryd.underlying91 i9 s9 hn, ?_⟩
    have hl : n < namesL.length := hn
    have hg : (namesL.map D.str)[n * 1]? = some (.str namesL[n]) := by rw [Nat.mul_one]; simp [hl]
    refine ⟨.str namesL[n], by simp only [partD, g9, hg], ?_, rfl⟩
    rw [nameT, if_pos h]
    show D.str namesL[n] = D.str (namesL.getD ((n : Int).toNat) [])
    rw [show ((n : Int).toNat) = n by omega, List.getD_eq_getElem?_getD, show namesL[n]? = some namesL[n] by simp [hl]]
    rfl
def F36 (C : Oracle) (a0 : Value) (h : Heap) (Q : Value → Heap → Prop) : Prop :=
  Res (C 65 [a0, (Value.int IntKind.i64 1), (Value.int IntKind.i64 6)] h) fun x1 h2 =>
  Bnd (unA UnOp.not x1) fun x3 =>
  OnB x3 fun t4 => Br t4 (
  Q (Value.string (ByteArray.mk #[])) h2) (
  Bnd (indexAddrA Tryd.prog 99 (Value.pointer (some ⟨0, 0, none⟩)) a0) fun x5 =>
  Bnd (loadA Tryd.prog 9 h2 x5) fun x6 =>
  Q x6 h2)
theorem E36 (C : Oracle) (a0 : Value) (h : Heap) (Q : Value → Heap → Prop) : fnW Tryd.prog h36 C Tryd.f36 [a0] h Q = F36 C a0 h Q := by kernel_rfl
theorem W36 {a0 : Value} {h : Heap} {Q : Value → Heap → Prop} (w : F36 K a0 h Q) : Res (K 36 [a0] h) Q := call_wp Tryd.func36 rfl (by kernel_rfl) ((E36 K a0 h Q).symm ▸ w : fnW Tryd.prog h36 K Tryd.f36 [a0] h Q)
theorem i9a : (Tryd.prog.info? 9).isSome = true := by kernel_rfl
theorem c36 {k : Int} : Sm true 36 [.val (.int k)] (.str (nameT k)) [] := by
  intro h O vs hu hlt hO a
  cases a with
  | val x v bs vs r rs =>
  cases rs
  cases r with
  | v _ c1 c2 =>
  have hn : h.get 0 = .cells namesV 1 false true := hu.2 rfl
  have h0 : 0 < h.next := hlt 0 (by rw [hn]; rfl)
  refine W36 ?_
  unfold F36
  obtain ⟨w, h', e, t⟩ := (c65 (m := true) (n := k) (lo := 1) (hi := 6)) h O [.int .i64 k, .int .i64 1, .int .i64 6] hu hlt hO (.val _ _ _ _ (.v _ rfl rfl) (.val _ _ _ _ (.v _ rfl rfl) (.val _ _ _ _ (.v _ rfl rfl) .nil)))
  refine ⟨w, h', e, ?_⟩
  have tr := t.res
  cases tr with
  | v _ d1 d2 =>
  have hn' : h'.get 0 = .cells namesV 1 false true := by rw [t.fr 0 h0 (by simp [objNs])]; exact hn
  have fin : ∀ s : List UInt8, Took h O [.val (.int k)] [.int .i64 k] h' (.string ⟨s.toArray⟩) (.str s) [] := fun s => ⟨t.le, fun b hb _ => t.fr b hb (by simp [objNs]), t.lt, .v _ rfl rfl, trivial⟩
  refine ⟨_, rfl, _, rfl, fun hb => ?_, fun hb => ?_⟩
  · have hb : inB k 1 6 = false := by simpa using hb
    have := fin []
    rw [show nameT k = [] by rw [nameT, hb]; rfl]
    exact this
  · have hb : inB k 1 6 = true := by simpa using hb
    have hk : ∃ n : Nat, k = n ∧ n < 7 := by
      rcases in_cases hb with rfl | rfl | rfl | rfl | rfl | rfl
      · exact ⟨1, rfl, by omega⟩
      · exact ⟨2, rfl, by omega⟩
      · exact ⟨3, rfl, by omega⟩
      · exact ⟨4, rfl, by omega⟩
      · exact ⟨5, rfl, by omega⟩
      · exact ⟨6, rfl, by omega⟩
    obtain ⟨n, rfl, hn7⟩ := hk
    have hl : n < namesL.length := hn7
    have e1 : indexAddrA Tryd.prog 99 (.pointer (some ⟨0, 0, none⟩)) (.int .i64 n) = some (.pointer (some ⟨0, 0 + (n : Int).toNat * sz Tryd.prog 9, none⟩)) := by
      simp only [indexAddrA, Tryd.underlying99]
      rw [if_pos ⟨i9a, by omega, by omega⟩]
    rw [s9, Nat.mul_one, Nat.zero_add, show ((n : Int).toNat) = n by omega] at e1
    have e2 : loadA Tryd.prog 9 h' (.pointer (some ⟨0, n, none⟩)) = some (.string ⟨namesL[n].toArray⟩) := by
      simp only [loadA, g9, Option.bind_some, load1, hn', Bool.false_eq_true, if_false]
      unfold namesV
      rw [List.getElem?_map, show namesL[n]? = some namesL[n] by simp [hl]]
      rfl
    refine ⟨_, e1, _, e2, ?_⟩
    rw [show nameT n = namesL[n] by
      rw [nameT, if_pos hb, show ((n : Int).toNat) = n by omega, List.getD_eq_getElem?_getD, show namesL[n]? = some namesL[n] by simp [hl]]
      rfl]
    exact fin _

/-! ### Wires -/
def wireT (p : PairV) : List UInt8 := if p.k = 1 then [43] ++ Lib.itoa p.n else if p.k = 2 then [45] ++ Lib.itoa p.n else if p.k = 3 then [33] else Lib.itoa p.n
theorem wireT_le {p : PairV} (h : p.ok) : (wireT p).length ≤ 22 := by
  have := itoa_le h.2
  unfold wireT
  split
  · simp only [List.length_append, List.length_cons, List.length_nil]; omega
  · split
    · simp only [List.length_append, List.length_cons, List.length_nil]; omega
    · split
      · simp
      · omega
theorem c32 {m : Bool} {p : PairV} (ok : p.ok) : Sm m 32 [.val p.d] (.str (wireT p)) [] := by
  have := itoa_le ok.2
  refine V32 ⟨_, _, cells43 _ _, _, d_eql _ _ _, _, rfl, fun h => ⟨_, c25 ok.2, _, d_sadd _ _ _ (by simp only [List.length_cons, List.length_nil]; omega), ?_, rfl⟩, fun h => ⟨_, d_eql _ _ _, _, rfl, fun h1 => ⟨_, c25 ok.2, _, d_sadd _ _ _ (by simp only [List.length_cons, List.length_nil]; omega), ?_, rfl⟩, fun h1 => ⟨_, d_eql _ _ _, _, rfl, fun h2 => ⟨?_, rfl⟩, fun h2 => ⟨_, c25 ok.2, ?_, rfl⟩⟩⟩⟩
  all_goals simp only [decide_eq_true_eq, decide_eq_false_iff_not] at *
  · rw [wireT, if_pos h]
  · rw [wireT, if_neg h, if_pos h1]
  · rw [wireT, if_neg h, if_neg h1, if_pos h2]
  · rw [wireT, if_neg h, if_neg h1, if_neg h2]
theorem c38 {m : Bool} {p : PairV} (ok : p.ok) : Sm m 38 [.val p.d] (.str (wireT p)) [] := by
  have := itoa_le ok.2
  refine V38 ⟨_, _, cells43 _ _, _, d_eql _ _ _, _, rfl, fun h => ⟨_, c37 ok.2, _, d_sadd _ _ _ (by simp only [List.length_cons, List.length_nil]; omega), ?_, rfl⟩, fun h => ⟨_, d_eql _ _ _, _, rfl, fun h1 => ⟨_, c37 ok.2, _, d_sadd _ _ _ (by simp only [List.length_cons, List.length_nil]; omega), ?_, rfl⟩, fun h1 => ⟨_, d_eql _ _ _, _, rfl, fun h2 => ⟨?_, rfl⟩, fun h2 => ⟨_, c37 ok.2, ?_, rfl⟩⟩⟩⟩
  all_goals simp only [decide_eq_true_eq, decide_eq_false_iff_not] at *
  · rw [wireT, if_pos h]
  · rw [wireT, if_neg h, if_pos h1]
  · rw [wireT, if_neg h, if_neg h1, if_pos h2]
  · rw [wireT, if_neg h, if_neg h1, if_neg h2]

/-! ### Messages -/
def destT (m : MsgV) : List UInt8 := if m.pos = 0 then [63] ++ Lib.itoa m.answer else Lib.itoa m.pos
def headT (m : MsgV) : List UInt8 := nameT m.kind ++ [32]
def msgT (m : MsgV) : List UInt8 :=
  if msgB m = false then [63]
  else if m.kind = 1 then headT m ++ destT m ++ [32] ++ m.name ++ blanks wireT m.args
  else if m.kind = 2 then headT m ++ Lib.itoa m.question ++ [32] ++ wireT m.value
  else if m.kind = 6 then headT m ++ Lib.itoa m.pos ++ [120] ++ Lib.itoa m.count
  else headT m ++ Lib.itoa m.question
theorem headT_le (m : MsgV) : (headT m).length ≤ 8 := by
  have := nameT_le m.kind
  unfold headT
  simp only [List.length_append, List.length_cons, List.length_nil]
  omega
theorem destT_le {m : MsgV} (h1 : InR m.answer) (h2 : InR m.pos) : (destT m).length ≤ 22 := by
  have a1 := itoa_le h1
  have a2 := itoa_le h2
  unfold destT
  split
  · simp only [List.length_append, List.length_cons, List.length_nil]; omega
  · omega
structure MsgV.small (m : MsgV) : Prop where
  name : m.name.length ≤ 1048576
  args : m.args.length ≤ 1048576
theorem c16 {b : Bool} {m : MsgV} (ok : m.ok) (sm : m.small) : Sm b 16 [.val m.d] (.str (msgT m)) [] := by
  have cm := c30 (b := b) ok
  obtain ⟨o1, o2, o3, o4, _, ⟨o6, _⟩, o7, o8, _⟩ := ok
  have l2 := itoa_le o2
  have l3 := itoa_le o3
  have l4 := itoa_le o4
  have l7 := wireT_le o7
  have l8 := itoa_le o8
  have lh := headT_le m
  have ld := destT_le o3 o2
  have ln := nameT_le m.kind
  have sn := sm.name
  have sa := sm.args
  refine V16 ?_
  unfold G16
  refine ⟨_, _, _, _, _, _, _, _, _, _, _, _, cells45 _ _ _ _ _ _ _ _ _ _ _ _, _, cm, _, d_not _, _, rfl, fun h => ?_, fun h => ?_⟩
  · have h : msgB m = false := by simpa using h
    exact ⟨by rw [msgT, if_pos h], rfl⟩
  have hb : ¬ msgB m = false := by
    have : msgB m = true := by simpa using h
    rw [this]
    exact fun h => by cases h
  refine ⟨_, c31, _, d_sadd _ _ _ (by simp only [List.length_cons, List.length_nil]; omega), _, d_eql _ _ _, _, rfl, fun h => ?_, fun h => ?_⟩
  · have hk : m.kind = 1 := of_decide_eq_true h
    refine ⟨fun l => l = [.str (headT m ++ destT m)], ⟨_, d_eql _ _ _, _, rfl, fun h => ⟨_, d_sadd _ _ _ (by simp only [List.length_append, List.length_cons, List.length_nil]; omega), _, c25 o3, _, d_sadd _ _ _ (by simp only [List.length_append, List.length_cons, List.length_nil]; omega), ?_⟩, fun h => ⟨_, c25 o2, _, d_sadd _ _ _ (by simp only [List.length_append, List.length_cons, List.length_nil]; omega), ?_⟩⟩, ?_⟩
    · have h : m.pos = 0 := of_decide_eq_true h
      show [D.str _] = [D.str _]
      rw [destT, if_pos h, headT]
      simp
    · have h : ¬ m.pos = 0 := of_decide_eq_false h
      show [D.str _] = [D.str _]
      rw [destT, if_neg h, headT]
    rintro x28 e
    cases e
    refine ⟨_, d_sadd _ _ _ (by simp only [List.length_append, List.length_cons, List.length_nil]; omega), _, d_sadd _ _ _ (by simp only [List.length_append, List.length_cons, List.length_nil]; omega), ?_⟩
    refine ⟨fun d => ∃ i : Nat, i ≤ m.args.length ∧ d = [.str (headT m ++ destT m ++ [32] ++ m.name ++ blanks wireT (m.args.take i)), .int i], upM m.args.length 1, ⟨0, by omega, by simp [blanks]⟩, ?_⟩
    rintro x33 x34 ⟨i, hi, q⟩
    cases q
    refine ⟨_, d_len Tryd.underlying42, _, d_lss _ _ _, _, rfl, fun h => ?_, fun h => ?_⟩
    · have hlt : i < m.args.length := by simpa using h
      have hx : m.args[i]? = some m.args[i] := by simp [hlt]
      have okx := o6 _ (List.getElem_mem hlt)
      have lx := wireT_le okx
      have lb := blanks_le (f := wireT) (k := 22) (l := m.args.take i) fun x hx => wireT_le (o6 x (List.mem_of_mem_take hx))
      rw [List.length_take, Nat.min_eq_left hi] at lb
      obtain ⟨k1, k2⟩ := d_at (P := Tryd.prog) Tryd.underlying42 i43 g43 s43 cs2 hx
      refine ⟨_, d_sadd _ _ _ (by simp only [List.length_append, List.length_cons, List.length_nil]; omega), _, k1, _, k2, _, c32 okx, _, d_sadd _ _ _ (by simp only [List.length_append, List.length_cons, List.length_nil]; omega), _, d_add _ _ _, ?_⟩
      rw [wrap_in (by omega) (by omega)]
      refine ⟨⟨i + 1, hlt, ?_⟩, by simp only [upM, List.getElem?_cons_zero, List.getElem?_cons_succ]; omega⟩
      rw [blanks_step hx]
      simp only [List.append_assoc]
      rfl
    · have : i = m.args.length := by
        have : ¬ i < m.args.length := by simpa using h
        omega
      subst this
      rw [List.take_length]
      exact ⟨by rw [msgT, if_neg hb, if_pos hk], rfl⟩
  have k1 : ¬ m.kind = 1 := of_decide_eq_false h
  refine ⟨_, d_eql _ _ _, _, rfl, fun h => ⟨_, c25 o4, _, d_sadd _ _ _ (by simp only [List.length_append, List.length_cons, List.length_nil]; omega), _, d_sadd _ _ _ (by simp only [List.length_append, List.length_cons, List.length_nil]; omega), _, c32 (p := m.value) o7, _, d_sadd _ _ _ (by simp only [List.length_append, List.length_cons, List.length_nil]; omega), ?_, rfl⟩, fun h => ⟨_, d_eql _ _ _, _, rfl, fun h6 => ⟨_, c25 o2, _, d_sadd _ _ _ (by simp only [List.length_append, List.length_cons, List.length_nil]; omega), _, d_sadd _ _ _ (by simp only [List.length_append, List.length_cons, List.length_nil]; omega), _, c25 o8, _, d_sadd _ _ _ (by simp only [List.length_append, List.length_cons, List.length_nil]; omega), ?_, rfl⟩, fun h6 => ⟨_, c25 o4, _, d_sadd _ _ _ (by simp only [List.length_append, List.length_cons, List.length_nil]; omega), ?_, rfl⟩⟩⟩
  all_goals simp only [decide_eq_true_eq, decide_eq_false_iff_not] at *
  · rw [msgT, if_neg hb, if_neg k1, if_pos h]; rfl
  · rw [msgT, if_neg hb, if_neg k1, if_neg h, if_pos h6]; rfl
  · rw [msgT, if_neg hb, if_neg k1, if_neg h, if_neg h6]; rfl
theorem c18 {m : MsgV} (ok : m.ok) (sm : m.small) : Sm true 18 [.val m.d] (.str (msgT m)) [] := by
  have cm := c35 (b := true) ok
  obtain ⟨o1, o2, o3, o4, _, ⟨o6, _⟩, o7, o8, _⟩ := ok
  have l2 := itoa_le o2
  have l3 := itoa_le o3
  have l4 := itoa_le o4
  have l7 := wireT_le o7
  have l8 := itoa_le o8
  have lh := headT_le m
  have ld := destT_le o3 o2
  have ln := nameT_le m.kind
  have sn := sm.name
  have sa := sm.args
  refine V18 ?_
  unfold G18
  refine ⟨_, _, _, _, _, _, _, _, _, _, _, _, cells45 _ _ _ _ _ _ _ _ _ _ _ _, _, cm, _, d_not _, _, rfl, fun h => ?_, fun h => ?_⟩
  · have h : msgB m = false := by simpa using h
    exact ⟨by rw [msgT, if_pos h], rfl⟩
  have hb : ¬ msgB m = false := by
    have : msgB m = true := by simpa using h
    rw [this]
    exact fun h => by cases h
  refine ⟨_, c36, _, d_sadd _ _ _ (by simp only [List.length_cons, List.length_nil]; omega), _, d_eql _ _ _, _, rfl, fun h => ?_, fun h => ?_⟩
  · have hk : m.kind = 1 := of_decide_eq_true h
    refine ⟨fun l => l = [.str (headT m ++ destT m)], ⟨_, d_eql _ _ _, _, rfl, fun h => ⟨_, c37 o3, _, d_sadd _ _ _ (by simp only [List.length_cons, List.length_nil]; omega), _, d_sadd _ _ _ (by simp only [List.length_append, List.length_cons, List.length_nil]; omega), ?_⟩, fun h => ⟨_, c37 o2, _, d_sadd _ _ _ (by simp only [List.length_append, List.length_cons, List.length_nil]; omega), ?_⟩⟩, ?_⟩
    · have h : m.pos = 0 := of_decide_eq_true h
      show [D.str _] = [D.str _]
      rw [destT, if_pos h, headT]
    · have h : ¬ m.pos = 0 := of_decide_eq_false h
      show [D.str _] = [D.str _]
      rw [destT, if_neg h, headT]
    rintro x28 e
    cases e
    refine ⟨_, d_sadd _ _ _ (by simp only [List.length_cons, List.length_nil]; omega), _, d_sadd _ _ _ (by simp only [List.length_append, List.length_cons, List.length_nil]; omega), _, d_len Tryd.underlying42, ?_⟩
    refine ⟨fun d => ∃ i : Nat, i ≤ m.args.length ∧ d = [.str (headT m ++ destT m ++ [32] ++ m.name ++ blanks wireT (m.args.take i)), .int i], upM m.args.length 1, ⟨0, by omega, by simp [blanks]⟩, ?_⟩
    rintro x33 x34 ⟨i, hi, q⟩
    cases q
    refine ⟨_, d_lss _ _ _, _, rfl, fun h => ?_, fun h => ?_⟩
    · have hlt : i < m.args.length := by simpa using h
      have hx : m.args[i]? = some m.args[i] := by simp [hlt]
      have okx := o6 _ (List.getElem_mem hlt)
      have lx := wireT_le okx
      have lb := blanks_le (f := wireT) (k := 22) (l := m.args.take i) fun x hx => wireT_le (o6 x (List.mem_of_mem_take hx))
      rw [List.length_take, Nat.min_eq_left hi] at lb
      obtain ⟨k1, k2⟩ := d_at (P := Tryd.prog) Tryd.underlying42 i43 g43 s43 cs2 hx
      refine ⟨_, k1, _, k2, _, _, cells43 _ _, _, c38 okx, _, d_sadd _ _ _ (by simp only [List.length_cons, List.length_nil]; omega), _, d_sadd _ _ _ (by simp only [List.length_append, List.length_cons, List.length_nil]; omega), _, d_add _ _ _, ?_⟩
      rw [wrap_in (by omega) (by omega)]
      refine ⟨⟨i + 1, hlt, ?_⟩, by simp only [upM, List.getElem?_cons_zero, List.getElem?_cons_succ]; omega⟩
      rw [blanks_step hx]
      simp only [List.append_assoc]
      rfl
    · have : i = m.args.length := by
        have : ¬ i < m.args.length := by simpa using h
        omega
      subst this
      rw [List.take_length]
      exact ⟨by rw [msgT, if_neg hb, if_pos hk], rfl⟩
  have k1 : ¬ m.kind = 1 := of_decide_eq_false h
  refine ⟨_, d_eql _ _ _, _, rfl, fun h => ⟨_, c37 o4, _, d_sadd _ _ _ (by simp only [List.length_append, List.length_cons, List.length_nil]; omega), _, d_sadd _ _ _ (by simp only [List.length_append, List.length_cons, List.length_nil]; omega), _, c38 (p := m.value) o7, _, d_sadd _ _ _ (by simp only [List.length_append, List.length_cons, List.length_nil]; omega), ?_, rfl⟩, fun h => ⟨_, d_eql _ _ _, _, rfl, fun h6 => ⟨_, c37 o2, _, d_sadd _ _ _ (by simp only [List.length_append, List.length_cons, List.length_nil]; omega), _, d_sadd _ _ _ (by simp only [List.length_append, List.length_cons, List.length_nil]; omega), _, c37 o8, _, d_sadd _ _ _ (by simp only [List.length_append, List.length_cons, List.length_nil]; omega), ?_, rfl⟩, fun h6 => ⟨_, c37 o4, _, d_sadd _ _ _ (by simp only [List.length_append, List.length_cons, List.length_nil]; omega), ?_, rfl⟩⟩⟩
  all_goals simp only [decide_eq_true_eq, decide_eq_false_iff_not] at *
  · rw [msgT, if_neg hb, if_neg k1, if_pos h]; rfl
  · rw [msgT, if_neg hb, if_neg k1, if_neg h, if_pos h6]; rfl
  · rw [msgT, if_neg hb, if_neg k1, if_neg h, if_neg h6]; rfl
theorem c17 {b : Bool} {m : MsgV} (h : m.args.length ≤ 1048576) : Sm b 17 [.val m.d] m.d [] :=
  V17 ⟨_, _, _, _, _, _, _, _, _, _, _, _, cells39 _ _ _ _ _ _ _ _ _ _ _ _, _, c33 h, _, one_sl _ _ _, _, c34 (p := m.value), _, _, cells43 _ _, _, c8 (t := m.tag), _, _, _, cells25 _ _ _, _, _, _, _, _, _, _, _, _, _, _, _, cells45 _ _ _ _ _ _ _ _ _ _ _ _, rfl, rfl⟩
theorem c19 {b : Bool} {m : MsgV} (h : m.args.length ≤ 1048576) : Sm b 19 [.val m.d, .val m.d] (.bool true) [] :=
  V19 ⟨_, _, _, _, _, _, _, _, _, _, _, _, cells45 _ _ _ _ _ _ _ _ _ _ _ _, _, _, _, _, _, _, _, _, _, _, _, _, cells45 _ _ _ _ _ _ _ _ _ _ _ _, _, d_neq _ _ _, _, rfl, fun h => by simp at h, fun _ => ⟨_, d_neq _ _ _, _, rfl, fun h => by simp at h, fun _ => ⟨_, d_neq _ _ _, _, rfl, fun h => by simp at h, fun _ => ⟨_, d_neq _ _ _, _, rfl, fun h => by simp at h, fun _ => ⟨_, d_sneq _ _ _, _, rfl, fun h => by simp at h, fun _ => ⟨_, c39 h, _, d_not _, _, rfl, fun h => by simp at h, fun _ => ⟨_, c40 (p := m.value), _, d_not _, _, rfl, fun h => by simp at h, fun _ => ⟨_, d_neq _ _ _, _, rfl, fun h => by simp at h, fun _ => ⟨_, c28 (t := m.tag), _, d_not _, _, rfl, fun h => by simp at h, fun _ => ⟨rfl, rfl⟩⟩⟩⟩⟩⟩⟩⟩⟩⟩
theorem c15 {b : Bool} {m : MsgV} (ok : m.ok) : ∃ r : Int, Sm b 15 [.val m.d, .val (.int 1048576)] (.int r) [] ∧ (0 ≤ r → m.small) := by
  obtain ⟨_, _, _, _, o5, ⟨_, o6⟩, _⟩ := ok
  have o6 : m.args.length ≤ 9223372036854775807 := o6
  have o5 : m.name.length ≤ 9223372036854775807 := o5
  by_cases hc : (1048576 : Int) - m.name.length < 0
  · refine ⟨-1, V15 ⟨_, _, _, _, _, _, _, _, _, _, _, _, cells39 _ _ _ _ _ _ _ _ _ _ _ _, _, d_slen 9 Tryd.underlying9 _, _, d_sub _ _ _, ?_⟩, fun h => by omega⟩
    rw [wrap_in (by omega) (by omega)]
    exact ⟨_, d_lss _ _ _, _, rfl, fun _ => ⟨rfl, rfl⟩, fun h => absurd hc (by simpa using h)⟩
  · obtain ⟨r, k1, k2, k3, k4⟩ := c29 (m := b) (z := 2) (n := m.args.length) (ds := m.args.flatMap PairV.cs) (by omega) (left := 1048576 - m.name.length) (by omega) (by omega)
    by_cases hr : r < 0
    · refine ⟨-1, V15 ⟨_, _, _, _, _, _, _, _, _, _, _, _, cells39 _ _ _ _ _ _ _ _ _ _ _ _, _, d_slen 9 Tryd.underlying9 _, _, d_sub _ _ _, ?_⟩, fun h => by omega⟩
      rw [wrap_in (by omega) (by omega)]
      exact ⟨_, d_lss _ _ _, _, rfl, fun h => absurd (of_decide_eq_true h) hc, fun _ => ⟨_, k1, _, d_lss _ _ _, _, rfl, fun _ => ⟨rfl, rfl⟩, fun h => absurd hr (by simpa using h)⟩⟩
    · refine ⟨r, V15 ⟨_, _, _, _, _, _, _, _, _, _, _, _, cells39 _ _ _ _ _ _ _ _ _ _ _ _, _, d_slen 9 Tryd.underlying9 _, _, d_sub _ _ _, ?_⟩, fun h => ⟨by omega, by have := k3 h; omega⟩⟩
      rw [wrap_in (by omega) (by omega)]
      exact ⟨_, d_lss _ _ _, _, rfl, fun h => absurd (of_decide_eq_true h) hc, fun _ => ⟨_, k1, _, d_lss _ _ _, _, rfl, fun h => absurd (of_decide_eq_true h) hr, fun _ => ⟨rfl, rfl⟩⟩⟩
theorem c5 {m : MsgV} (ok : m.ok) : Sm true 5 [.val m.d] (.bool true) [] := by
  obtain ⟨r, k1, k2⟩ := c15 (b := true) ok
  refine V5 ⟨_, _, _, _, _, _, _, _, _, _, _, _, cells39 _ _ _ _ _ _ _ _ _ _ _ _, _, k1, _, d_lss _ _ _, _, rfl, fun h => ⟨rfl, rfl⟩, fun h => ?_⟩
  have sm := k2 (by have : ¬ r < 0 := by simpa using h
                    omega)
  refine ⟨_, c17 sm.args, _, c16 ok sm, _, c17 sm.args, _, _, _, _, _, _, _, _, _, _, _, _, cells45 _ _ _ _ _ _ _ _ _ _ _ _, _, c18 ok sm, _, d_sneq _ _ _, _, rfl, fun h => by simp at h, fun _ => ?_⟩
  exact ⟨_, c17 sm.args, _, c19 sm.args, _, d_not _, _, rfl, fun h => by simp at h, fun _ => ⟨rfl, rfl⟩⟩
end Go.Proofs.YtlihmncbhaimkaaDoor.Am
/- From what a law computes to its call in the model: the tables that are listed, the start. -/
namespace Go.Proofs.YtlihmncbhaimkaaDoor.Am
open Go Go.RowKit Go.ChangeShapes Go.WideShapes Go.ChangeAt
set_option linter.unusedVariables false

theorem own : ownKnob Tryd.prog.godebug = none := by kernel_rfl
theorem laidOut : laidOutB Tryd.prog = true := by kernel_rfl
theorem mixed : Tryd.prog.follows .mixedOrders = true := by kernel_rfl
/-- The package's variables that are read. -/
def glV (m : Bool) (g : Nat) : Option (Nat × List Value) := if g = 2 then some (1, powV) else if g = 0 ∧ m = true then some (1, namesV) else none
/-- What the model's world holds there. -/
def Tabs (m : Bool) (W : World) : Prop := Lib.TabIs Tryd.prog W "internal/strconv.uint64pow10" .u64 Lib.pow10Tab ∧ (m = true → W.var? Tryd.prog "loop.example/g00591/impl.messageNames" = some namesV.toArray)
theorem var_cells {W : World} {name : String} {g : Nat} {vs : Array Value} (hg : Tryd.prog.globalNamed name = some g) (h : W.var? Tryd.prog name = some vs) : ∃ ty fz, W.heap[g]? = some (.cells vs ty fz) := by
  unfold World.var? at h
  rw [hg, Option.bind_some] at h
  split at h
  · rename_i cs ty fz hc
    cases h
    exact ⟨ty, fz, hc⟩
  · cases h
theorem start_ok {m : Bool} {W : World} (h : Tabs m W) : StartOk Tryd.prog W (glV m) [] := by
  refine ⟨fun i x cs hi => by simp at hi, fun g s cs hs hg => ?_⟩
  unfold glV at hg
  split at hg
  · rename_i e
    subst e
    cases hg
    obtain ⟨ty, fz, hc⟩ := var_cells gTab h.1
    refine ⟨_, ty, fz, hc, by simp [powV], fun j v hj => ⟨v, ?_, ?_⟩⟩
    · rw [List.getElem?_toArray]
      exact hj
    · unfold powV at hj
      rw [List.getElem?_map] at hj
      obtain ⟨z, _, rfl⟩ := map_inv hj
      exact .int _ _
  · split at hg
    · rename_i e
      obtain ⟨rfl, hm⟩ := e
      cases hg
      obtain ⟨ty, fz, hc⟩ := var_cells gMsg (h.2 hm)
      refine ⟨_, ty, fz, hc, by simp, fun j v hj => ⟨v, ?_, ?_⟩⟩
      · rw [List.getElem?_toArray]
        exact hj
      · unfold namesV at hj
        rw [List.getElem?_map] at hj
        obtain ⟨z, _, rfl⟩ := map_inv hj
        exact .string _
    · cases hg
theorem lives (m : Bool) : ∃ g s cs, g < Tryd.prog.globals.size ∧ glV m g = some (s, cs) := ⟨2, 1, powV, lTab, rfl⟩
theorem lMsg : 0 < Tryd.prog.globals.size := of_decide_eq_true (by kernel_rfl)
theorem un_start (m : Bool) (bs : List (RB × Option (List Value))) : Un m (startH Tryd.prog (glV m) bs) := ⟨startH_glob lTab rfl, fun hm => startH_glob lMsg (by subst hm; rfl)⟩
/-- A law that comes to 'true' over the data comes to 'true' in the model. -/
theorem law_true {m : Bool} {W : World} {f : FuncId} {v : Value} {d : D} (lay : ∃ bs, StartOk Tryd.prog W (glV m) bs ∧ ∃ u, RV (startR Tryd.prog (glV m) bs) u v ∧ RD (startH Tryd.prog (glV m) bs) noOwn d u) (c : Sm m f [.val d] (.bool true) []) :
    Calls Tryd.prog f #[v] W fun e W' => e = .returned (.bool true) ∧ Below W.heap.size W W' := by
  obtain ⟨bs, s, u, h1, h2⟩ := lay
  refine law_calls (H := Hn) xsound mixed (args := [u]) s (RL.cons h1 (RL.nil _)) ?_
  obtain ⟨w, h', e, t⟩ := c _ noOwn [u] (un_start m bs) start_lt (fun _ h => h.elim) (.val _ _ _ _ h2 .nil)
  refine ⟨w, h', e, ?_⟩
  have := t.res
  cases this
  rfl
theorem tTab : (Tryd.prog.globals[2]?).map (·.type) = some 135 := by kernel_rfl
/-- The tables that the rows list. -/
theorem tabs_of3 {W : World} (h : laidMet Tryd.prog [("math/bits.deBruijn32tab", Rows.laid_math_bits_deBruijn32tab), ("math/bits.deBruijn64tab", Rows.laid_math_bits_deBruijn64tab), ("internal/strconv.uint64pow10", Rows.laid_internal_strconv_uint64pow10)] W) : Tabs false W :=
  ⟨Lib.tabIs_of_head (n := 20) (k := .u64) (zs := Lib.pow10Tab) gTab tTab Tryd.underlying135 Tryd.underlying128 (by kernel_rfl) (by kernel_rfl) h.tail.tail, fun h => by cases h⟩
/-- An array of texts that reads as listed holds these texts. -/
theorem cells_of_names {H : Type} {enc : TypeId × Value → H} {P : Program} {w : World} {base : Nat} {sp : Nat → Bool} {held : Bool} {fuel : Nat} {t e : TypeId} {n : Nat} {cs : List Value} {ss : List (List UInt8)} {p : List MemPlace}
    (ht : P.underlying t = some (.array n e)) (he : P.underlying e = some .string) (hce : P.cellsOf e = 1) (hct : P.cellsOf t = n)
    (h : DataW.trod enc P w base sp held fuel t cs = some (.agg (ss.map fun s => .lit (.string s)), p)) : cs = ss.map fun s => Value.string ⟨s.toArray⟩ := by
  cases fuel with
  | zero => simp [DataW.trod] at h
  | succ fuel =>
    simp only [DataW.trod, ht, hce, hct, Nat.mul_one] at h
    split at h
    · rename_i hl
      obtain ⟨xs, hm, hx⟩ := Option.map_eq_some_iff.1 h
      have hxs : xs.map (·.1) = ss.map fun s => (DataW.lit (.string s) : DataW H) := by
        have := congrArg Prod.fst hx
        simpa using this
      have hxl : xs.length = n := by simpa using Lib.mapM_length hm
      have hzl : ss.length = n := by
        have := congrArg List.length hxs
        simp at this
        omega
      apply List.ext_getElem?
      intro i
      by_cases hi : i < n
      · obtain ⟨b, hb, hf⟩ := Lib.mapM_at hm i i (by simp [hi])
        obtain ⟨z, hc, rfl, _⟩ := DataW.trod_string he hf
        have h1 : cs[i]? = some (.string z) := by
          have := congrArg (·[0]?) hc
          simpa [List.getElem?_take, List.getElem?_drop] using this
        have h2 : (xs.map (·.1))[i]? = some (DataW.lit (.string z.data.toList) : DataW H) := by simp [hb]
        rw [hxs] at h2
        simp only [List.getElem?_map, Option.map_eq_some_iff, DataW.lit.injEq, Lit.string.injEq] at h2
        obtain ⟨z', hz', rfl⟩ := h2
        rw [h1, List.getElem?_map, hz']
        rfl
      · rw [List.getElem?_eq_none (by omega), List.getElem?_eq_none (by simp; omega)]
    · cases h
theorem tMsg : (Tryd.prog.globals[0]?).map (·.type) = some 99 := by kernel_rfl
theorem tabs_of4 {W : World} (h : laidMet Tryd.prog [("math/bits.deBruijn32tab", Rows.laid_math_bits_deBruijn32tab), ("math/bits.deBruijn64tab", Rows.laid_math_bits_deBruijn64tab), ("internal/strconv.uint64pow10", Rows.laid_internal_strconv_uint64pow10), ("loop.example/g00591/impl.messageNames", Rows.laid_loop_example_g00591_impl_messageNames)] W) : Tabs true W := by
  refine ⟨Lib.tabIs_of_head (n := 20) (k := .u64) (zs := Lib.pow10Tab) gTab tTab Tryd.underlying135 Tryd.underlying128 (by kernel_rfl) (by kernel_rfl) h.tail.tail, fun _ => ?_⟩
  obtain ⟨ps, ⟨g', t', cs, fuel, p, q, hg', ht', hvar, hd, _, _⟩, _⟩ := h.tail.tail.tail
  obtain rfl := Option.some.inj (gMsg.symm.trans hg')
  obtain rfl := Option.some.inj (tMsg.symm.trans ht')
  have := cells_of_names (ss := namesL) Tryd.underlying99 Tryd.underlying9 (by kernel_rfl) (by kernel_rfl) hd
  rw [hvar]
  exact congrArg some (by
    apply Array.ext'
    rw [this]
    rfl)
/-- A variable holds still what it held. -/
theorem var_below {W W' : World} {name : String} {g : Nat} {vs : Array Value} (hg : Tryd.prog.globalNamed name = some g) (h : W.var? Tryd.prog name = some vs) (b : Below W.heap.size W W') : W'.var? Tryd.prog name = some vs := by
  obtain ⟨ty, fz, hc⟩ := var_cells hg h
  have hlt := (Array.getElem?_eq_some_iff.1 hc).1
  unfold World.var?
  rw [hg, Option.bind_some, b.block g hlt, hc]
end Go.Proofs.YtlihmncbhaimkaaDoor.Am
/- What the arguments of this seat read as: tags, messages, entities. -/
namespace Go.Proofs.YtlihmncbhaimkaaDoor.Am
open Go Go.RowKit Go.ChangeShapes Go.WideShapes Go.ChangeAt
set_option linter.unusedVariables false

theorem cell3 : Tryd.prog.cellsOf 3 = 1 := by kernel_rfl
theorem cell9 : Tryd.prog.cellsOf 9 = 1 := by kernel_rfl
theorem cell37 : Tryd.prog.cellsOf 37 = 2 := by kernel_rfl
theorem cell35 : Tryd.prog.cellsOf 35 = 1 := by kernel_rfl
theorem cell23 : Tryd.prog.cellsOf 23 = 3 := by kernel_rfl
theorem cell49 : Tryd.prog.cellsOf 49 = 1 := by kernel_rfl
theorem cell50 : Tryd.prog.cellsOf 50 = 2 := by kernel_rfl
theorem cell51 : Tryd.prog.cellsOf 51 = 1 := by kernel_rfl
theorem cell52 : Tryd.prog.cellsOf 52 = 1 := by kernel_rfl
theorem cell39 : Tryd.prog.cellsOf 39 = 12 := by kernel_rfl
theorem cell54 : Tryd.prog.cellsOf 54 = 12 := by kernel_rfl
theorem cell102 : Tryd.prog.cellsOf 102 = 7 := by kernel_rfl
theorem cell109 : Tryd.prog.cellsOf 109 = 2 := by kernel_rfl
theorem len2 {α : Type} : ∀ {l : List α}, l.length = 2 → ∃ a0 a1, l = [a0, a1]
  | [a0, a1], _ => ⟨a0, a1, rfl⟩
theorem len3 {α : Type} : ∀ {l : List α}, l.length = 3 → ∃ a0 a1 a2, l = [a0, a1, a2]
  | [a0, a1, a2], _ => ⟨a0, a1, a2, rfl⟩
theorem len5 {α : Type} : ∀ {l : List α}, l.length = 5 → ∃ a0 a1 a2 a3 a4, l = [a0, a1, a2, a3, a4]
  | [a0, a1, a2, a3, a4], _ => ⟨a0, a1, a2, a3, a4, rfl⟩
theorem len7 {α : Type} : ∀ {l : List α}, l.length = 7 → ∃ a0 a1 a2 a3 a4 a5 a6, l = [a0, a1, a2, a3, a4, a5, a6]
  | [a0, a1, a2, a3, a4, a5, a6], _ => ⟨a0, a1, a2, a3, a4, a5, a6, rfl⟩
theorem len9 {α : Type} : ∀ {l : List α}, l.length = 9 → ∃ a0 a1 a2 a3 a4 a5 a6 a7 a8, l = [a0, a1, a2, a3, a4, a5, a6, a7, a8]
  | [a0, a1, a2, a3, a4, a5, a6, a7, a8], _ => ⟨a0, a1, a2, a3, a4, a5, a6, a7, a8, rfl⟩
theorem len11 {α : Type} : ∀ {l : List α}, l.length = 11 → ∃ a0 a1 a2 a3 a4 a5 a6 a7 a8 a9 a10, l = [a0, a1, a2, a3, a4, a5, a6, a7, a8, a9, a10]
  | [a0, a1, a2, a3, a4, a5, a6, a7, a8, a9, a10], _ => ⟨a0, a1, a2, a3, a4, a5, a6, a7, a8, a9, a10, rfl⟩
theorem len12 {α : Type} : ∀ {l : List α}, l.length = 12 → ∃ a0 a1 a2 a3 a4 a5 a6 a7 a8 a9 a10 a11, l = [a0, a1, a2, a3, a4, a5, a6, a7, a8, a9, a10, a11]
  | [a0, a1, a2, a3, a4, a5, a6, a7, a8, a9, a10, a11], _ => ⟨a0, a1, a2, a3, a4, a5, a6, a7, a8, a9, a10, a11, rfl⟩
/-- A slice as an argument. -/
theorem one_lays {gl : Nat → Option (Nat × List Value)} {W : World} (hg : ∃ g s cs, g < Tryd.prog.globals.size ∧ gl g = some (s, cs)) {v : Value} {d : D} (m : Mr W v d) (s : StartOk Tryd.prog W gl []) :
    ∃ bs, StartOk Tryd.prog W gl bs ∧ ∃ u, RV (startR Tryd.prog gl bs) u v ∧ RD (startH Tryd.prog gl bs) noOwn d u := by
  obtain ⟨bs, h1, u, h2, h3, _⟩ := m.lays hg [] s
  exact ⟨bs, h1, u, h2, h3⟩
theorem is_agg {v : Value} {cs : List Value} (h : v.cells.toList = cs) (hn : 1 < cs.length) : v = .agg cs.toArray := by
  subst h
  cases v <;> first
    | rfl
    | (simp [Value.cells] at hn)
section
variable {H : Type} {enc : TypeId × Value → H} {W : World}
/-- What reads at the type of tags is a tag. -/
theorem open_23 : Opens enc Tryd.prog W 23 TagV.ok TagV.cs := fun held fuel cs x k => by
  obtain ⟨xs, n, _, _, hl, hxl, hx⟩ := DataW.trod_struct Tryd.underlying23 k
  obtain ⟨v0, v1, v2, rfl⟩ := len3 (hl.trans cell23)
  obtain ⟨x0, x1, x2, rfl⟩ := len3 hxl
  have q0 : DataW.trod enc Tryd.prog W 0 (fun _ => true) held n 3 (([v0, v1, v2].drop 0).take (Tryd.prog.cellsOf 3)) = some x0 := hx 0 _ rfl
  rw [cell3] at q0
  have q1 : DataW.trod enc Tryd.prog W 0 (fun _ => true) held n 3 (([v0, v1, v2].drop 1).take (Tryd.prog.cellsOf 3)) = some x1 := hx 1 _ rfl
  rw [cell3] at q1
  have q2 : DataW.trod enc Tryd.prog W 0 (fun _ => true) held n 3 (([v0, v1, v2].drop 2).take (Tryd.prog.cellsOf 3)) = some x2 := hx 2 _ rfl
  rw [cell3] at q2
  obtain ⟨n0, o0, r0⟩ := open_i (W := W) (enc := enc) Tryd.underlying3 held n [v0] x0 q0
  obtain ⟨n1, o1, r1⟩ := open_i (W := W) (enc := enc) Tryd.underlying3 held n [v1] x1 q1
  obtain ⟨n2, o2, r2⟩ := open_i (W := W) (enc := enc) Tryd.underlying3 held n [v2] x2 q2
  exact ⟨⟨n0, n1, n2⟩, ⟨o0, o1, o2⟩, r0.append (r1.append (r2))⟩
/-- A pair of numbers. -/
theorem open_37 : Opens enc Tryd.prog W 37 PairV.ok PairV.cs := fun held fuel cs x k => by
  obtain ⟨xs, n, _, _, hl, hxl, hx⟩ := DataW.trod_struct Tryd.underlying37 k
  obtain ⟨v0, v1, rfl⟩ := len2 (hl.trans cell37)
  obtain ⟨x0, x1, rfl⟩ := len2 hxl
  have q0 : DataW.trod enc Tryd.prog W 0 (fun _ => true) held n 3 (([v0, v1].drop 0).take (Tryd.prog.cellsOf 3)) = some x0 := hx 0 _ rfl
  rw [cell3] at q0
  have q1 : DataW.trod enc Tryd.prog W 0 (fun _ => true) held n 3 (([v0, v1].drop 1).take (Tryd.prog.cellsOf 3)) = some x1 := hx 1 _ rfl
  rw [cell3] at q1
  obtain ⟨n0, o0, r0⟩ := open_i (W := W) (enc := enc) Tryd.underlying3 held n [v0] x0 q0
  obtain ⟨n1, o1, r1⟩ := open_i (W := W) (enc := enc) Tryd.underlying3 held n [v1] x1 q1
  exact ⟨⟨n0, n1⟩, ⟨o0, o1⟩, r0.append (r1)⟩
/-- A pair of numbers. -/
theorem open_50 : Opens enc Tryd.prog W 50 PairV.ok PairV.cs := fun held fuel cs x k => by
  obtain ⟨xs, n, _, _, hl, hxl, hx⟩ := DataW.trod_struct Tryd.underlying50 k
  obtain ⟨v0, v1, rfl⟩ := len2 (hl.trans cell50)
  obtain ⟨x0, x1, rfl⟩ := len2 hxl
  have q0 : DataW.trod enc Tryd.prog W 0 (fun _ => true) held n 3 (([v0, v1].drop 0).take (Tryd.prog.cellsOf 3)) = some x0 := hx 0 _ rfl
  rw [cell3] at q0
  have q1 : DataW.trod enc Tryd.prog W 0 (fun _ => true) held n 3 (([v0, v1].drop 1).take (Tryd.prog.cellsOf 3)) = some x1 := hx 1 _ rfl
  rw [cell3] at q1
  obtain ⟨n0, o0, r0⟩ := open_i (W := W) (enc := enc) Tryd.underlying3 held n [v0] x0 q0
  obtain ⟨n1, o1, r1⟩ := open_i (W := W) (enc := enc) Tryd.underlying3 held n [v1] x1 q1
  exact ⟨⟨n0, n1⟩, ⟨o0, o1⟩, r0.append (r1)⟩
/-- A pair of numbers. -/
theorem open_109 : Opens enc Tryd.prog W 109 PairV.ok PairV.cs := fun held fuel cs x k => by
  obtain ⟨xs, n, _, _, hl, hxl, hx⟩ := DataW.trod_struct Tryd.underlying109 k
  obtain ⟨v0, v1, rfl⟩ := len2 (hl.trans cell109)
  obtain ⟨x0, x1, rfl⟩ := len2 hxl
  have q0 : DataW.trod enc Tryd.prog W 0 (fun _ => true) held n 3 (([v0, v1].drop 0).take (Tryd.prog.cellsOf 3)) = some x0 := hx 0 _ rfl
  rw [cell3] at q0
  have q1 : DataW.trod enc Tryd.prog W 0 (fun _ => true) held n 3 (([v0, v1].drop 1).take (Tryd.prog.cellsOf 3)) = some x1 := hx 1 _ rfl
  rw [cell3] at q1
  obtain ⟨n0, o0, r0⟩ := open_i (W := W) (enc := enc) Tryd.underlying3 held n [v0] x0 q0
  obtain ⟨n1, o1, r1⟩ := open_i (W := W) (enc := enc) Tryd.underlying3 held n [v1] x1 q1
  exact ⟨⟨n0, n1⟩, ⟨o0, o1⟩, r0.append (r1)⟩
/-- What was sent. -/
theorem open_102 : Opens enc Tryd.prog W 102 SentV.ok SentV.cs := fun held fuel cs x k => by
  obtain ⟨xs, n, _, _, hl, hxl, hx⟩ := DataW.trod_struct Tryd.underlying102 k
  obtain ⟨v0, v1, v2, v3, v4, v5, v6, rfl⟩ := len7 (hl.trans cell102)
  obtain ⟨x0, x1, x2, x3, x4, rfl⟩ := len5 hxl
  have q0 : DataW.trod enc Tryd.prog W 0 (fun _ => true) held n 3 (([v0, v1, v2, v3, v4, v5, v6].drop 0).take (Tryd.prog.cellsOf 3)) = some x0 := hx 0 _ rfl
  rw [cell3] at q0
  have q1 : DataW.trod enc Tryd.prog W 0 (fun _ => true) held n 9 (([v0, v1, v2, v3, v4, v5, v6].drop 1).take (Tryd.prog.cellsOf 9)) = some x1 := hx 1 _ rfl
  rw [cell9] at q1
  have q2 : DataW.trod enc Tryd.prog W 0 (fun _ => true) held n 49 (([v0, v1, v2, v3, v4, v5, v6].drop 2).take (Tryd.prog.cellsOf 49)) = some x2 := hx 2 _ rfl
  rw [cell49] at q2
  have q3 : DataW.trod enc Tryd.prog W 0 (fun _ => true) held n 3 (([v0, v1, v2, v3, v4, v5, v6].drop 3).take (Tryd.prog.cellsOf 3)) = some x3 := hx 3 _ rfl
  rw [cell3] at q3
  have q4 : DataW.trod enc Tryd.prog W 0 (fun _ => true) held n 23 (([v0, v1, v2, v3, v4, v5, v6].drop 4).take (Tryd.prog.cellsOf 23)) = some x4 := hx 4 _ rfl
  rw [cell23] at q4
  obtain ⟨n0, o0, r0⟩ := open_i (W := W) (enc := enc) Tryd.underlying3 held n [v0] x0 q0
  obtain ⟨n1, o1, r1⟩ := open_s (W := W) (enc := enc) Tryd.underlying9 held n [v1] x1 q1
  obtain ⟨n2, o2, r2⟩ := open_sl (W := W) (enc := enc) (f := PairV.cs) Tryd.underlying49 cell50 (by omega) (fun _ => rfl) open_50 held n [v2] x2 q2
  obtain ⟨n3, o3, r3⟩ := open_i (W := W) (enc := enc) Tryd.underlying3 held n [v3] x3 q3
  obtain ⟨n4, o4, r4⟩ := open_23 (W := W) (enc := enc) held n [v4, v5, v6] x4 q4
  exact ⟨⟨n0, n1, n2, n3, n4⟩, ⟨o0, o1, o2, o3, o4⟩, r0.append (r1.append (r2.append (r3.append (r4))))⟩
/-- An entity. -/
theorem open_54 : Opens enc Tryd.prog W 54 EntV.ok EntV.cs := fun held fuel cs x k => by
  obtain ⟨xs, n, _, _, hl, hxl, hx⟩ := DataW.trod_struct Tryd.underlying54 k
  obtain ⟨v0, v1, v2, v3, v4, v5, v6, v7, v8, v9, v10, v11, rfl⟩ := len12 (hl.trans cell54)
  obtain ⟨x0, x1, x2, x3, x4, x5, x6, x7, x8, x9, x10, rfl⟩ := len11 hxl
  have q0 : DataW.trod enc Tryd.prog W 0 (fun _ => true) held n 3 (([v0, v1, v2, v3, v4, v5, v6, v7, v8, v9, v10, v11].drop 0).take (Tryd.prog.cellsOf 3)) = some x0 := hx 0 _ rfl
  rw [cell3] at q0
  have q1 : DataW.trod enc Tryd.prog W 0 (fun _ => true) held n 3 (([v0, v1, v2, v3, v4, v5, v6, v7, v8, v9, v10, v11].drop 1).take (Tryd.prog.cellsOf 3)) = some x1 := hx 1 _ rfl
  rw [cell3] at q1
  have q2 : DataW.trod enc Tryd.prog W 0 (fun _ => true) held n 49 (([v0, v1, v2, v3, v4, v5, v6, v7, v8, v9, v10, v11].drop 2).take (Tryd.prog.cellsOf 49)) = some x2 := hx 2 _ rfl
  rw [cell49] at q2
  have q3 : DataW.trod enc Tryd.prog W 0 (fun _ => true) held n 3 (([v0, v1, v2, v3, v4, v5, v6, v7, v8, v9, v10, v11].drop 3).take (Tryd.prog.cellsOf 3)) = some x3 := hx 3 _ rfl
  rw [cell3] at q3
  have q4 : DataW.trod enc Tryd.prog W 0 (fun _ => true) held n 50 (([v0, v1, v2, v3, v4, v5, v6, v7, v8, v9, v10, v11].drop 4).take (Tryd.prog.cellsOf 50)) = some x4 := hx 4 _ rfl
  rw [cell50] at q4
  have q5 : DataW.trod enc Tryd.prog W 0 (fun _ => true) held n 51 (([v0, v1, v2, v3, v4, v5, v6, v7, v8, v9, v10, v11].drop 6).take (Tryd.prog.cellsOf 51)) = some x5 := hx 5 _ rfl
  rw [cell51] at q5
  have q6 : DataW.trod enc Tryd.prog W 0 (fun _ => true) held n 52 (([v0, v1, v2, v3, v4, v5, v6, v7, v8, v9, v10, v11].drop 7).take (Tryd.prog.cellsOf 52)) = some x6 := hx 6 _ rfl
  rw [cell52] at q6
  have q7 : DataW.trod enc Tryd.prog W 0 (fun _ => true) held n 3 (([v0, v1, v2, v3, v4, v5, v6, v7, v8, v9, v10, v11].drop 8).take (Tryd.prog.cellsOf 3)) = some x7 := hx 7 _ rfl
  rw [cell3] at q7
  have q8 : DataW.trod enc Tryd.prog W 0 (fun _ => true) held n 3 (([v0, v1, v2, v3, v4, v5, v6, v7, v8, v9, v10, v11].drop 9).take (Tryd.prog.cellsOf 3)) = some x8 := hx 8 _ rfl
  rw [cell3] at q8
  have q9 : DataW.trod enc Tryd.prog W 0 (fun _ => true) held n 3 (([v0, v1, v2, v3, v4, v5, v6, v7, v8, v9, v10, v11].drop 10).take (Tryd.prog.cellsOf 3)) = some x9 := hx 9 _ rfl
  rw [cell3] at q9
  have q10 : DataW.trod enc Tryd.prog W 0 (fun _ => true) held n 3 (([v0, v1, v2, v3, v4, v5, v6, v7, v8, v9, v10, v11].drop 11).take (Tryd.prog.cellsOf 3)) = some x10 := hx 10 _ rfl
  rw [cell3] at q10
  obtain ⟨n0, o0, r0⟩ := open_i (W := W) (enc := enc) Tryd.underlying3 held n [v0] x0 q0
  obtain ⟨n1, o1, r1⟩ := open_i (W := W) (enc := enc) Tryd.underlying3 held n [v1] x1 q1
  obtain ⟨n2, o2, r2⟩ := open_sl (W := W) (enc := enc) (f := PairV.cs) Tryd.underlying49 cell50 (by omega) (fun _ => rfl) open_50 held n [v2] x2 q2
  obtain ⟨n3, o3, r3⟩ := open_i (W := W) (enc := enc) Tryd.underlying3 held n [v3] x3 q3
  obtain ⟨n4, o4, r4⟩ := open_50 (W := W) (enc := enc) held n [v4, v5] x4 q4
  obtain ⟨n5, o5, r5⟩ := open_sl (W := W) (enc := enc) (f := SentV.cs) Tryd.underlying51 cell102 (by omega) (fun _ => rfl) open_102 held n [v6] x5 q5
  obtain ⟨n6, o6, r6⟩ := open_sl (W := W) (enc := enc) (f := PairV.cs) Tryd.underlying52 cell109 (by omega) (fun _ => rfl) open_109 held n [v7] x6 q6
  obtain ⟨n7, o7, r7⟩ := open_i (W := W) (enc := enc) Tryd.underlying3 held n [v8] x7 q7
  obtain ⟨n8, o8, r8⟩ := open_i (W := W) (enc := enc) Tryd.underlying3 held n [v9] x8 q8
  obtain ⟨n9, o9, r9⟩ := open_i (W := W) (enc := enc) Tryd.underlying3 held n [v10] x9 q9
  obtain ⟨n10, o10, r10⟩ := open_i (W := W) (enc := enc) Tryd.underlying3 held n [v11] x10 q10
  exact ⟨⟨n0, n1, n2, n3, n4, n5, n6, n7, n8, n9, n10⟩, ⟨o0, o1, o2, o3, o4, o5, o6, o7, o8, o9, o10⟩, r0.append (r1.append (r2.append (r3.append (r4.append (r5.append (r6.append (r7.append (r8.append (r9.append (r10))))))))))⟩
/-- A message. -/
theorem open_39 : Opens enc Tryd.prog W 39 MsgV.ok MsgV.cs := fun held fuel cs x k => by
  obtain ⟨xs, n, _, _, hl, hxl, hx⟩ := DataW.trod_struct Tryd.underlying39 k
  obtain ⟨v0, v1, v2, v3, v4, v5, v6, v7, v8, v9, v10, v11, rfl⟩ := len12 (hl.trans cell39)
  obtain ⟨x0, x1, x2, x3, x4, x5, x6, x7, x8, rfl⟩ := len9 hxl
  have q0 : DataW.trod enc Tryd.prog W 0 (fun _ => true) held n 3 (([v0, v1, v2, v3, v4, v5, v6, v7, v8, v9, v10, v11].drop 0).take (Tryd.prog.cellsOf 3)) = some x0 := hx 0 _ rfl
  rw [cell3] at q0
  have q1 : DataW.trod enc Tryd.prog W 0 (fun _ => true) held n 3 (([v0, v1, v2, v3, v4, v5, v6, v7, v8, v9, v10, v11].drop 1).take (Tryd.prog.cellsOf 3)) = some x1 := hx 1 _ rfl
  rw [cell3] at q1
  have q2 : DataW.trod enc Tryd.prog W 0 (fun _ => true) held n 3 (([v0, v1, v2, v3, v4, v5, v6, v7, v8, v9, v10, v11].drop 2).take (Tryd.prog.cellsOf 3)) = some x2 := hx 2 _ rfl
  rw [cell3] at q2
  have q3 : DataW.trod enc Tryd.prog W 0 (fun _ => true) held n 3 (([v0, v1, v2, v3, v4, v5, v6, v7, v8, v9, v10, v11].drop 3).take (Tryd.prog.cellsOf 3)) = some x3 := hx 3 _ rfl
  rw [cell3] at q3
  have q4 : DataW.trod enc Tryd.prog W 0 (fun _ => true) held n 9 (([v0, v1, v2, v3, v4, v5, v6, v7, v8, v9, v10, v11].drop 4).take (Tryd.prog.cellsOf 9)) = some x4 := hx 4 _ rfl
  rw [cell9] at q4
  have q5 : DataW.trod enc Tryd.prog W 0 (fun _ => true) held n 35 (([v0, v1, v2, v3, v4, v5, v6, v7, v8, v9, v10, v11].drop 5).take (Tryd.prog.cellsOf 35)) = some x5 := hx 5 _ rfl
  rw [cell35] at q5
  have q6 : DataW.trod enc Tryd.prog W 0 (fun _ => true) held n 37 (([v0, v1, v2, v3, v4, v5, v6, v7, v8, v9, v10, v11].drop 6).take (Tryd.prog.cellsOf 37)) = some x6 := hx 6 _ rfl
  rw [cell37] at q6
  have q7 : DataW.trod enc Tryd.prog W 0 (fun _ => true) held n 3 (([v0, v1, v2, v3, v4, v5, v6, v7, v8, v9, v10, v11].drop 8).take (Tryd.prog.cellsOf 3)) = some x7 := hx 7 _ rfl
  rw [cell3] at q7
  have q8 : DataW.trod enc Tryd.prog W 0 (fun _ => true) held n 23 (([v0, v1, v2, v3, v4, v5, v6, v7, v8, v9, v10, v11].drop 9).take (Tryd.prog.cellsOf 23)) = some x8 := hx 8 _ rfl
  rw [cell23] at q8
  obtain ⟨n0, o0, r0⟩ := open_i (W := W) (enc := enc) Tryd.underlying3 held n [v0] x0 q0
  obtain ⟨n1, o1, r1⟩ := open_i (W := W) (enc := enc) Tryd.underlying3 held n [v1] x1 q1
  obtain ⟨n2, o2, r2⟩ := open_i (W := W) (enc := enc) Tryd.underlying3 held n [v2] x2 q2
  obtain ⟨n3, o3, r3⟩ := open_i (W := W) (enc := enc) Tryd.underlying3 held n [v3] x3 q3
  obtain ⟨n4, o4, r4⟩ := open_s (W := W) (enc := enc) Tryd.underlying9 held n [v4] x4 q4
  obtain ⟨n5, o5, r5⟩ := open_sl (W := W) (enc := enc) (f := PairV.cs) Tryd.underlying35 cell37 (by omega) (fun _ => rfl) open_37 held n [v5] x5 q5
  obtain ⟨n6, o6, r6⟩ := open_37 (W := W) (enc := enc) held n [v6, v7] x6 q6
  obtain ⟨n7, o7, r7⟩ := open_i (W := W) (enc := enc) Tryd.underlying3 held n [v8] x7 q7
  obtain ⟨n8, o8, r8⟩ := open_23 (W := W) (enc := enc) held n [v9, v10, v11] x8 q8
  exact ⟨⟨n0, n1, n2, n3, n4, n5, n6, n7, n8⟩, ⟨o0, o1, o2, o3, o4, o5, o6, o7, o8⟩, r0.append (r1.append (r2.append (r3.append (r4.append (r5.append (r6.append (r7.append (r8))))))))⟩
end
end Go.Proofs.YtlihmncbhaimkaaDoor.Am
