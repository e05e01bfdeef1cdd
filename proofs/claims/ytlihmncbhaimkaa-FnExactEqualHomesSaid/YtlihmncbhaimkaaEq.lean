/- EqualHomes: what the functions that the law reaches come to. -/
import Derived.Test.YtlihmncbhaimkaaFn0
import Derived.Test.YtlihmncbhaimkaaAmLib
namespace Go.Proofs.Ytlihmncbhaimkaa.Am
open Go Go.RowKit

abbrev I (n : Int) : Value := .int .i64 n
abbrev B (b : Bool) : Value := .bool b
def Hm (_ : Heap) (cs : List Value) (x : Int × Int) : Prop := cs = [I x.1, I x.2]
theorem Hm.ext (h h' : Heap) (cs : List Value) (x : Int × Int) (_ : Ext h h') (r : Hm h cs x) : Hm h' cs x := r
abbrev RdH := RdSl 2 Hm
theorem u22 : Try.prog.underlying 22 = some (.slice 31) := by kernel_rfl
theorem u25 : Try.prog.underlying 25 = some (.slice 29) := by kernel_rfl
theorem i29 : (Try.prog.info? 29).isSome = true := by kernel_rfl
theorem i31 : (Try.prog.info? 31).isSome = true := by kernel_rfl
theorem s29 : sz Try.prog 29 = 2 := by kernel_rfl
theorem s31 : sz Try.prog 31 = 2 := by kernel_rfl
theorem s3 : sz Try.prog 3 = 1 := by kernel_rfl
theorem a29 : aggT Try.prog 29 = some true := by kernel_rfl
theorem a31 : aggT Try.prog 31 = some true := by kernel_rfl
theorem a3 : aggT Try.prog 3 = some false := by kernel_rfl
theorem z29 : zeroT Try.prog 29 = some [I 0, I 0] := by kernel_rfl
theorem ld29 (h : Heap) (b i : Nat) : loadA Try.prog 29 h (ptr b i) = (loadC h b i 2).map fun l => .agg l.toArray := by
  unfold loadA ptr; simp only [a29, Option.bind_some, s29, if_true]
theorem ld31 (h : Heap) (b i : Nat) : loadA Try.prog 31 h (ptr b i) = (loadC h b i 2).map fun l => .agg l.toArray := by
  unfold loadA ptr; simp only [a31, Option.bind_some, s31, if_true]
theorem ld3 (h : Heap) (b i : Nat) : loadA Try.prog 3 h (ptr b i) = load1 h b i := by
  unfold loadA ptr; simp only [a3, Option.bind_some, Bool.false_eq_true, if_false]
theorem fl29 (x y : Value) : flatT Try.prog 29 (.agg #[x, y]) = some [x, y] := by
  unfold flatT; simp [a29, s29]
theorem fl31 (x y : Value) : flatT Try.prog 31 (.agg #[x, y]) = some [x, y] := by
  unfold flatT; simp [a31, s31]
theorem fl3 (n : Int) : flatT Try.prog 3 (I n) = some [I n] := by
  unfold flatT; simp [a3, s3, isOne]
theorem fa29_0 (b i : Nat) : fieldAddrA Try.prog 29 (ptr b i) 0 = some (ptr b i) := by kernel_rfl
theorem fa29_1 (b i : Nat) : fieldAddrA Try.prog 29 (ptr b i) 1 = some (ptr b (i + 1)) := by kernel_rfl
theorem fa31_0 (b i : Nat) : fieldAddrA Try.prog 31 (ptr b i) 0 = some (ptr b i) := by kernel_rfl
theorem fa31_1 (b i : Nat) : fieldAddrA Try.prog 31 (ptr b i) 1 = some (ptr b (i + 1)) := by kernel_rfl

theorem c4 {h : Heap} {v : Value} {l : List (Int × Int)} {n : Int} (r : RdH h v l) (h0 : 0 ≤ n) (h1 : n ≤ 1048576) : Res (K 4 [v, I n] h) fun v' h' => h' = h ∧ ((n - l.length < 0 ∧ v' = I (-1)) ∨ (0 ≤ n - l.length ∧ v' = I (n - l.length))) := by
  refine W4 ?_
  unfold F4
  have hb := r.bound
  simp only [r.len u22, Bnd_some, b_sub, b_lss, OnB_bool, Br_dec]
  rw [wrap_in (by omega) (by omega)]
  exact ⟨fun hlt => ⟨trivial, .inl ⟨hlt, trivial⟩⟩, fun hge => ⟨trivial, .inr ⟨by omega, rfl⟩⟩⟩

theorem eq29 (a b c d : Int) : binA Try.prog .neq 29 (.agg #[I a, I b]) (.agg #[I c, I d]) = some (.bool (!decide ((a, b) = (c, d)))) := by
  have e : eqA Try.prog eqDepth 29 (.agg #[I a, I b]) (.agg #[I c, I d]) = if (a == c) then (if (b == d) then some true else some false) else some false := by kernel_rfl
  simp only [binA, e]
  by_cases h1 : a = c
  · by_cases h2 : b = d
    · simp [h1, h2]
    · simp [h1, h2]
  · simp [h1]

/-- So far alike. -/
def allEq (l1 l2 : List (Int × Int)) (i : Nat) : Prop := ∀ j, j < i → l1[j]? = l2[j]?
theorem allEq.all {l1 l2 : List (Int × Int)} (hl : l1.length = l2.length) (h : allEq l1 l2 l1.length) : l1 = l2 := by
  apply List.ext_getElem? 
  intro j
  by_cases hj : j < l1.length
  · exact h j hj
  · rw [List.getElem?_eq_none (by omega), List.getElem?_eq_none (by omega)]
theorem allEq.more {l1 l2 : List (Int × Int)} {i : Nat} (h : allEq l1 l2 i) (e : l1[i]? = l2[i]?) : allEq l1 l2 (i + 1) := by
  intro j hj
  by_cases hji : j = i
  · rw [hji]; exact e
  · exact h j (by omega)
abbrev cmpI (l1 l2 : List (Int × Int)) (n : Heap → Prop) : List Value → Heap → Prop := fun vs h' => ∃ i : Nat, vs = [B false, I i] ∧ n h' ∧ i ≤ l1.length ∧ allEq l1 l2 i
abbrev cmpM (l1 : List (Int × Int)) : List Value → Heap → Nat := fun vs _ => match vs with
  | [_, .int _ i] => l1.length - i.toNat
  | _ => 0
theorem c5 {h : Heap} {v1 v2 : Value} {l1 l2 : List (Int × Int)} (r1 : RdH h v1 l1) (r2 : RdH h v2 l2) : Res (K 5 [v1, v2] h) fun v' h' => h' = h ∧ v' = B (decide (l1 = l2)) := by
  refine W5 ?_
  unfold F5
  have hb := r1.bound
  simp only [r1.len u25, r2.len u25, Bnd_some, b_neq, OnB_bool, Br_not, Br_dec]
  refine ⟨fun hne => ?_, fun hne => ⟨trivial, ?_⟩⟩
  · have hlen : l1.length = l2.length := by omega
    refine ⟨cmpI l1 l2 (· = h), cmpM l1, ⟨0, rfl, rfl, by omega, fun j hj => by omega⟩, ?_⟩
    rintro x7 x8 h9 ⟨i, e, rfl, hi, he⟩
    simp only [List.cons.injEq, and_true] at e
    obtain ⟨rfl, rfl⟩ := e
    simp only [b_lss, Bnd_some, OnB_bool, Br_dec]
    refine ⟨fun hlt => ?_, fun hge => ⟨trivial, ?_⟩⟩
    · have hil : i < l1.length := by omega
      have hil2 : i < l2.length := by omega
      obtain ⟨p1, o1, cs1, e1, _, e2, e3⟩ := r1.at (P := Try.prog) u25 i29 s29 (i := (i : Int)) (k := .i64) (by omega) (x := l1[i]) (by simp [hil])
      obtain ⟨p2, o2, cs2, e4, _, e5, e6⟩ := r2.at (P := Try.prog) u25 i29 s29 (i := (i : Int)) (k := .i64) (by omega) (x := l2[i]) (by simp [hil2])
      unfold Hm at e3 e6
      subst e3 e6
      simp only [e1, e4, Bnd_some, ld29, e2, e5, Option.map_some, eq29, OnB_bool, Br_not, Br_dec, b_add]
      refine ⟨fun hx => ?_, fun hx => ⟨trivial, ?_⟩⟩
      · rw [wrap_in (by omega) (by omega)]
        have hx' : l1[i]? = l2[i]? := by simp [hil, hil2]; exact hx
        exact ⟨⟨i + 1, by simp, rfl, by omega, he.more hx'⟩, by simp only [cmpM]; omega⟩
      · simp only [Value.bool.injEq]
        symm
        rw [decide_eq_false_iff_not]
        rintro rfl
        exact hx rfl
    · have : i = l1.length := by omega
      subst this
      simp only [Value.bool.injEq]
      symm
      rw [decide_eq_true_eq]
      exact he.all hlen
  · simp only [Value.bool.injEq]
    symm
    rw [decide_eq_false_iff_not]
    rintro rfl
    exact hne rfl
theorem c10 {h : Heap} {v1 v2 : Value} {l1 l2 : List (Int × Int)} (r1 : RdH h v1 l1) (r2 : RdH h v2 l2) : Res (K 10 [v1, v2] h) fun v' h' => h' = h ∧ v' = B (decide (l1 = l2)) := by
  refine W10 ?_
  unfold F10
  have hb := r1.bound
  simp only [r1.len u25, r2.len u25, Bnd_some, b_neq, OnB_bool, Br_not, Br_dec]
  refine ⟨fun hne => ?_, fun hne => ⟨trivial, ?_⟩⟩
  · have hlen : l1.length = l2.length := by omega
    refine ⟨cmpI l1 l2 (· = h), cmpM l1, ⟨0, rfl, rfl, by omega, fun j hj => by omega⟩, ?_⟩
    rintro x7 x8 h9 ⟨i, e, rfl, hi, he⟩
    simp only [List.cons.injEq, and_true] at e
    obtain ⟨rfl, rfl⟩ := e
    simp only [b_lss, Bnd_some, OnB_bool, Br_dec]
    refine ⟨fun hlt => ?_, fun hge => ⟨trivial, ?_⟩⟩
    · have hil : i < l1.length := by omega
      have hil2 : i < l2.length := by omega
      obtain ⟨p1, o1, cs1, e1, _, e2, e3⟩ := r1.at (P := Try.prog) u25 i29 s29 (i := (i : Int)) (k := .i64) (by omega) (x := l1[i]) (by simp [hil])
      obtain ⟨p2, o2, cs2, e4, _, e5, e6⟩ := r2.at (P := Try.prog) u25 i29 s29 (i := (i : Int)) (k := .i64) (by omega) (x := l2[i]) (by simp [hil2])
      unfold Hm at e3 e6
      subst e3 e6
      simp only [e1, e4, Bnd_some, ld29, e2, e5, Option.map_some, eq29, OnB_bool, Br_not, Br_dec, b_add]
      refine ⟨fun hx => ?_, fun hx => ⟨trivial, ?_⟩⟩
      · rw [wrap_in (by omega) (by omega)]
        have hx' : l1[i]? = l2[i]? := by simp [hil, hil2]; exact hx
        exact ⟨⟨i + 1, by simp, rfl, by omega, he.more hx'⟩, by simp only [cmpM]; omega⟩
      · simp only [Value.bool.injEq]
        symm
        rw [decide_eq_false_iff_not]
        rintro rfl
        exact hx rfl
    · have : i = l1.length := by omega
      subst this
      simp only [Value.bool.injEq]
      symm
      rw [decide_eq_true_eq]
      exact he.all hlen
  · simp only [Value.bool.injEq]
    symm
    rw [decide_eq_false_iff_not]
    rintro rfl
    exact hne rfl
theorem c7 {h : Heap} {v1 v2 : Value} {l1 l2 : List (Int × Int)} (r1 : RdH h v1 l1) (r2 : RdH h v2 l2) : Res (K 7 [v1, v2] h) fun v' h' => h' = h ∧ v' = B (decide (l1 = l2)) := by
  refine W7 ?_
  unfold F7
  refine (c10 r1 r2).mono ?_
  rintro v h' ⟨rfl, rfl⟩
  exact ⟨rfl, rfl⟩

/-! ### Two cells -/
theorem lc2 {h : Heap} {b : Nat} {x y : Value} {s : Nat} {g ro : Bool} (e : h.get b = .cells [x, y] s g ro) : loadC h b 0 2 = some [x, y] ∧ load1 h b 0 = some x ∧ load1 h b (0 + 1) = some y := by
  unfold loadC load1
  rw [e]
  exact ⟨rfl, rfl, rfl⟩
theorem st2 {h : Heap} {b : Nat} {x y z u : Value} {s : Nat} {g : Bool} (e : h.get b = .cells [x, y] s g false) (hz : isOne z = true) (hu : isOne u = true) :
    storeC h b 0 [z] = some (h.set b (.cells [z, y] s g false)) ∧ storeC h b (0 + 1) [z] = some (h.set b (.cells [x, z] s g false)) ∧ storeC h b 0 [z, u] = some (h.set b (.cells [z, u] s g false)) := by
  unfold storeC
  rw [e]
  simp [hz, hu, wrCells]
theorem sA {P : Program} {t : TypeId} {h : Heap} {b i : Nat} {v : Value} {vs : List Value} (e : flatT P t v = some vs) : storeA P t h (ptr b i) v = storeC h b i vs := by
  unfold storeA ptr; simp only [e, Option.bind_some]
theorem c11 (h : Heap) (a b c d : Int) : Res (K 11 [.agg #[I a, I b], .agg #[I c, I d]] h) fun v' h' => Ext h h' ∧ v' = B (decide ((a, b) = (c, d))) := by
  refine W11 ?_
  unfold F11
  simp only [fl29, Option.map_some, newA, Res_some, s29, fa29_0, fa29_1, Bnd_some, ld3]
  have g1 := get_push_self (h.push (.cells [I a, I b] 2 false false)) (.cells [I c, I d] 2 false false)
  have g2 : ((h.push (.cells [I a, I b] 2 false false)).push (.cells [I c, I d] 2 false false)).get h.next = .cells [I a, I b] 2 false false := by
    rw [get_push_lt (by simp only [next_push]; omega), get_push_self]
  obtain ⟨p1, p2, p3⟩ := lc2 g1
  obtain ⟨q1, q2, q3⟩ := lc2 g2
  have x : Ext h ((h.push (.cells [I a, I b] 2 false false)).push (.cells [I c, I d] 2 false false)) := ((Ext.refl h).push _).push _
  simp only [p2, p3, q2, q3, Bnd_some, b_neq, OnB_bool, Br_not, Br_dec]
  refine ⟨fun h1 => ⟨fun h2 => ⟨x, by simp [h1, h2]⟩, fun h2 => ⟨x, by simp [h2]⟩⟩, fun h1 => ⟨x, by simp [h1]⟩⟩
theorem c9 (h : Heap) (a b : Int) : Res (K 9 [.agg #[I a, I b]] h) fun v' h' => Ext h h' ∧ v' = .agg #[I a, I b] := by
  refine W9 ?_
  unfold F9
  simp only [fl31, z29, Option.map_some, newA, Res_some, s29, s31, fa29_0, fa29_1, fa31_0, fa31_1, Bnd_some, ld3]
  generalize hh6 : ((h.push (.cells [I a, I b] 2 false false)).push (.cells [I 0, I 0] 2 false false)).push (.cells [I 0, I 0] 2 false false) = h6
  have x6 : Ext h h6 := by subst hh6; exact (((Ext.refl h).push _).push _).push _
  have n6 : h6.next = h.next + 3 := by subst hh6; rfl
  have g0 : h6.get h.next = .cells [I a, I b] 2 false false := by
    subst hh6
    rw [get_push_lt (by simp only [next_push]; omega), get_push_lt (by simp only [next_push]; omega), get_push_self]
  have g1 : h6.get (h.next + 1) = .cells [I 0, I 0] 2 false false := by
    subst hh6
    rw [get_push_lt (by simp only [next_push]; omega)]
    exact get_push_self _ _
  have g2 : h6.get (h.next + 2) = .cells [I 0, I 0] 2 false false := by
    subst hh6
    exact get_push_self _ _
  simp only [next_push, Nat.add_assoc]
  simp only [(lc2 g0).2.1, Bnd_some, sA (fl3 _), (st2 (z := I a) (u := I a) g2 rfl rfl).1]
  have g3 : (h6.set (h.next + 2) (.cells [I a, I 0] 2 false false)).get h.next = .cells [I a, I b] 2 false false := by rw [get_set_ne (by omega), g0]
  have g4 := get_set_self h6 (h.next + 2) (.cells [I a, I 0] 2 false false)
  simp only [(lc2 g3).2.2, Bnd_some, sA (fl3 _), (st2 (z := I b) (u := I b) g4 rfl rfl).2.1]
  have g5 := get_set_self (h6.set (h.next + 2) (.cells [I a, I 0] 2 false false)) (h.next + 2) (.cells [I a, I b] 2 false false)
  simp only [ld29, (lc2 g5).1, Option.map_some, Bnd_some]
  have g6 : ((h6.set (h.next + 2) (.cells [I a, I 0] 2 false false)).set (h.next + 2) (.cells [I a, I b] 2 false false)).get (h.next + 1) = .cells [I 0, I 0] 2 false false := by
    rw [get_set_ne (by omega), get_set_ne (by omega), g1]
  simp only [sA (fl29 _ _), (st2 (z := I a) (u := I b) g6 rfl rfl).2.2, Bnd_some]
  have g7 := get_set_self ((h6.set (h.next + 2) (.cells [I a, I 0] 2 false false)).set (h.next + 2) (.cells [I a, I b] 2 false false)) (h.next + 1) (.cells [I a, I b] 2 false false)
  simp only [(lc2 g7).1, Option.map_some, Bnd_some]
  exact ⟨((x6.set (by omega) _).set (by omega) _).set (by omega) _, trivial⟩

/-! ### Lists of homes: the copy and the comparison -/
abbrev hc (x : Int × Int) : List Value := [I x.1, I x.2]
theorem hc_len (x : Int × Int) : (hc x).length = 2 := rfl
theorem rdFlat {h : Heap} {b : Nat} {l : List (Int × Int)} {s : Nat} {g ro : Bool} (hb : b < h.next) (hl : l.length ≤ 140737488355328) (e : h.get b = .cells (l.flatMap hc) s g ro) : RdH h (.slice (some ⟨b, 0, none⟩) l.length l.length) l :=
  .inr ⟨b, 0, l.length, _, s, g, ro, rfl, hb, e, Nat.le_refl _, hl, by rw [flat_len hc_len]; omega, fun i x hx => by
    have := flat_at hc_len l i x [] hx
    rw [List.append_nil] at this
    rw [Nat.zero_add, this]; rfl⟩
theorem c6 {h : Heap} {v : Value} {l : List (Int × Int)} (r : RdH h v l) (hl : l.length ≤ 1048576) : Res (K 6 [v] h) fun v' h' => Ext h h' ∧ RdH h' v' l := by
  refine W6 ?_
  unfold F6
  simp only [r.len u22, Bnd_some]
  have hm : makeSliceA Try.prog 25 (I l.length) (I l.length) h = some (.slice (some ⟨h.next, 0, none⟩) l.length l.length, h.push (.cells (reps l.length [I 0, I 0]) 2 false false)) := by
    have e : elemT Try.prog 25 = some 29 := by kernel_rfl
    have eb : by_ Try.prog 29 = 16 := by kernel_rfl
    simp only [makeSliceA, e, z29, Option.bind_some, s29, eb]
    rw [if_pos ⟨by omega, by omega, by omega, by omega, rfl, by omega⟩]
    simp
  rw [hm, Res_some]
  refine ⟨fun vs h' => ∃ i : Nat, vs = [I i] ∧ i ≤ l.length ∧ Ext h h' ∧ h.next < h'.next ∧ h'.get h.next = .cells ((l.take i).flatMap hc ++ reps (l.length - i) [I 0, I 0]) 2 false false,
    fun vs _ => match vs with | [.int _ i] => l.length - i.toNat | _ => 0, ⟨0, rfl, by omega, (Ext.refl h).push _, by simp only [next_push]; omega, by rw [get_push_self]; simp⟩, ?_⟩
  rintro x6 h7 ⟨i, e, hi, x7, n7, g7⟩
  simp only [List.cons.injEq, and_true] at e
  subst e
  simp only [Bnd_some, b_lss, OnB_bool, Br_dec]
  refine ⟨fun hlt => ?_, fun hge => ?_⟩
  · have hil : i < l.length := by omega
    obtain ⟨p1, o1, cs1, e1, _, e2, e3⟩ := (r.ext Hm.ext x7).at (P := Try.prog) u22 i31 s31 (i := (i : Int)) (k := .i64) (by omega) (x := l[i]) (by simp [hil])
    unfold Hm at e3
    subst e3
    simp only [e1, Bnd_some, ld31, e2, Option.map_some]
    refine (c9 h7 _ _).mono ?_
    rintro v' h' ⟨x', rfl⟩
    have g' : h'.get h.next = .cells ((l.take i).flatMap hc ++ reps (l.length - i) [I 0, I 0]) 2 false false := by rw [x'.same _ n7, g7]
    have tl : ((l.take i).flatMap hc).length = i * 2 := by rw [flat_len hc_len, List.length_take, Nat.min_eq_left hi]
    rw [at_slice u25 i29 s29 (by omega) (by omega), Bnd_some, sA (fl29 _ _), st_cells g' (by simp only [List.length_append, tl, reps_len, List.length_cons, List.length_nil]; omega) rfl, Bnd_some, b_add, Bnd_some, wrap_in (by omega) (by omega)]
    refine ⟨⟨i + 1, by simp, by omega, (x7.trans x').set (Nat.le_refl _) _, by rw [next_set]; have := x'.le; omega, ?_⟩, by simp only []; omega⟩
    rw [get_set_self]
    congr 1
    have ei : l.length - i = (l.length - (i + 1)) + 1 := by omega
    rw [wrCells_app (by rw [tl]; simp) (by rw [reps_len]; simp; omega), ei]
    have := reps_drop (l.length - (i + 1)) [I 0, I 0]
    rw [show ([I l[i].1, I l[i].2] : List Value).length = [I 0, I 0].length from rfl, this, ← List.take_append_getElem hil, List.flatMap_append]
    rfl
  · have : i = l.length := by omega
    subst this
    refine ⟨x7, ?_⟩
    have g8 : h7.get h.next = .cells (l.flatMap hc) 2 false false := by rw [g7]; simp [reps]
    exact rdFlat n7 (by omega) g8
theorem c8 {h : Heap} {v1 v2 : Value} {l1 l2 : List (Int × Int)} (r1 : RdH h v1 l1) (r2 : RdH h v2 l2) : Res (K 8 [v1, v2] h) fun v' h' => Ext h h' ∧ v' = B (decide (l1 = l2)) := by
  refine W8 ?_
  unfold F8
  have hb := r1.bound
  simp only [r1.len u25, r2.len u25, Bnd_some, b_neq, OnB_bool, Br_not, Br_dec]
  refine ⟨fun hne => ?_, fun hne => ⟨Ext.refl h, ?_⟩⟩
  · have hlen : l1.length = l2.length := by omega
    refine ⟨cmpI l1 l2 (Ext h), cmpM l1, ⟨0, rfl, Ext.refl h, by omega, fun j hj => by omega⟩, ?_⟩
    rintro x7 x8 h9 ⟨i, e, x9, hi, he⟩
    simp only [List.cons.injEq, and_true] at e
    obtain ⟨rfl, rfl⟩ := e
    simp only [b_lss, Bnd_some, OnB_bool, Br_dec]
    refine ⟨fun hlt => ?_, fun hge => ⟨x9, ?_⟩⟩
    · have hil : i < l1.length := by omega
      have hil2 : i < l2.length := by omega
      obtain ⟨p1, o1, cs1, e1, _, e2, e3⟩ := (r1.ext Hm.ext x9).at (P := Try.prog) u25 i29 s29 (i := (i : Int)) (k := .i64) (by omega) (x := l1[i]) (by simp [hil])
      obtain ⟨p2, o2, cs2, e4, _, e5, e6⟩ := (r2.ext Hm.ext x9).at (P := Try.prog) u25 i29 s29 (i := (i : Int)) (k := .i64) (by omega) (x := l2[i]) (by simp [hil2])
      unfold Hm at e3 e6
      subst e3 e6
      simp only [e1, e4, Bnd_some, ld29, e2, e5, Option.map_some]
      refine (c11 h9 _ _ _ _).mono ?_
      rintro v' h' ⟨x', rfl⟩
      simp only [u_not, Bnd_some, OnB_bool, Br_not, Br_dec, b_add]
      refine ⟨fun hx => ?_, fun hx => ⟨x9.trans x', ?_⟩⟩
      · rw [wrap_in (by omega) (by omega)]
        have hx' : l1[i]? = l2[i]? := by simp [hil, hil2]; exact hx
        exact ⟨⟨i + 1, by simp, x9.trans x', by omega, he.more hx'⟩, by simp only [cmpM]; omega⟩
      · simp only [Value.bool.injEq]
        symm
        rw [decide_eq_false_iff_not]
        rintro rfl
        exact hx rfl
    · have : i = l1.length := by omega
      subst this
      simp only [Value.bool.injEq]
      symm
      rw [decide_eq_true_eq]
      exact he.all hlen
  · simp only [Value.bool.injEq]
    symm
    rw [decide_eq_false_iff_not]
    rintro rfl
    exact hne rfl
theorem c3 {h : Heap} {v1 v2 : Value} {l1 l2 : List (Int × Int)} (r1 : RdH h v1 l1) (r2 : RdH h v2 l2) : Res (K 3 [v1, v2] h) fun v' _ => v' = B true := by
  refine W3 ?_
  unfold F3
  refine (c4 r1 (by omega) (by omega)).mono ?_
  rintro _ _ ⟨rfl, ⟨ha, rfl⟩ | ⟨ha, rfl⟩⟩
  · simp only [b_lss, Bnd_some, OnB_bool, Br_dec]
    exact ⟨fun _ => trivial, fun h => by omega⟩
  simp only [b_lss, Bnd_some, OnB_bool, Br_dec]
  refine ⟨fun h => by omega, fun _ => ?_⟩
  refine (c4 r2 (by omega) (by omega)).mono ?_
  rintro _ _ ⟨rfl, ⟨hb, rfl⟩ | ⟨hb, rfl⟩⟩
  · simp only [b_lss, Bnd_some, OnB_bool, Br_dec]
    exact ⟨fun _ => trivial, fun h => by omega⟩
  simp only [b_lss, Bnd_some, OnB_bool, Br_dec]
  refine ⟨fun h => by omega, fun _ => ?_⟩
  refine (c6 r1 (by omega)).mono ?_
  rintro v9 h10 ⟨x10, q9⟩
  have r1 := r1.ext Hm.ext x10
  have r2 := r2.ext Hm.ext x10
  refine (c6 r2 (by omega)).mono ?_
  rintro v11 h12 ⟨x12, q11⟩
  have r1 := r1.ext Hm.ext x12
  have r2 := r2.ext Hm.ext x12
  refine (c5 (q9.ext Hm.ext x12) q11).mono ?_
  rintro _ _ ⟨rfl, rfl⟩
  refine (c6 r1 (by omega)).mono ?_
  rintro v15 h16 ⟨x16, q15⟩
  have r1 := r1.ext Hm.ext x16
  have r2 := r2.ext Hm.ext x16
  refine (c6 r2 (by omega)).mono ?_
  rintro v17 h18 ⟨x18, q17⟩
  have r1 := r1.ext Hm.ext x18
  have r2 := r2.ext Hm.ext x18
  have q15 := q15.ext Hm.ext x18
  refine (c7 q15 q17).mono ?_
  rintro _ _ ⟨rfl, rfl⟩
  have en : binA Try.prog .neq 4 (B (decide (l1 = l2))) (B (decide (l1 = l2))) = some (.bool false) := by
    have e : ∀ b : Bool, binA Try.prog .neq 4 (.bool b) (.bool b) = some (.bool false) := fun b => by cases b <;> kernel_rfl
    exact e _
  simp only [en, Bnd_some, OnB_bool, Br_false]
  refine (c6 r1 (by omega)).mono ?_
  rintro v23 h24 ⟨x24, q23⟩
  have r2 := r2.ext Hm.ext x24
  have q15 := q15.ext Hm.ext x24
  have q17 := q17.ext Hm.ext x24
  refine (c8 q15 q23).mono ?_
  rintro _ h26 ⟨x26, rfl⟩
  simp only [u_not, Bnd_some, OnB_bool, decide_true, Bool.not_true, Br_false]
  refine (c6 (r2.ext Hm.ext x26) (by omega)).mono ?_
  rintro v29 h30 ⟨x30, q29⟩
  refine (c8 ((q17.ext Hm.ext x26).ext Hm.ext x30) q29).mono ?_
  rintro _ h32 ⟨x32, rfl⟩
  simp only [u_not, Bnd_some, OnB_bool, decide_true, Bool.not_true, Br_false]
end Go.Proofs.Ytlihmncbhaimkaa.Am
