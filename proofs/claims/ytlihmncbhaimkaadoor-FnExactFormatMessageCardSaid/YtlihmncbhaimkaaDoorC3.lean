/- Texts of this claim, joined: AmX, AmD, AmArg, AmD2, Shelf, X, GnH, Gn0. -/
import Derived.Test.YtlihmncbhaimkaaDoorC2
import Derived.Shelf.Strconv.Itoa3
import Derived.Shelf.Strings.OnBuilder
import Derived.Shelf.LaysM
import Derived.Test.YtlihmncbhaimkaaDoorProg
import Derived.KernelRfl
/- Calls of the library that are taken by their contracts: strconv.Itoa and strings.Join. -/
namespace Go.Proofs.YtlihmncbhaimkaaDoor.Am
open Go Go.RowKit

section
variable {P : Program} {base : Nat} {r : Ren} {h : Heap} {w w' : World}
/-- The tie holds on where the model's world has grown alone. -/
theorem RH.later (hr : RH P base r h w) (b : Below w.heap.size w w') : RH P base r h w' where
  base_le := Nat.le_trans hr.base_le b.size
  dom := hr.dom
  tot := hr.tot
  cells n x cs esz g ro hx hb := by
    obtain ⟨h1, h2, h3, h4, Cs, ty, fz, h5, h6, h7, h8⟩ := hr.cells n x cs esz g ro hx hb
    have hlt : x.c < w.heap.size := (Array.getElem?_eq_some_iff.1 h5).1
    have e := b.block x.c hlt
    exact ⟨h1, h2, h3, h4, Cs, ty, fz, by rw [e]; exact h5, h6, h7, fun k => ⟨(h8 k).1, fun i hi => by rw [frozen_block (w := w) e]; exact (h8 k).2 i hi⟩⟩
  maps n x es hx hb := by
    obtain ⟨h0, Es, clock, h1, h2⟩ := hr.maps n x es hx hb
    have hlt : x.c < w.heap.size := (Array.getElem?_eq_some_iff.1 h1).1
    exact ⟨h0, Es, clock, by rw [b.block x.c hlt]; exact h1, h2⟩
  sep := hr.sep
  globs := hr.globs
theorem Step.later (hr : RH P base r h w) (b : Below w.heap.size w w') : Step P base r h w r h w' :=
  ⟨Ren.le.refl r, hr.later b, b.mono hr.base_le, b.size, fun k hk _ => b.block k hk, fun _ hi => .inl hi, Nat.le_refl _, fun _ _ hl => hl, fun _ _ hx => .inl hx⟩

/-! ### strconv.Itoa -/
/-- The table that Itoa reads. -/
def powV : List Value := Lib.pow10Tab.map fun z => .int .u64 z
def HasTab (g : Nat) (h : Heap) : Prop := h.get g = .cells powV 1 false true
open Classical in
noncomputable def itoaX (g : Nat) (args : List Value) (h : Heap) : Option (Value × Heap) := match args with
  | [.int .i64 n] => if HasTab g h ∧ -9223372036854775808 ≤ n ∧ n ≤ 9223372036854775807 then some (.string ⟨(Lib.itoa n).toArray⟩, h) else none
  | _ => none
theorem tab_of (hr : RH P base r h w) {g : Nat} {name : String} (hg : P.globalNamed name = some g) (hs : g < P.globals.size) (t : HasTab g h) : Lib.TabIs P w name .u64 Lib.pow10Tab := by
  obtain ⟨x, h1, h2, h3, h4⟩ := hr.globs g hs
  obtain ⟨_, e2, _, e4, Cs, ty, fz, e5, e6, e7, _⟩ := hr.cells g x _ _ _ _ h1 t
  rw [h2] at e5
  unfold Lib.TabIs World.var?
  rw [hg, Option.bind_some, e5]
  simp only [Option.some.injEq]
  have hl : Cs.size = powV.length := by rw [e6, h4, e2]
  apply Array.ext'
  rw [show (Lib.pow10Tab.map fun z => Value.int .u64 z) = powV from rfl]
  apply List.ext_getElem?
  intro i
  rw [List.toList_toArray]
  cases hv : powV[i]? with
  | none =>
    rw [List.getElem?_eq_none_iff] at hv ⊢
    rw [Array.length_toList]
    omega
  | some v =>
    obtain ⟨v', q1, q2⟩ := e7 i v hv
    rw [h3, Nat.zero_add] at q1
    rw [Array.getElem?_toList, q1]
    unfold powV at hv
    rw [List.getElem?_map] at hv
    obtain ⟨z, _, rfl⟩ := map_inv hv
    cases q2
    rfl
theorem itoa_sound {ρ : Shelf.Ren} (L : LaysM.n171 P ρ) {g : Nat} (hg : P.globalNamed "internal/strconv.uint64pow10" = some g) (hs : g < P.globals.size) {args : List Value} {h' : Heap} {v : Value} (k : itoaX g args h = some (v, h')) {args' : Array Value} (ha : RL r args args'.toList) (hr : RH P base r h w) :
    Calls P (ρ.f 171) args' w fun e w' => ∃ r' v', e = .returned v' ∧ RV r' v v' ∧ Step P base r h w r' h' w' := by
  unfold itoaX at k
  split at k
  · rename_i n
    split at k
    · rename_i hc
      cases k
      obtain ⟨u, us, e, q1, q2⟩ := ha.cons_inv
      cases q1
      obtain rfl := RL.nil_inv q2
      obtain rfl : args' = #[.int .i64 n] := by cases args'; simp_all
      refine (Any.strconv_Itoa L n hc.2.1 hc.2.2 w (tab_of hr hg hs hc.1)).mono ?_
      rintro e w' ⟨rfl, m, os, rfl⟩
      refine ⟨r, _, rfl, .string _, Step.later hr ⟨rfl, rfl, rfl, ?_, fun i hi => ?_⟩⟩
      · show w.heap.size ≤ (w.heap ++ os).size
        simp
      · show (w.heap ++ os)[i]? = _
        rw [Array.getElem?_append_left hi]
    · cases k
  · cases k

/-! ### strings.Join -/
def strsOf : List Value → Option (List ByteArray)
  | [] => some []
  | .string s :: l => (strsOf l).map (s :: ·)
  | _ => none
def joinB (xs : List ByteArray) (sep : ByteArray) : List UInt8 := Lib.join (xs.map (·.data.toList)) sep.data.toList
def joinX (args : List Value) (h : Heap) : Option (Value × Heap) := match args with
  | [.slice (some ⟨b, o, none⟩) (n + 1) _, .string sep] => (loadC h b o (n + 1)).bind fun l => (strsOf l).bind fun xs =>
    if n + 1 ≤ 140737488355328 ∧ (joinB xs sep).length ≤ 140737488355328 then some (.string ⟨(joinB xs sep).toArray⟩, h) else none
  | _ => none
theorem strsOf_some : ∀ {l : List Value} {xs : List ByteArray}, strsOf l = some xs → l = xs.map .string
  | [], xs, k => by cases k; rfl
  | v :: l, xs, k => by
    unfold strsOf at k
    split at k
    · rename_i e; cases e
    · rename_i s l' e
      cases e
      obtain ⟨ys, h1, h2⟩ := map_inv k
      subst h2
      rw [strsOf_some h1]
      rfl
    · cases k
theorem join_sound {ρ : Shelf.Ren} (L : Lays.n156 P ρ) (X : Builder.Extra P ρ) {args : List Value} {h' : Heap} {v : Value} (k : joinX args h = some (v, h')) {args' : Array Value} (ha : RL r args args'.toList) (hr : RH P base r h w) :
    Calls P (ρ.f 156) args' w fun e w' => ∃ r' v', e = .returned v' ∧ RV r' v v' ∧ Step P base r h w r' h' w' := by
  unfold joinX at k
  split at k
  · rename_i b o n c sep
    obtain ⟨l, hl, k⟩ := bind_inv k
    obtain ⟨xs, hxs, k⟩ := bind_inv k
    split at k
    · rename_i hc
      cases k
      obtain rfl := strsOf_some hxs
      obtain ⟨u, us, e, q1, q2⟩ := ha.cons_inv
      obtain ⟨u2, us2, rfl, q3, q4⟩ := q2.cons_inv
      obtain rfl := RL.nil_inv q4
      cases q3
      cases q1 with
      | slice _ _ _ _ c2 a x hx h1 h2 h3 h4 =>
      obtain rfl := h3 (by omega)
      obtain rfl : args' = #[.slice (some ⟨x.c, x.o + o, none⟩) (n + 1) c2, .string sep] := by cases args'; simp_all
      unfold loadC at hl
      split at hl
      · rename_i cs esz g ro hb
        unfold rdCells at hl
        split at hl
        · rename_i hle
          have hl : (cs.drop o).take (n + 1) = xs.map .string := Option.some.inj hl
          obtain ⟨_, e2, _, e4, Cs, ty, fz, e5, e6, e7, _⟩ := hr.cells b x _ _ _ _ hx hb
          have hlen : xs.length = n + 1 := by
            have := congrArg List.length hl
            simp at this
            omega
          rw [← hlen]
          refine (Any.strings_Join L X x.c (x.o + o) c2 xs sep w (fun j s hj => ?_) (Array.getElem?_eq_some_iff.1 e5).1 (by omega) (by omega) hc.2).mono ?_
          · have hjl := (List.getElem?_eq_some_iff.1 hj).1
            have hv : cs[o + j]? = some (.string s) := by
              have : ((cs.drop o).take (n + 1))[j]? = some (.string s) := by rw [hl]; simp [hj]
              rw [List.getElem?_take, if_pos (by omega), List.getElem?_drop] at this
              exact this
            obtain ⟨v', g1, g2⟩ := e7 (o + j) _ hv
            cases g2
            unfold World.cell?
            simp only [e5]
            rw [← Nat.add_assoc] at g1
            simpa using g1
          · rintro e w' ⟨rfl, bel⟩
            exact ⟨r, _, rfl, .string _, Step.later hr bel⟩
        · cases hl
      · cases hl
    · cases k
  · cases k
end

/-! ### What they do, over data -/
section
variable {C : Oracle} {U : Heap → Prop}
/-- A slice of strings. -/
def strsD (xs : List ByteArray) : D := .sl 1 xs.length (xs.map fun s => .v (.string s))
theorem itoa_sem {f g : Nat} (hC : ∀ n h, C f [.int .i64 n] h = itoaX g [.int .i64 n] h) (hU : ∀ h, U h → HasTab g h) {n : Int} (h0 : -9223372036854775808 ≤ n) (h1 : n ≤ 9223372036854775807) : SemU U C f [.val (.int n)] (.str (Lib.itoa n)) [] := by
  intro h O vs hu hlt hO a
  cases a with
  | val x v bs vs r rs =>
    cases rs
    cases r with
    | v _ c1 c2 =>
    refine ⟨.string ⟨(Lib.itoa n).toArray⟩, h, ?_, Nat.le_refl _, fun _ _ _ => rfl, hlt, .v _ rfl rfl, trivial⟩
    rw [hC]
    unfold itoaX
    simp only
    rw [if_pos ⟨hU h hu, h0, h1⟩]
theorem RDs.strs {h : Heap} {p : Nat → Prop} : ∀ {xs : List ByteArray} {vs : List Value}, RDs h p (xs.map fun s => .v (.string s)) vs → vs = xs.map .string
  | [], vs, r => r.nil_inv
  | x :: xs, vs, r => by
    obtain ⟨v, us, rfl, r1, r2⟩ := r.cons_inv
    cases r1
    rw [RDs.strs r2]
    rfl
theorem strsOf_mk : ∀ (xs : List ByteArray), strsOf (xs.map .string) = some xs
  | [] => rfl
  | x :: xs => by
    show (strsOf (xs.map .string)).map (x :: ·) = _
    rw [strsOf_mk xs]
    rfl
theorem join_sem {f : Nat} (hC : ∀ us h, C f us h = joinX us h) {xs : List ByteArray} {sep : ByteArray} (h0 : xs ≠ []) (h1 : xs.length ≤ 140737488355328) (h2 : (joinB xs sep).length ≤ 140737488355328) :
    SemU U C f [.val (strsD xs), .val (.v (.string sep))] (.str (joinB xs sep)) [] := by
  intro h O vs hu hlt hO a
  cases a with
  | val x v bs vs r rs =>
  cases rs with
  | val x2 v2 bs2 vs2 r2 rs2 =>
  cases rs2
  cases r2 with
  | v _ c1 c2 =>
  have hpos : 0 < xs.length := List.length_pos_iff.2 h0
  refine ⟨.string ⟨(joinB xs sep).toArray⟩, h, ?_, Nat.le_refl _, fun _ _ _ => rfl, hlt, .v _ rfl rfl, trivial⟩
  rw [hC]
  unfold strsD at r
  generalize hds : (xs.map fun s => D.v (.string s)) = ds at r
  generalize hn : xs.length = n at r
  cases r with
  | nil => omega
  | sl _ _ _ b o c cs s g ro k1 k2 k3 k4 k5 k6 k7 =>
    subst hds
    have hcs : (cs.drop o).take xs.length = xs.map .string := by
      refine RDs.strs (h := h) (p := O) ⟨by simp at k5 ⊢; omega, fun i d v hd hv => ?_⟩
      rw [List.getElem?_take] at hv
      split at hv
      · rw [List.getElem?_drop] at hv
        exact k7 i d v hd hv
      · cases hv
    obtain ⟨m, rfl⟩ : ∃ m, n = m + 1 := ⟨n - 1, by omega⟩
    unfold joinX
    simp only [loadC, k1, rdCells]
    rw [if_pos (by simp at k5; omega), ← hn, hcs, Option.bind_some, strsOf_mk, Option.bind_some, if_pos ⟨h1, h2⟩]
end
end Go.Proofs.YtlihmncbhaimkaaDoor.Am
/- Laws of the operations on data: numbers, strings, slices. -/
namespace Go.Proofs.YtlihmncbhaimkaaDoor.Am
open Go Go.RowKit

theorem OnBD_bool (t : Bool) (K : Bool → Prop) : OnBD (.bool t) K = K t := propext ⟨fun ⟨_, e, k⟩ => by cases e; exact k, fun k => ⟨t, rfl, k⟩⟩
theorem BndR.of {o : Option (Nat × List D)} {n : Nat} {ds : List D} {K : Nat → List D → Prop} (e : o = some (n, ds)) (k : K n ds) : BndR o K := ⟨n, ds, e, k⟩
theorem Br_iff (t : Bool) (A B : Prop) : Br t A B = ((t = true → A) ∧ (t = false → B)) := rfl
section
variable {P : Program}
/-! ### Numbers -/
theorem d_add (t : TypeId) (a b : Int) : binD P .add t (.int a) (.int b) = some (.int (IntKind.i64.wrap (a + b))) := by simp [binD, toV, binA, intOp]
theorem d_sub (t : TypeId) (a b : Int) : binD P .sub t (.int a) (.int b) = some (.int (IntKind.i64.wrap (a - b))) := by simp [binD, toV, binA, intOp]
theorem d_lss (t : TypeId) (a b : Int) : binD P .lss t (.int a) (.int b) = some (.bool (decide (a < b))) := by simp [binD, toV, binA, intOp]
theorem d_leq (t : TypeId) (a b : Int) : binD P .leq t (.int a) (.int b) = some (.bool (decide (a ≤ b))) := by simp [binD, toV, binA, intOp]
theorem d_gtr (t : TypeId) (a b : Int) : binD P .gtr t (.int a) (.int b) = some (.bool (decide (b < a))) := by simp [binD, toV, binA, intOp]
theorem d_geq (t : TypeId) (a b : Int) : binD P .geq t (.int a) (.int b) = some (.bool (decide (b ≤ a))) := by simp [binD, toV, binA, intOp]
theorem d_eql (t : TypeId) (a b : Int) : binD P .eql t (.int a) (.int b) = some (.bool (decide (a = b))) := by simp [binD, toV, binA, intOp]; rfl
theorem d_neq (t : TypeId) (a b : Int) : binD P .neq t (.int a) (.int b) = some (.bool (!decide (a = b))) := by simp [binD, toV, binA, intOp]; rfl
theorem d_rem (t : TypeId) (a b : Int) (h : b ≠ 0) : binD P .rem t (.int a) (.int b) = some (.int (a.tmod b)) := by simp [binD, toV, binA, intOp, h]
theorem d_quo (t : TypeId) (a b : Int) (h : b ≠ 0) : binD P .quo t (.int a) (.int b) = some (.int (IntKind.i64.wrap (a.tdiv b))) := by simp [binD, toV, binA, intOp, h]
theorem d_neg (a : Int) : unD .neg (.int a) = some (.int (IntKind.i64.wrap (0 - a))) := rfl
theorem d_not (b : Bool) : unD .not (.bool b) = some (.bool (!b)) := rfl
/-! ### Strings -/
theorem str_app (a b : List UInt8) : (⟨a.toArray⟩ : ByteArray) ++ ⟨b.toArray⟩ = ⟨(a ++ b).toArray⟩ := by
  apply ByteArray.ext
  apply Array.ext'
  simp
theorem str_size (a : List UInt8) : (⟨a.toArray⟩ : ByteArray).size = a.length := by simp [ByteArray.size]
theorem str_toList (a : List UInt8) : (⟨a.toArray⟩ : ByteArray).data.toList = a := rfl
theorem d_sadd (t : TypeId) (a b : List UInt8) (h : a.length + b.length ≤ 70368744177664) : binD P .add t (.str a) (.str b) = some (.str (a ++ b)) := by
  simp only [binD, toV, binA, strOp, str_size, h, if_true, Option.map_some, str_app]
theorem beq_dec (a b : List UInt8) : (a == b) = decide (a = b) := by
  by_cases h : a = b <;> simp [h]
theorem d_seql (t : TypeId) (a b : List UInt8) : binD P .eql t (.str a) (.str b) = some (.bool (decide (a = b))) := by
  simp only [binD, toV, binA, strOp, Option.map_some]
  have e : ∀ l : List UInt8, (⟨l.toArray⟩ : ByteArray).toList = l := fun l => by simp [ByteArray.toList_eq]
  rw [e, e, beq_dec]
theorem d_sneq (t : TypeId) (a b : List UInt8) : binD P .neq t (.str a) (.str b) = some (.bool (!decide (a = b))) := by
  simp only [binD, toV, binA, strOp, Option.map_some]
  have e : ∀ l : List UInt8, (⟨l.toArray⟩ : ByteArray).toList = l := fun l => by simp [ByteArray.toList_eq]
  rw [e, e, beq_dec]
/-! ### Slices -/
section
variable {t e : TypeId} {z n : Nat} {ds : List D}
theorem d_len (h : P.underlying t = some (.slice e)) : lenD P t (.sl z n ds) = some (.int n) := by simp only [lenD, h]
theorem d_ia (h : P.underlying t = some (.slice e)) (he : (P.info? e).isSome = true) (hz : sz P e = z) {i : Int} (h0 : 0 ≤ i) (h1 : i < n) : indexAddrD P t (.sl z n ds) (.int i) = some (.rp ds (i.toNat * z)) := by
  simp only [indexAddrD, h]
  rw [if_pos ⟨he, hz.symm, h0, h1⟩]
theorem d_load (h : aggT P t = some true) (hz : sz P t = z) {i : Nat} (hl : i + z ≤ ds.length) : loadD P t (.rp ds i) = some (.agg ((ds.drop i).take z)) := by
  simp only [loadD, partD, h, hz, rdD, if_pos hl, Option.map_some]
theorem d_load1 (h : aggT P t = some false) {i : Nat} : loadD P t (.rp ds i) = ds[i]? := by
  simp only [loadD, partD, h]
end
/-! ### Rows of elements -/
/-- A slice of elements, each of z cells. -/
def rowD {α : Type} (z : Nat) (f : α → List D) (l : List α) : D := .sl z l.length (l.flatMap f)
section
variable {α : Type} {z : Nat} {f : α → List D}
theorem fm_len (hf : ∀ x, (f x).length = z) : ∀ l : List α, (l.flatMap f).length = l.length * z
  | [] => by simp
  | x :: l => by simp [hf, fm_len hf l, Nat.succ_mul, Nat.add_comm]
theorem fm_at (hf : ∀ x, (f x).length = z) : ∀ (l : List α) (i : Nat) (x : α), l[i]? = some x → ((l.flatMap f).drop (i * z)).take z = f x
  | [], i, x, h => by simp at h
  | y :: l, 0, x, h => by
    simp at h
    subst h
    simp [← hf y]
  | y :: l, i + 1, x, h => by
    rw [List.flatMap_cons, Nat.succ_mul, Nat.add_comm, ← List.drop_drop]
    have := hf y
    rw [List.drop_left' this]
    exact fm_at hf l i x (by simpa using h)
theorem d_at {t e : TypeId} (h : P.underlying t = some (.slice e)) (he : (P.info? e).isSome = true) (ha : aggT P e = some true) (hz : sz P e = z) (hf : ∀ x, (f x).length = z) {l : List α} {i : Nat} {x : α} (hx : l[i]? = some x) :
    indexAddrD P t (rowD z f l) (.int i) = some (.rp (l.flatMap f) (i * z)) ∧ loadD P e (.rp (l.flatMap f) (i * z)) = some (.agg (f x)) := by
  have hi := (List.getElem?_eq_some_iff.1 hx).1
  refine ⟨?_, ?_⟩
  · have := d_ia (ds := l.flatMap f) (n := l.length) h he hz (i := (i : Int)) (by omega) (by omega)
    simpa [rowD] using this
  · rw [d_load ha hz, fm_at hf l i x hx]
    rw [fm_len hf]
    have : i * z + z = (i + 1) * z := by rw [Nat.succ_mul]
    rw [this]
    exact Nat.mul_le_mul_right z hi
theorem d_at1 {t e : TypeId} {f : α → D} (h : P.underlying t = some (.slice e)) (he : (P.info? e).isSome = true) (ha : aggT P e = some false) (hz : sz P e = 1) {l : List α} {i : Nat} {x : α} (hx : l[i]? = some x) :
    indexAddrD P t (.sl 1 l.length (l.map f)) (.int i) = some (.rp (l.map f) (i * 1)) ∧ loadD P e (.rp (l.map f) (i * 1)) = some (f x) := by
  have hi := (List.getElem?_eq_some_iff.1 hx).1
  refine ⟨?_, ?_⟩
  · have := d_ia (ds := l.map f) (n := l.length) h he hz (i := (i : Int)) (by omega) (by omega)
    simpa using this
  · rw [d_load1 ha]
    simp [hx]
end
end
/-- The measure of a loop that counts up. -/
def upM (n j : Nat) (l : List D) : Nat := match l[j]? with
  | some (.v (.int _ i)) => n - i.toNat
  | _ => 0
end Go.Proofs.YtlihmncbhaimkaaDoor.Am
/- Arguments of any depth: what they read as, and the start at which they lie. -/
namespace Go.Proofs.YtlihmncbhaimkaaDoor.Am
open Go Go.RowKit

/-- A number that an int holds. -/
def InR (n : Int) : Prop := -9223372036854775808 ≤ n ∧ n ≤ 9223372036854775807
theorem InR.wrap {n : Int} (h : InR n) : IntKind.i64.wrap n = n := wrap_in h.1 (by have := h.2; omega)

/-- A value of the model, and the data that it stands for. -/
inductive Mr (W : World) : Value → D → Prop
  | int (n : Int) : Mr W (.int .i64 n) (.int n)
  | str (s : ByteArray) : Mr W (.string s) (.v (.string s))
  | nil (a : Option Addr) (z : Nat) : Mr W (.slice a 0 0) (.sl z 0 [])
  | sl (b o len cap z : Nat) (ds : List D) (Cs : Array Value) (ty : TypeId) (fz : Nat × Nat) : len ≤ cap → W.heap[b]? = some (.cells Cs ty fz) → o + ds.length ≤ Cs.size →
      (∀ (i : Nat) d v, ds[i]? = some d → Cs[o + i]? = some v → Mr W v d) → Mr W (.slice (some ⟨b, o, none⟩) len cap) (.sl z len ds)
def MrRow (W : World) (cs : List Value) (ds : List D) : Prop := cs.length = ds.length ∧ ∀ (i : Nat) v d, cs[i]? = some v → ds[i]? = some d → Mr W v d
theorem MrRow.nil {W : World} : MrRow W [] [] := ⟨rfl, by simp⟩
theorem MrRow.cons {W : World} {v : Value} {d : D} {cs : List Value} {ds : List D} (a : Mr W v d) (b : MrRow W cs ds) : MrRow W (v :: cs) (d :: ds) :=
  ⟨by simp [b.1], fun i x y hx hy => by
    cases i with
    | zero => simp at hx hy; subst hx; subst hy; exact a
    | succ i => exact b.2 i x y (by simpa using hx) (by simpa using hy)⟩
theorem MrRow.append {W : World} {cs cs' : List Value} {ds ds' : List D} (a : MrRow W cs ds) (b : MrRow W cs' ds') : MrRow W (cs ++ cs') (ds ++ ds') := by
  refine ⟨by simp [a.1, b.1], fun i x y hx hy => ?_⟩
  rw [List.getElem?_append] at hx hy
  rw [← a.1] at hy
  split at hx
  · rename_i hi; rw [if_pos hi] at hy; exact a.2 _ _ _ hx hy
  · rename_i hi; rw [if_neg hi] at hy; exact b.2 _ _ _ hx hy
theorem MrRow.one {W : World} {v : Value} {d : D} (a : Mr W v d) : MrRow W [v] [d] := .cons a .nil

section
variable {P : Program} {W : World} {gl : Nat → Option (Nat × List Value)} {bs more : List (RB × Option (List Value))}
abbrev noOwn : Nat → Prop := fun _ => False
theorem startR_le : Ren.le (startR P gl bs) (startR P gl (bs ++ more)) := fun n x h => by
  unfold startR at h ⊢
  split at h
  · rename_i hn; rw [if_pos hn]; exact h
  · rename_i hn
    rw [if_neg hn]
    obtain ⟨y, h1, h2⟩ := map_inv h
    rw [List.getElem?_append_left (List.getElem?_eq_some_iff.1 h1).1, h1, ← h2]
    rfl
theorem start_keep : Keep (startH P gl bs) noOwn (startH P gl (bs ++ more)) noOwn := ⟨fun n hl _ => by
  rcases startH_live hl with ⟨i, x, cs, rfl, h1, h2⟩ | ⟨s, cs, h0, h1, h2⟩
  · rw [h2, startH_at (by rw [List.getElem?_append_left (List.getElem?_eq_some_iff.1 h1).1]; exact h1)]
  · rw [h2, startH_glob h0 h1], fun _ _ _ h => h⟩
theorem start_lt : ∀ n, ((startH P gl bs).get n).live = true → n < (startH P gl bs).next := fun n hl => by
  show n < P.globals.size + bs.length
  rcases startH_live hl with ⟨i, x, cs, rfl, h1, _⟩ | ⟨s, cs, h0, _⟩
  · have := (List.getElem?_eq_some_iff.1 h1).1
    omega
  · omega
/-- A start with one block more. -/
theorem StartOk.put (s : StartOk P W gl bs) {x : RB} {cs : List Value} (h : x.len = cs.length ∧ x.grow = false ∧ x.o + x.len ≤ x.sz ∧ ∃ Cs ty fz, W.heap[x.c]? = some (.cells Cs ty fz) ∧ Cs.size = x.sz ∧ ∀ (j : Nat) v, cs[j]? = some v → ∃ v', Cs[x.o + j]? = some v' ∧ RV (startR P gl bs) v v') : StartOk P W gl (bs ++ [(x, some cs)]) := by
  refine ⟨fun i y ds hi => ?_, fun g n ds h1 h2 => ?_⟩
  · rw [List.getElem?_append] at hi
    split at hi
    · obtain ⟨h1, h2, h3, Cs, ty, fz, h4, h5, h6⟩ := s.each i y ds hi
      refine ⟨h1, h2, h3, Cs, ty, fz, h4, h5, fun j v hj => ?_⟩
      obtain ⟨v', g1, g2⟩ := h6 j v hj
      exact ⟨v', g1, g2.mono startR_le⟩
    · rename_i hge
      have : i - bs.length = 0 := by
        have := (List.getElem?_eq_some_iff.1 hi).1
        simp at this
        omega
      rw [this] at hi
      simp at hi
      obtain ⟨rfl, rfl⟩ := hi
      obtain ⟨h1, h2, h3, Cs, ty, fz, h4, h5, h6⟩ := h
      refine ⟨h1, h2, h3, Cs, ty, fz, h4, h5, fun j v hj => ?_⟩
      obtain ⟨v', g1, g2⟩ := h6 j v hj
      exact ⟨v', g1, g2.mono startR_le⟩
  · obtain ⟨Cs, ty, fz, h4, h5, h6⟩ := s.globs g n ds h1 h2
    refine ⟨Cs, ty, fz, h4, h5, fun j v hj => ?_⟩
    obtain ⟨v', g1, g2⟩ := h6 j v hj
    exact ⟨v', g1, g2.mono startR_le⟩
/-- Where a value can be laid at the start. -/
def Lays (P : Program) (W : World) (gl : Nat → Option (Nat × List Value)) (v : Value) (d : D) : Prop := ∀ bs, StartOk P W gl bs → ∃ more, StartOk P W gl (bs ++ more) ∧ ∃ u, RV (startR P gl (bs ++ more)) u v ∧ RD (startH P gl (bs ++ more)) noOwn d u ∧ isOne u = true
theorem lays_row : ∀ {cs : List Value} {ds : List D}, cs.length = ds.length → (∀ (i : Nat) v d, cs[i]? = some v → ds[i]? = some d → Lays P W gl v d) →
    ∀ bs, StartOk P W gl bs → ∃ more, StartOk P W gl (bs ++ more) ∧ ∃ us, RL (startR P gl (bs ++ more)) us cs ∧ RDs (startH P gl (bs ++ more)) noOwn ds us ∧ us.all isOne = true
  | [], [], _, _, bs, s => ⟨[], by rw [List.append_nil]; exact s, [], RL.nil _, RDs.nil, rfl⟩
  | [], _ :: _, h, _, _, _ => by simp at h
  | _ :: _, [], h, _, _, _ => by simp at h
  | v :: cs, d :: ds, hl, h, bs, s => by
    obtain ⟨m1, s1, u, h1, h2, h3⟩ := h 0 v d rfl rfl bs s
    obtain ⟨m2, s2, us, g1, g2, g3⟩ := lays_row (by simpa using hl) (fun i v d hv hd => h (i + 1) v d (by simpa using hv) (by simpa using hd)) (bs ++ m1) s1
    rw [List.append_assoc] at s2 g1 g2
    refine ⟨m1 ++ m2, s2, u :: us, RL.cons ?_ g1, RDs.cons ?_ g2, by simp [h3, g3]⟩
    · rw [← List.append_assoc]; exact h1.mono startR_le
    · rw [← List.append_assoc]; exact h2.keep start_keep
/-- What reads as data can be laid. -/
theorem Mr.lays (hg : ∃ g s cs, g < P.globals.size ∧ gl g = some (s, cs)) {v : Value} {d : D} (m : Mr W v d) : Lays P W gl v d := by
  induction m with
  | int n => exact fun bs s => ⟨[], by rw [List.append_nil]; exact s, _, .int _ _, .v _ rfl rfl, rfl⟩
  | str n => exact fun bs s => ⟨[], by rw [List.append_nil]; exact s, _, .string _, .v _ rfl rfl, rfl⟩
  | nil a z =>
    intro bs s
    refine ⟨[], by rw [List.append_nil]; exact s, ?_⟩
    cases a with
    | none => exact ⟨_, .nilSlice, .nil _, rfl⟩
    | some a =>
      obtain ⟨g, n, cs, h1, h2⟩ := hg
      exact ⟨.slice (some ⟨g, 0, none⟩) 0 0, .slice _ _ _ _ _ _ _ (startR_glob h1 h2) (Nat.le_refl _) (Nat.le_refl _) (fun h => absurd rfl h) (.inl rfl),
        .sl z 0 [] g 0 0 cs n false true (startH_glob h1 h2) (fun h => h) (.inr rfl) (Nat.le_refl _) (by simp) (by simp) (by simp), rfl⟩
  | sl b o len cap z ds Cs ty fz h1 h2 h3 _ ih =>
    intro bs s
    have hlen : ((Cs.toList.drop o).take ds.length).length = ds.length := by
      simp
      omega
    obtain ⟨m1, s1, us, g1, g2, g3⟩ := lays_row (P := P) (W := W) (gl := gl) (cs := (Cs.toList.drop o).take ds.length) (ds := ds) hlen (fun i v d hv hd => ih i d v hd (by
      rw [List.getElem?_take] at hv
      split at hv
      · rw [List.getElem?_drop] at hv
        simpa using hv
      · cases hv)) bs s
    have hul : us.length = ds.length := g2.1.symm
    have s2 := s1.put (x := ⟨b, o, Cs.size, z, us.length, false⟩) (cs := us) ⟨rfl, rfl, by show o + us.length ≤ Cs.size; omega, Cs, ty, fz, h2, rfl, fun j v hj => by
      obtain ⟨v', q1, q2⟩ := g1.get hj
      refine ⟨v', ?_, q2⟩
      rw [List.getElem?_take] at q1
      split at q1
      · rw [List.getElem?_drop] at q1
        simpa using q1
      · cases q1⟩
    rw [List.append_assoc] at s2
    have hat : (bs ++ (m1 ++ [((⟨b, o, Cs.size, z, us.length, false⟩ : RB), some us)]))[(bs ++ m1).length]? = some (⟨b, o, Cs.size, z, us.length, false⟩, some us) := by
      rw [← List.append_assoc, List.getElem?_append_right (Nat.le_refl _), Nat.sub_self]
      rfl
    refine ⟨_, s2, .slice (some ⟨P.globals.size + (bs ++ m1).length, 0, none⟩) len cap, .slice _ _ _ _ _ _ _ (startR_at hat) h1 (Nat.le_refl _) (fun _ => rfl) (.inl rfl),
      .sl z len ds _ 0 cap us z false true (startH_at hat) (fun h => h) (.inr rfl) h1 (by omega) ?_ (fun i d v hd hv => ?_), rfl⟩
    · rw [List.drop_zero, ← hul, List.take_length]
      exact g3
    · rw [Nat.zero_add] at hv
      have := g2.2 i d v hd hv
      rw [← List.append_assoc]
      exact this.keep start_keep
/-- A struct as an argument. -/
theorem agg_lays (hg : ∃ g s cs, g < P.globals.size ∧ gl g = some (s, cs)) {cs : List Value} {ds : List D} (m : MrRow W cs ds) (s : StartOk P W gl []) :
    ∃ bs, StartOk P W gl bs ∧ ∃ u, RV (startR P gl bs) u (.agg cs.toArray) ∧ RD (startH P gl bs) noOwn (.agg ds) u := by
  obtain ⟨bs, h1, us, h2, h3, h4⟩ := lays_row m.1 (fun i v d hv hd => (m.2 i v d hv hd).lays hg) [] s
  exact ⟨bs, h1, _, RV.of_agg h2, .agg ds us h3.1 h4 h3.2⟩
end

/-! ### What the readings say -/
section
variable {H : Type} {enc : TypeId × Value → H} {P : Program} {W : World}
/-- Whatever reads at a type reads as something that is 'ok'. -/
def Opens {α : Type} (enc : TypeId × Value → H) (P : Program) (W : World) (t : TypeId) (ok : α → Prop) (f : α → List D) : Prop :=
  ∀ (held : Bool) (fuel : Nat) (cs : List Value) (x : DataW H × List MemPlace), DataW.trod enc P W 0 (fun _ => true) held fuel t cs = some x → ∃ a, ok a ∧ MrRow W cs (f a)
theorem inR_wf {n : Int} (h : (Lit.int .i64 n).wf = true) : InR n := by
  have e1 : IntKind.i64.min = -9223372036854775808 := rfl
  have e2 : IntKind.i64.max = 9223372036854775807 := rfl
  simp [Lit.wf, e1, e2] at h
  exact ⟨by omega, by omega⟩
theorem open_i {t : TypeId} (h : P.underlying t = some (.int .i64)) : Opens enc P W t InR fun n => [.int n] := fun _ _ _ _ k => by
  obtain ⟨n, rfl, _, wf⟩ := DataW.trod_int h k
  exact ⟨n, inR_wf wf, .one (.int n)⟩
theorem open_s {t : TypeId} (h : P.underlying t = some .string) : Opens enc P W t (fun s : List UInt8 => s.length ≤ maxLen) fun s => [.str s] := fun _ _ _ _ k => by
  obtain ⟨s, rfl, _, wf⟩ := DataW.trod_string h k
  refine ⟨s.data.toList, ?_, .one ?_⟩
  · show s.data.toList.length ≤ maxLen
    rw [Array.length_toList]
    exact wf
  · have : (⟨s.data.toList.toArray⟩ : ByteArray) = s := rfl
    have e := Mr.str (W := W) s
    exact e
theorem add_none (b o j : Nat) : (⟨b, o, none⟩ : Addr).add j = ⟨b, o + j, none⟩ := by
  unfold Addr.add
  split
  · rename_i h; subst h; rfl
  · rfl
theorem open_sl {α : Type} {t e : TypeId} {z : Nat} {ok : α → Prop} {f : α → List D} (ht : P.underlying t = some (.slice e)) (hz : P.cellsOf e = z) (hpos : 0 < z) (hf : ∀ a, (f a).length = z) (he : Opens enc P W e ok f) :
    Opens enc P W t (fun l : List α => (∀ a ∈ l, ok a) ∧ l.length ≤ maxLen) fun l => [rowD z f l] := fun held fuel cs x k => by
  rcases DataW.trod_slice ht k with ⟨rfl, _⟩ | ⟨a, len, cap, elems, rest, n, _, rfl, _, _, hl, hm, hlen, hel, hsp, _⟩
  · exact ⟨[], ⟨by simp, by simp⟩, .one (.nil _ _)⟩
  · by_cases hc : cap = 0
    · subst hc
      obtain rfl : len = 0 := by omega
      exact ⟨[], ⟨by simp, by simp⟩, .one (.nil _ _)⟩
    rw [hz] at hel hsp
    -- cells of a place
    have cellsAt : ∀ i, (∃ y, (W.cells? 0 (a.add (i * z)) z).bind (DataW.trod enc P W 0 (fun _ => true) held n e) = some y) → ∃ cs', (∀ j, j < z → W.cell? ((a.add (i * z)).add j) = cs'[j]?) ∧ cs'.length = z ∧ ∃ q, ok q ∧ MrRow W cs' (f q) := by
      rintro i ⟨y, hy⟩
      rw [Option.bind_eq_some_iff] at hy
      obtain ⟨cs', hcs', hy'⟩ := hy
      obtain ⟨_, hlen', hcell⟩ := World.cells?_some hcs'
      obtain ⟨q, q1, q2⟩ := he held n cs' y hy'
      exact ⟨cs', fun j hj => hcell j hj, hlen', q, q1, q2⟩
    have at0 : ∃ y, (W.cells? 0 (a.add (0 * z)) z).bind (DataW.trod enc P W 0 (fun _ => true) held n e) = some y := by
      by_cases h0 : 0 < len
      · rw [hel 0 h0]
        exact ⟨elems[0]'(by omega), by simp [show 0 < elems.length by omega]⟩
      · obtain ⟨h1, h2⟩ := hsp rfl
        have := h2 0 (by omega)
        rw [show len + 0 = 0 by omega] at this
        rw [this]
        exact ⟨rest[0]'(by omega), by simp [show 0 < rest.length by omega]⟩
    obtain ⟨c0, k0, l0, _⟩ := cellsAt 0 at0
    have k00 := k0 0 hpos
    rw [show c0[0]? = some (c0[0]'(by omega)) by simp [show 0 < c0.length by omega]] at k00
    obtain ⟨Cs, ty, fz, hs, hw, _⟩ := cell_cells k00
    obtain ⟨b, o, sp⟩ := a
    have hsp0 : sp = none := by
      simp only [Nat.zero_mul, Addr.add] at hs
      simpa using hs
    subst hsp0
    have hwb : W.heap[b]? = some (.cells Cs ty fz) := by simpa [add_none] using hw
    have cellE : ∀ p, W.cell? ⟨b, p, none⟩ = Cs[p]? := fun p => by
      unfold World.cell?
      simp only [hwb]
      simp
    -- the elements, up to a number
    have build : ∀ m, m ≤ len → ∃ l : List α, l.length = m ∧ (∀ a ∈ l, ok a) ∧ (o + m * z ≤ Cs.size ∨ m = 0) ∧ ∀ (i : Nat) d v, (l.flatMap f)[i]? = some d → Cs[o + i]? = some v → Mr W v d := by
      intro m
      induction m with
      | zero => exact fun _ => ⟨[], rfl, by simp, .inr rfl, by simp⟩
      | succ m ih =>
        intro hm'
        obtain ⟨l, l1, l2, l3, l4⟩ := ih (by omega)
        obtain ⟨cs', k1, k2, q, q1, q2⟩ := cellsAt m (by
          rw [hel m (by omega)]
          exact ⟨elems[m]'(by omega), by simp [show m < elems.length by omega]⟩)
        simp only [add_none, cellE] at k1
        refine ⟨l ++ [q], by simp [l1], fun a ha => ?_, .inl ?_, fun i d v hd hv => ?_⟩
        · rcases List.mem_append.1 ha with h | h
          · exact l2 a h
          · simp at h; subst h; exact q1
        · have := k1 (z - 1) (by omega)
          rw [show cs'[z - 1]? = some (cs'[z - 1]'(by omega)) by simp [show z - 1 < cs'.length by omega]] at this
          have := (Array.getElem?_eq_some_iff.1 this).1
          rw [Nat.succ_mul]
          omega
        · rw [List.flatMap_append] at hd
          have fl : (l.flatMap f).length = m * z := by rw [fm_len hf, l1]
          rcases Nat.lt_or_ge i (m * z) with hi | hi
          · rw [List.getElem?_append_left (by omega)] at hd
            exact l4 i d v hd hv
          · rw [List.getElem?_append_right (by omega), fl] at hd
            simp only [List.flatMap_cons, List.flatMap_nil, List.append_nil] at hd
            have hj : i - m * z < z := by
              have := (List.getElem?_eq_some_iff.1 hd).1
              rw [hf] at this
              exact this
            have := k1 (i - m * z) hj
            rw [show o + m * z + (i - m * z) = o + i by omega, hv] at this
            exact q2.2 (i - m * z) v d this.symm hd
    obtain ⟨l, l1, l2, l3, l4⟩ := build len (Nat.le_refl _)
    have ol : o ≤ Cs.size := by
      have := k0 0 hpos
      rw [show c0[0]? = some (c0[0]'(by omega)) by simp [show 0 < c0.length by omega]] at this
      simp only [add_none, cellE, Nat.zero_mul, Nat.add_zero] at this
      have := (Array.getElem?_eq_some_iff.1 this).1
      omega
    refine ⟨l, ⟨l2, by omega⟩, .one ?_⟩
    subst l1
    exact .sl b o l.length cap z (l.flatMap f) Cs ty fz hl hwb (by
      rw [fm_len hf]
      rcases l3 with h | h
      · exact h
      · rw [h]; omega) l4
end
end Go.Proofs.YtlihmncbhaimkaaDoor.Am
/- Laws on rows: made, filled, compared. -/
namespace Go.Proofs.YtlihmncbhaimkaaDoor.Am
open Go Go.RowKit

section
variable {P : Program} {t e : TypeId} {z : Nat}
theorem d_mk {zs : List D} {n : Nat} (h1 : n * by_ P e ≤ 70368744177664) (h2 : n ≤ 70368744177664) : mkD P e zs (.int n) = some (n, (List.replicate n zs).flatten) := by
  have h3 : (n : Int) * (by_ P e : Int) ≤ 70368744177664 := by
    rw [← Int.natCast_mul]
    generalize n * by_ P e = k at h1
    omega
  unfold mkD
  show (if 0 ≤ (n : Int) ∧ (n : Int) * (by_ P e : Int) ≤ 70368744177664 ∧ (n : Int) ≤ 70368744177664 then some ((n : Int).toNat, (List.replicate (n : Int).toNat zs).flatten) else none) = _
  rw [if_pos ⟨Int.natCast_nonneg n, h3, by omega⟩]
  rfl
theorem d_elem (h : P.underlying t = some (.slice e)) (he : (P.info? e).isSome = true) (hz : sz P e = z) {n i : Nat} (h1 : i < n) : elemP P t z n (.int i) = some (i * z) := by
  simp only [elemP, h]
  rw [if_pos ⟨he, hz.symm, by omega, by omega⟩]
  rfl
theorem wrD_app : ∀ (c : List D) (A Z B : List D), c.length = Z.length → wrD (A ++ (Z ++ B)) A.length c = A ++ (c ++ B)
  | [], A, [], B, _ => by simp [wrD]
  | [], A, _ :: _, B, h => by simp at h
  | _ :: _, A, [], B, h => by simp at h
  | x :: c, A, y :: Z, B, h => by
    have := wrD_app c (A ++ [x]) Z B (by simpa using h)
    simp only [wrD]
    have e1 : (A ++ (y :: Z ++ B)).set A.length x = A ++ [x] ++ (Z ++ B) := by simp
    rw [e1]
    have e2 : (A ++ [x]).length = A.length + 1 := by simp
    rw [e2] at this
    rw [this]
    simp
theorem d_put (ha : aggT P t = some true) {A Z B c : List D} (hc : c.length = sz P t) (hz : Z.length = c.length) : putD P t (A ++ (Z ++ B)) A.length (.agg c) = some (A ++ (c ++ B)) := by
  have e1 : cellsD P t (.agg c) = some c := by simp only [cellsD, ha, hc, if_true]
  simp only [putD, e1, Option.bind_some]
  rw [if_pos (by simp; omega), wrD_app c A Z B hz.symm]
end
section
variable {α : Type} {f : α → List D} {z : Nat}
/-- A row that is being filled. -/
def fillR (f : α → List D) (zs : List D) (l : List α) (i : Nat) : List D := (l.take i).flatMap f ++ (List.replicate (l.length - i) zs).flatten
theorem part_zero (zs : List D) (l : List α) : fillR f zs l 0 = (List.replicate l.length zs).flatten := by simp [fillR]
theorem part_end (zs : List D) (l : List α) : fillR f zs l l.length = l.flatMap f := by simp [fillR]
theorem part_step {P : Program} {t : TypeId} (ha : aggT P t = some true) (hz : sz P t = z) (hf : ∀ x, (f x).length = z) {zs : List D} (hl : zs.length = z) {l : List α} {i : Nat} {x : α} (hx : l[i]? = some x) :
    putD P t (fillR f zs l i) (i * z) (.agg (f x)) = some (fillR f zs l (i + 1)) := by
  have hi := (List.getElem?_eq_some_iff.1 hx).1
  have e1 : fillR f zs l i = (l.take i).flatMap f ++ (zs ++ (List.replicate (l.length - (i + 1)) zs).flatten) := by
    unfold fillR
    rw [show l.length - i = (l.length - (i + 1)) + 1 by omega, List.replicate_succ, List.flatten_cons]
  have e2 : fillR f zs l (i + 1) = (l.take i).flatMap f ++ (f x ++ (List.replicate (l.length - (i + 1)) zs).flatten) := by
    unfold fillR
    rw [List.take_add_one, hx]
    simp
  have e3 : ((l.take i).flatMap f).length = i * z := by rw [fm_len hf, List.length_take, Nat.min_eq_left (by omega)]
  rw [e1, e2, ← e3]
  exact d_put ha (by rw [hf, hz]) (by rw [hl, hf])
end
end Go.Proofs.YtlihmncbhaimkaaDoor.Am
/- Where the library's functions lie in this program: printed by the kit's tools (lay-shelf, lay-plain). -/
namespace Go.Proofs
open Go.Shelf
def Tryd.lays156_ren : Go.Shelf.Ren := ⟨fun | 156 => 54 | 165 => 72 | 166 => 73 | 169 => 74 | 240 => 77 | 241 => 78 | 276 => 80 | 277 => 81 | n => n, fun | 31 => 91 | 9 => 9 | 3 => 3 | 4 => 4 | 0 => 0 | 20 => 20 | 72 => 114 | 76 => 118 | 70 => 112 | 37 => 89 | 75 => 117 | 127 => 122 | 164 => 124 | 5 => 5 | 80 => 120 | n => n, fun | n => n⟩
theorem Tryd.lays156 : Go.Proofs.Lays.n156 Tryd.prog Tryd.lays156_ren := {
  mixed := by kernel_rfl
  f156 := Tryd.func54.trans (congrArg some (by kernel_rfl))
  f165 := Tryd.func72.trans (congrArg some (by kernel_rfl))
  f166 := Tryd.func73.trans (congrArg some (by kernel_rfl))
  f169 := Tryd.func74.trans (congrArg some (by kernel_rfl))
  f240 := Tryd.func77.trans (congrArg some (by kernel_rfl))
  f241 := Tryd.func78.trans (congrArg some (by kernel_rfl))
  f276 := Tryd.func80.trans (congrArg some (by kernel_rfl))
  f277 := Tryd.func81.trans (congrArg some (by kernel_rfl))
  t0 := Tryd.underlying0
  a0 := Tryd.isAgg0
  z0 := Tryd.sizeOf0
  v0 := Tryd.zeroValue0
  t3 := Tryd.underlying3
  a3 := Tryd.isAgg3
  z3 := Tryd.sizeOf3
  v3 := Tryd.zeroValue3
  t4 := Tryd.underlying4
  a4 := Tryd.isAgg4
  z4 := Tryd.sizeOf4
  v4 := Tryd.zeroValue4
  t9 := Tryd.underlying9
  a9 := Tryd.isAgg9
  z9 := Tryd.sizeOf9
  v9 := Tryd.zeroValue9
  t20 := Tryd.underlying20
  a20 := Tryd.isAgg20
  z20 := Tryd.sizeOf20
  v20 := Tryd.zeroValue20
  t31 := Tryd.underlying91
  a31 := Tryd.isAgg91
  z31 := Tryd.sizeOf91
  v31 := Tryd.zeroValue91
  t37 := Tryd.underlying89
  a37 := Tryd.isAgg89
  z37 := Tryd.sizeOf89
  v37 := Tryd.zeroValue89
  t70 := Tryd.underlying112
  a70 := Tryd.isAgg112
  z70 := Tryd.sizeOf112
  v70 := Tryd.zeroValue112
  t72 := Tryd.underlying114
  a72 := Tryd.isAgg114
  z72 := Tryd.sizeOf114
  v72 := Tryd.zeroValue114
  t75 := Tryd.underlying117
  a75 := Tryd.isAgg117
  z75 := Tryd.sizeOf117
  v75 := Tryd.zeroValue117
  t76 := Tryd.underlying118
  a76 := Tryd.isAgg118
  z76 := Tryd.sizeOf118
  v76 := Tryd.zeroValue118
  t127 := Tryd.underlying122
  a127 := Tryd.isAgg122
  z127 := Tryd.sizeOf122
  v127 := Tryd.zeroValue122
  t164 := Tryd.underlying124
  a164 := Tryd.isAgg124
  z164 := Tryd.sizeOf124
  v164 := Tryd.zeroValue124 }
theorem Tryd.Builder_Extra_156 : Builder.Extra Tryd.prog Tryd.lays156_ren := {
  sizeBuilder := by kernel_rfl
  liesBuilder := by kernel_rfl
  t5 := Tryd.underlying5
  a5 := Tryd.isAgg5
  z5 := Tryd.sizeOf5
  v5 := Tryd.zeroValue5
  infoByte := by kernel_rfl
  cellsByte := by kernel_rfl
  sizeByte := by kernel_rfl
  neB5 := by decide }
def Tryd.laysM171_ren : Go.Shelf.Ren := ⟨fun | 171 => 66 | 243 => 76 | 246 => 79 | 283 => 82 | 284 => 83 | 285 => 84 | 286 => 85 | 129 => 87 | 317 => 86 | 318 => 88 | 319 => 89 | 320 => 90 | 337 => 91 | 338 => 92 | n => n, fun | 3 => 3 | 9 => 9 | 2 => 2 | 4 => 4 | 171 => 127 | 0 => 0 | 53 => 128 | 37 => 89 | 5 => 5 | 173 => 131 | 212 => 135 | 51 => 136 | 20 => 20 | 213 => 137 | 46 => 138 | 232 => 141 | 233 => 142 | n => n, fun | 17 => 2 | 18 => 3 | 19 => 4 | n => n⟩
theorem Tryd.laysM171 : Go.Proofs.LaysM.n171 Tryd.prog Tryd.laysM171_ren := {
  mixed := by kernel_rfl
  f129 := Tryd.func87.trans (congrArg some (by kernel_rfl))
  f171 := Tryd.func66.trans (congrArg some (by kernel_rfl))
  f243 := Tryd.func76.trans (congrArg some (by kernel_rfl))
  f246 := Tryd.func79.trans (congrArg some (by kernel_rfl))
  f283 := Tryd.func82.trans (congrArg some (by kernel_rfl))
  f284 := Tryd.func83.trans (congrArg some (by kernel_rfl))
  f285 := Tryd.func84.trans (congrArg some (by kernel_rfl))
  f286 := Tryd.func85.trans (congrArg some (by kernel_rfl))
  f317 := Tryd.func86.trans (congrArg some (by kernel_rfl))
  f318 := Tryd.func88.trans (congrArg some (by kernel_rfl))
  f319 := Tryd.func89.trans (congrArg some (by kernel_rfl))
  f320 := Tryd.func90.trans (congrArg some (by kernel_rfl))
  f337 := Tryd.func91.trans (congrArg some (by kernel_rfl))
  f338 := Tryd.func92.trans (congrArg some (by kernel_rfl))
  t0 := Tryd.underlying0
  a0 := Tryd.isAgg0
  z0 := Tryd.sizeOf0
  v0 := Tryd.zeroValue0
  t2 := Tryd.underlying2
  a2 := Tryd.isAgg2
  z2 := Tryd.sizeOf2
  v2 := Tryd.zeroValue2
  t3 := Tryd.underlying3
  a3 := Tryd.isAgg3
  z3 := Tryd.sizeOf3
  v3 := Tryd.zeroValue3
  t4 := Tryd.underlying4
  a4 := Tryd.isAgg4
  z4 := Tryd.sizeOf4
  v4 := Tryd.zeroValue4
  t5 := Tryd.underlying5
  a5 := Tryd.isAgg5
  z5 := Tryd.sizeOf5
  v5 := Tryd.zeroValue5
  t9 := Tryd.underlying9
  a9 := Tryd.isAgg9
  z9 := Tryd.sizeOf9
  v9 := Tryd.zeroValue9
  t20 := Tryd.underlying20
  a20 := Tryd.isAgg20
  z20 := Tryd.sizeOf20
  v20 := Tryd.zeroValue20
  t37 := Tryd.underlying89
  a37 := Tryd.isAgg89
  z37 := Tryd.sizeOf89
  v37 := Tryd.zeroValue89
  t46 := Tryd.underlying138
  a46 := Tryd.isAgg138
  z46 := Tryd.sizeOf138
  v46 := Tryd.zeroValue138
  t51 := Tryd.underlying136
  a51 := Tryd.isAgg136
  z51 := Tryd.sizeOf136
  v51 := Tryd.zeroValue136
  t53 := Tryd.underlying128
  a53 := Tryd.isAgg128
  z53 := Tryd.sizeOf128
  v53 := Tryd.zeroValue128
  t171 := Tryd.underlying127
  a171 := Tryd.isAgg127
  z171 := Tryd.sizeOf127
  v171 := Tryd.zeroValue127
  t173 := Tryd.underlying131
  a173 := Tryd.isAgg131
  z173 := Tryd.sizeOf131
  v173 := Tryd.zeroValue131
  t212 := Tryd.underlying135
  a212 := Tryd.isAgg135
  z212 := Tryd.sizeOf135
  v212 := Tryd.zeroValue135
  t213 := Tryd.underlying137
  a213 := Tryd.isAgg137
  z213 := Tryd.sizeOf137
  t232 := Tryd.underlying141
  a232 := Tryd.isAgg141
  z232 := Tryd.sizeOf141
  v232 := Tryd.zeroValue141
  t233 := Tryd.underlying142
  a233 := Tryd.isAgg142
  z233 := Tryd.sizeOf142
  v233 := Tryd.zeroValue142
  g17 := by kernel_rfl
  g18 := by kernel_rfl
  g19 := by kernel_rfl
  i0 := by kernel_rfl
  i2 := by kernel_rfl
  i3 := by kernel_rfl
  i4 := by kernel_rfl
  i5 := by kernel_rfl
  i9 := by kernel_rfl
  i20 := by kernel_rfl
  i37 := by kernel_rfl
  i46 := by kernel_rfl
  i51 := by kernel_rfl
  i53 := by kernel_rfl
  i171 := by kernel_rfl
  i173 := by kernel_rfl
  i212 := by kernel_rfl
  i232 := by kernel_rfl
  i233 := by kernel_rfl
  m17 := by kernel_rfl
  m18 := by kernel_rfl
  m19 := by kernel_rfl }
end Go.Proofs
/- The library's calls that this seat takes by contract; the tables that are read. -/
namespace Go.Proofs.YtlihmncbhaimkaaDoor.Am
open Go Go.RowKit

/-- The names of the kinds of messages. -/
def namesL : List (List UInt8) := [[], [99, 97, 108, 108], [114, 101, 116, 117, 114, 110], [101, 99, 104, 111], [101, 99, 104, 111, 101, 100], [102, 105, 110, 105, 115, 104], [114, 101, 108, 101, 97, 115, 101]]
def namesV : List Value := namesL.map fun s => .string ⟨s.toArray⟩
def HasNames (h : Heap) : Prop := h.get 0 = .cells namesV 1 false true
noncomputable def Xn : FuncId → Option (List Value → Heap → Option (Value × Heap)) := fun f => bif Nat.beq f 66 then some (itoaX 2) else bif Nat.beq f 54 then some joinX else none
/-- What stands where the functions are called. -/
def Un (m : Bool) (h : Heap) : Prop := HasTab 2 h ∧ (m = true → HasNames h)
theorem keepRo {h h' : Heap} {M : Nat → Prop} {b : Nat} {cs : List Value} {s : Nat} (hlt : ∀ b, (h.get b).live = true → b < h.next) (hro : ∀ b cs s g, h.get b = .cells cs s g true → ¬ M b) (fr : Frm h M h') (e : h.get b = .cells cs s false true) : h'.get b = .cells cs s false true := by
  rw [fr.2 b (hlt b (by rw [e]; rfl)) (hro b _ _ _ e)]
  exact e
theorem Uok (m : Bool) : UOk (Un m) := fun _ _ _ hlt u hro fr => ⟨keepRo hlt hro fr u.1, fun hm => keepRo hlt hro fr (u.2 hm)⟩
theorem gTab : Tryd.prog.globalNamed "internal/strconv.uint64pow10" = some 2 := by kernel_rfl
theorem gMsg : Tryd.prog.globalNamed "loop.example/g00591/impl.messageNames" = some 0 := by kernel_rfl
theorem lTab : 2 < Tryd.prog.globals.size := of_decide_eq_true (by kernel_rfl)
theorem b66 : ∃ fn, Tryd.prog.funcs[66]? = some fn ∧ fn.body.isSome = true ∧ fn.name ≠ "runtime.NumGoroutine" := ⟨_, Tryd.func66, by kernel_rfl, of_decide_eq_true (by kernel_rfl)⟩
theorem b54 : ∃ fn, Tryd.prog.funcs[54]? = some fn ∧ fn.body.isSome = true ∧ fn.name ≠ "runtime.NumGoroutine" := ⟨_, Tryd.func54, by kernel_rfl, of_decide_eq_true (by kernel_rfl)⟩
theorem xsound : XSound Tryd.prog Xn := by
  intro f args h v h' k
  unfold Xn at k
  by_cases h66 : f = 66
  · subst h66
    exact ⟨b66, fun base r w args' ha hr => itoa_sound (ρ := Tryd.laysM171_ren) Tryd.laysM171 gTab lTab k ha hr⟩
  · by_cases h54 : f = 54
    · subst h54
      exact ⟨b54, fun base r w args' ha hr => join_sound (ρ := Tryd.lays156_ren) Tryd.lays156 Tryd.Builder_Extra_156 k ha hr⟩
    · have e1 : Nat.beq f 66 = false := Bool.eq_false_iff.2 fun h => h66 (Nat.eq_of_beq_eq_true h)
      have e2 : Nat.beq f 54 = false := Bool.eq_false_iff.2 fun h => h54 (Nat.eq_of_beq_eq_true h)
      simp only [e1, e2, cond_false, Option.bind_none] at k
      cases k
end Go.Proofs.YtlihmncbhaimkaaDoor.Am
/- Printed by wip/gen/pure.py: the hints' tables. -/
namespace Go.Proofs.YtlihmncbhaimkaaDoor.Am
open Go
/-- A table's entry. -/
def lk {α : Type} : List (Nat × α) → Nat → Option α
  | [], _ => none
  | p :: r, k => bif Nat.beq p.1 k then some p.2 else lk r k
def h3 : Nat → Option (List Nat) := lk []
def q3 : PHints := fun n => (lk [] n).getD ⟨[], []⟩
def h4 : Nat → Option (List Nat) := lk []
def q4 : PHints := fun n => (lk [] n).getD ⟨[], []⟩
def h5 : Nat → Option (List Nat) := lk []
def q5 : PHints := fun n => (lk [] n).getD ⟨[], []⟩
def h6 : Nat → Option (List Nat) := lk []
def q6 : PHints := fun n => (lk [] n).getD ⟨[], []⟩
def h7 : Nat → Option (List Nat) := lk []
def q7 : PHints := fun n => (lk [] n).getD ⟨[], []⟩
def h8 : Nat → Option (List Nat) := lk []
def q8 : PHints := fun n => (lk [] n).getD ⟨[], []⟩
def h9 : Nat → Option (List Nat) := lk []
def q9 : PHints := fun n => (lk [] n).getD ⟨[], []⟩
def h10 : Nat → Option (List Nat) := lk []
def q10 : PHints := fun n => (lk [] n).getD ⟨[], []⟩
def h11 : Nat → Option (List Nat) := lk [(10, [3, 4])]
def q11 : PHints := fun n => (lk [(10, ⟨[.d false, .d true], []⟩)] n).getD ⟨[], []⟩
def h12 : Nat → Option (List Nat) := lk [(6, [4])]
def q12 : PHints := fun n => (lk [(6, ⟨[.d true], [0]⟩)] n).getD ⟨[], []⟩
def h13 : Nat → Option (List Nat) := lk []
def q13 : PHints := fun n => (lk [] n).getD ⟨[], []⟩
def h14 : Nat → Option (List Nat) := lk [(8, [4, 5])]
def q14 : PHints := fun n => (lk [(8, ⟨[.d true, .d true], []⟩)] n).getD ⟨[], []⟩
def h15 : Nat → Option (List Nat) := lk []
def q15 : PHints := fun n => (lk [] n).getD ⟨[], []⟩
def h16 : Nat → Option (List Nat) := lk [(19, [3]), (22, [3, 4])]
def q16 : PHints := fun n => (lk [(19, ⟨[.d true], []⟩), (22, ⟨[.d true, .d true], []⟩)] n).getD ⟨[], []⟩
def h17 : Nat → Option (List Nat) := lk []
def q17 : PHints := fun n => (lk [] n).getD ⟨[], []⟩
def h18 : Nat → Option (List Nat) := lk [(19, [3]), (22, [3, 39])]
def q18 : PHints := fun n => (lk [(19, ⟨[.d true], []⟩), (22, ⟨[.d true, .d true], []⟩)] n).getD ⟨[], []⟩
def h19 : Nat → Option (List Nat) := lk []
def q19 : PHints := fun n => (lk [] n).getD ⟨[], []⟩
def h20 : Nat → Option (List Nat) := lk []
def q20 : PHints := fun n => (lk [] n).getD ⟨[], []⟩
def h21 : Nat → Option (List Nat) := lk [(10, [3, 4])]
def q21 : PHints := fun n => (lk [(10, ⟨[.d true, .d true], []⟩)] n).getD ⟨[], []⟩
def h22 : Nat → Option (List Nat) := lk []
def q22 : PHints := fun n => (lk [] n).getD ⟨[], []⟩
def h23 : Nat → Option (List Nat) := lk [(8, [3, 17])]
def q23 : PHints := fun n => (lk [(8, ⟨[.d true, .d true], []⟩)] n).getD ⟨[], []⟩
def h24 : Nat → Option (List Nat) := lk []
def q24 : PHints := fun n => (lk [] n).getD ⟨[], []⟩
def h25 : Nat → Option (List Nat) := lk [(10, [3, 4])]
def q25 : PHints := fun n => (lk [(10, ⟨[.d true, .d false], []⟩)] n).getD ⟨[], []⟩
def h26 : Nat → Option (List Nat) := lk [(6, [5, 11])]
def q26 : PHints := fun n => (lk [(6, ⟨[.s 1, .d true], []⟩)] n).getD ⟨[], []⟩
def h27 : Nat → Option (List Nat) := lk [(6, [7, 13])]
def q27 : PHints := fun n => (lk [(6, ⟨[.s 1, .d true], []⟩)] n).getD ⟨[], []⟩
def h28 : Nat → Option (List Nat) := lk []
def q28 : PHints := fun n => (lk [] n).getD ⟨[], []⟩
def h29 : Nat → Option (List Nat) := lk []
def q29 : PHints := fun n => (lk [] n).getD ⟨[], []⟩
def h30 : Nat → Option (List Nat) := lk [(12, [2, 5]), (35, [133])]
def q30 : PHints := fun n => (lk [(12, ⟨[.d true, .d true], []⟩), (35, ⟨[.d true], []⟩)] n).getD ⟨[], []⟩
def h31 : Nat → Option (List Nat) := lk []
def q31 : PHints := fun n => (lk [] n).getD ⟨[], []⟩
def h32 : Nat → Option (List Nat) := lk []
def q32 : PHints := fun n => (lk [] n).getD ⟨[], []⟩
def h33 : Nat → Option (List Nat) := lk [(6, [4])]
def q33 : PHints := fun n => (lk [(6, ⟨[.d true], [0]⟩)] n).getD ⟨[], []⟩
def h34 : Nat → Option (List Nat) := lk []
def q34 : PHints := fun n => (lk [] n).getD ⟨[], []⟩
def h35 : Nat → Option (List Nat) := lk [(31, [131])]
def q35 : PHints := fun n => (lk [(31, ⟨[.d true], []⟩)] n).getD ⟨[], []⟩
def h36 : Nat → Option (List Nat) := lk []
def h37 : Nat → Option (List Nat) := lk []
def q37 : PHints := fun n => (lk [] n).getD ⟨[], []⟩
def h38 : Nat → Option (List Nat) := lk []
def q38 : PHints := fun n => (lk [] n).getD ⟨[], []⟩
def h39 : Nat → Option (List Nat) := lk [(8, [4, 5])]
def q39 : PHints := fun n => (lk [(8, ⟨[.d true, .d true], []⟩)] n).getD ⟨[], []⟩
def h40 : Nat → Option (List Nat) := lk []
def q40 : PHints := fun n => (lk [] n).getD ⟨[], []⟩
def h41 : Nat → Option (List Nat) := lk []
def q41 : PHints := fun n => (lk [] n).getD ⟨[], []⟩
def h42 : Nat → Option (List Nat) := lk [(10, [1, 4, 5])]
def q42 : PHints := fun n => (lk [(10, ⟨[.d false, .d true, .d true], []⟩)] n).getD ⟨[], []⟩
def h43 : Nat → Option (List Nat) := lk []
def q43 : PHints := fun n => (lk [] n).getD ⟨[], []⟩
def h44 : Nat → Option (List Nat) := lk []
def q44 : PHints := fun n => (lk [] n).getD ⟨[], []⟩
def h45 : Nat → Option (List Nat) := lk [(6, [4])]
def q45 : PHints := fun n => (lk [(6, ⟨[.d true], [0]⟩)] n).getD ⟨[], []⟩
def h46 : Nat → Option (List Nat) := lk []
def q46 : PHints := fun n => (lk [] n).getD ⟨[], []⟩
def h47 : Nat → Option (List Nat) := lk [(6, [4])]
def q47 : PHints := fun n => (lk [(6, ⟨[.d true], [0]⟩)] n).getD ⟨[], []⟩
def h48 : Nat → Option (List Nat) := lk [(6, [4])]
def q48 : PHints := fun n => (lk [(6, ⟨[.d true], [0]⟩)] n).getD ⟨[], []⟩
def h49 : Nat → Option (List Nat) := lk []
def q49 : PHints := fun n => (lk [] n).getD ⟨[], []⟩
def h50 : Nat → Option (List Nat) := lk [(8, [4, 5])]
def q50 : PHints := fun n => (lk [(8, ⟨[.d true, .d true], []⟩)] n).getD ⟨[], []⟩
def h51 : Nat → Option (List Nat) := lk []
def q51 : PHints := fun n => (lk [] n).getD ⟨[], []⟩
def h52 : Nat → Option (List Nat) := lk [(8, [4, 5])]
def q52 : PHints := fun n => (lk [(8, ⟨[.d true, .d true], []⟩)] n).getD ⟨[], []⟩
def h53 : Nat → Option (List Nat) := lk [(8, [4, 5])]
def q53 : PHints := fun n => (lk [(8, ⟨[.d true, .d true], []⟩)] n).getD ⟨[], []⟩
def h54 : Nat → Option (List Nat) := lk [(23, [5]), (24, [5, 41]), (44, [65])]
def h55 : Nat → Option (List Nat) := lk []
def q55 : PHints := fun n => (lk [] n).getD ⟨[], []⟩
def h56 : Nat → Option (List Nat) := lk []
def q56 : PHints := fun n => (lk [] n).getD ⟨[], []⟩
def h57 : Nat → Option (List Nat) := lk [(4, [2, 3])]
def q57 : PHints := fun n => (lk [(4, ⟨[.d true, .d true], []⟩)] n).getD ⟨[], []⟩
def h58 : Nat → Option (List Nat) := lk []
def q58 : PHints := fun n => (lk [] n).getD ⟨[], []⟩
def h59 : Nat → Option (List Nat) := lk []
def q59 : PHints := fun n => (lk [] n).getD ⟨[], []⟩
def h60 : Nat → Option (List Nat) := lk [(8, [2, 10])]
def q60 : PHints := fun n => (lk [(8, ⟨[.d true, .d true], []⟩)] n).getD ⟨[], []⟩
def h61 : Nat → Option (List Nat) := lk []
def q61 : PHints := fun n => (lk [] n).getD ⟨[], []⟩
def h62 : Nat → Option (List Nat) := lk []
def q62 : PHints := fun n => (lk [] n).getD ⟨[], []⟩
def h63 : Nat → Option (List Nat) := lk []
def q63 : PHints := fun n => (lk [] n).getD ⟨[], []⟩
def h64 : Nat → Option (List Nat) := lk []
def q64 : PHints := fun n => (lk [] n).getD ⟨[], []⟩
def h65 : Nat → Option (List Nat) := lk []
def q65 : PHints := fun n => (lk [] n).getD ⟨[], []⟩
def h67 : Nat → Option (List Nat) := lk []
def q67 : PHints := fun n => (lk [] n).getD ⟨[], []⟩
def h68 : Nat → Option (List Nat) := lk []
def q68 : PHints := fun n => (lk [] n).getD ⟨[], []⟩
def h69 : Nat → Option (List Nat) := lk []
def q69 : PHints := fun n => (lk [] n).getD ⟨[], []⟩
def h70 : Nat → Option (List Nat) := lk []
def q70 : PHints := fun n => (lk [] n).getD ⟨[], []⟩
def h71 : Nat → Option (List Nat) := lk []
def q71 : PHints := fun n => (lk [] n).getD ⟨[], []⟩
def h72 : Nat → Option (List Nat) := lk []
def h73 : Nat → Option (List Nat) := lk []
def h74 : Nat → Option (List Nat) := lk []
def h75 : Nat → Option (List Nat) := lk [(4, [4, 8])]
def q75 : PHints := fun n => (lk [(4, ⟨[.d true, .d true], []⟩)] n).getD ⟨[], []⟩
def h77 : Nat → Option (List Nat) := lk []
def h78 : Nat → Option (List Nat) := lk []
def tab : List (Nat × (Nat → Option (List Nat))) := [(3, h3), (4, h4), (5, h5), (6, h6), (7, h7), (8, h8), (9, h9), (10, h10), (11, h11), (12, h12), (13, h13), (14, h14), (15, h15), (16, h16), (17, h17), (18, h18), (19, h19), (20, h20), (21, h21), (22, h22), (23, h23), (24, h24), (25, h25), (26, h26), (27, h27), (28, h28), (29, h29), (30, h30), (31, h31), (32, h32), (33, h33), (34, h34), (35, h35), (36, h36), (37, h37), (38, h38), (39, h39), (40, h40), (41, h41), (42, h42), (43, h43), (44, h44), (45, h45), (46, h46), (47, h47), (48, h48), (49, h49), (50, h50), (51, h51), (52, h52), (53, h53), (54, h54), (55, h55), (56, h56), (57, h57), (58, h58), (59, h59), (60, h60), (61, h61), (62, h62), (63, h63), (64, h64), (65, h65), (67, h67), (68, h68), (69, h69), (70, h70), (71, h71), (72, h72), (73, h73), (74, h74), (75, h75), (77, h77), (78, h78)]
def ptab : List (Nat × PHints) := [(3, q3), (4, q4), (5, q5), (6, q6), (7, q7), (8, q8), (9, q9), (10, q10), (11, q11), (12, q12), (13, q13), (14, q14), (15, q15), (16, q16), (17, q17), (18, q18), (19, q19), (20, q20), (21, q21), (22, q22), (23, q23), (24, q24), (25, q25), (26, q26), (27, q27), (28, q28), (29, q29), (30, q30), (31, q31), (32, q32), (33, q33), (34, q34), (35, q35), (37, q37), (38, q38), (39, q39), (40, q40), (41, q41), (42, q42), (43, q43), (44, q44), (45, q45), (46, q46), (47, q47), (48, q48), (49, q49), (50, q50), (51, q51), (52, q52), (53, q53), (55, q55), (56, q56), (57, q57), (58, q58), (59, q59), (60, q60), (61, q61), (62, q62), (63, q63), (64, q64), (65, q65), (67, q67), (68, q68), (69, q69), (70, q70), (71, q71), (75, q75)]
def jtab : List (Nat × List PK) := [(3, [.val]), (4, [.sl 3]), (5, [.val]), (6, [.val]), (7, [.val]), (8, [.val]), (9, [.val]), (10, [.sl 3, .val]), (11, [.sl 3]), (12, [.sl 3]), (13, [.sl 3]), (14, [.sl 3, .sl 3]), (15, [.val, .val]), (16, [.val]), (17, [.val]), (18, [.val]), (19, [.val, .val]), (20, [.val, .val]), (21, [.val]), (22, [.val]), (23, [.val]), (24, [.val, .val]), (25, [.val]), (26, [.val, .sl 1]), (27, [.sl 3, .val, .val]), (28, [.val, .val]), (29, [.sl 2, .val]), (30, [.val]), (31, [.val]), (32, [.val]), (33, [.sl 2]), (34, [.val]), (35, [.val]), (36, [.val]), (37, [.val]), (38, [.val]), (39, [.sl 2, .sl 2]), (40, [.val, .val]), (41, [.sl 2, .val]), (42, [.sl 7, .val]), (43, [.sl 2, .val]), (44, [.val]), (45, [.sl 2]), (46, [.val]), (47, [.sl 7]), (48, [.sl 2]), (49, [.val]), (50, [.sl 2, .sl 2]), (51, [.val, .val]), (52, [.sl 7, .sl 7]), (53, [.sl 2, .sl 2]), (54, [.sl 1, .val]), (55, [.val]), (56, [.val]), (57, [.val]), (58, [.val, .val, .val]), (59, [.val]), (60, [.val]), (61, [.sl 2, .val]), (62, [.val]), (63, [.val]), (64, [.val]), (65, [.val, .val, .val]), (66, [.val]), (67, [.val, .val]), (68, [.val]), (69, [.val]), (70, [.val, .val]), (71, [.val, .val]), (72, [.obj 2, .val]), (73, [.obj 2, .val]), (74, [.obj 2]), (75, [.sl 2, .val]), (76, [.val]), (77, [.obj 2]), (78, [.obj 2, .val])]
def Jn : Sig := fun f => (lk jtab f).getD []
def Hn : Hints := fun f => (lk tab f).getD fun _ => none
def Pn : FuncId → PHints := fun f => (lk ptab f).getD fun _ => ⟨[], []⟩
noncomputable abbrev K : Oracle := call Tryd.prog Hn Xn
abbrev Sm (m : Bool) : CallS := SemU (Un m) K
end Go.Proofs.YtlihmncbhaimkaaDoor.Am
/- Printed by wip/gen/pure.py: what the functions' bodies come to, over data. -/
namespace Go.Proofs.YtlihmncbhaimkaaDoor.Am
open Go
set_option linter.unusedVariables false
set_option maxRecDepth 100000
/-- laws.FnExactFormatTag -/
def G3 (S : CallS) (a0 : D) (Q : D → List (List D) → Prop) : Prop :=
  ∃ x1 x2 x3 : D, (cellsD Tryd.prog 23 a0) = some [x1, x2, x3] ∧
  ∃ d4 : D, S 8 [(.val (.agg [x1, x2, x3]))] d4 [] ∧
  ∃ d5 : D, S 7 [(.val d4)] d5 [] ∧
  ∃ d6 : D, S 8 [(.val (.agg [x1, x2, x3]))] d6 [] ∧
  ∃ d7 : D, S 9 [(.val d6)] d7 [] ∧
  Bnd (binD Tryd.prog BinOp.neq 9 d7 d5) fun x8 =>
  OnBD x8 fun t9 => Br t9 (
  Q (.bool false) []) (
  Q (.bool true) [])
theorem D3 (S : CallS) (a0 : D) (Q : D → List (List D) → Prop) : pfnW Tryd.prog Jn h3 q3 S Tryd.f3 [(.val a0)] Q = G3 S a0 Q := by kernel_rfl
theorem V3 {m : Bool} {a0 : D} {d : D} {o : List (List D)} (w : G3 (Sm m) a0 fun d' o' => d' = d ∧ o' = o) : Sm m 3 [(.val a0)] d o := call_sem (Uok m) (J := Jn) (PH := Pn) Tryd.func3 rfl (by kernel_rfl) ((D3 (Sm m) a0 fun d' o' => d' = d ∧ o' = o).symm ▸ w : pfnW Tryd.prog Jn h3 q3 (Sm m) Tryd.f3 [(.val a0)] fun d' o' => d' = d ∧ o' = o)
/-- laws.FnExactFormatTurns -/
def G4 (S : CallS) (a0 : D) (Q : D → List (List D) → Prop) : Prop :=
  ∃ d1 : D, S 10 [(.val a0), (.val (.int 1048576))] d1 [] ∧
  Bnd (binD Tryd.prog BinOp.lss 3 d1 (.int 0)) fun x2 =>
  OnBD x2 fun t3 => Br t3 (
  Q (.bool true) []) (
  ∃ d4 : D, S 12 [(.val a0)] d4 [] ∧
  ∃ d5 : D, S 11 [(.val d4)] d5 [] ∧
  ∃ d6 : D, S 12 [(.val a0)] d6 [] ∧
  ∃ d7 : D, S 13 [(.val d6)] d7 [] ∧
  Bnd (binD Tryd.prog BinOp.neq 9 d7 d5) fun x8 =>
  OnBD x8 fun t9 => Br t9 (
  Q (.bool false) []) (
  ∃ d10 : D, S 12 [(.val a0)] d10 [] ∧
  ∃ d11 : D, S 14 [(.val d6), (.val d10)] d11 [] ∧
  Bnd (unD UnOp.not d11) fun x12 =>
  OnBD x12 fun t13 => Br t13 (
  Q (.bool false) []) (
  Q (.bool true) [])))
theorem D4 (S : CallS) (a0 : D) (Q : D → List (List D) → Prop) : pfnW Tryd.prog Jn h4 q4 S Tryd.f4 [(.val a0)] Q = G4 S a0 Q := by kernel_rfl
theorem V4 {m : Bool} {a0 : D} {d : D} {o : List (List D)} (w : G4 (Sm m) a0 fun d' o' => d' = d ∧ o' = o) : Sm m 4 [(.val a0)] d o := call_sem (Uok m) (J := Jn) (PH := Pn) Tryd.func4 rfl (by kernel_rfl) ((D4 (Sm m) a0 fun d' o' => d' = d ∧ o' = o).symm ▸ w : pfnW Tryd.prog Jn h4 q4 (Sm m) Tryd.f4 [(.val a0)] fun d' o' => d' = d ∧ o' = o)
/-- laws.FnExactFormatMessage -/
def G5 (S : CallS) (a0 : D) (Q : D → List (List D) → Prop) : Prop :=
  ∃ x1 x2 x3 x4 x5 x6 x7 x8 x9 x10 x11 x12 : D, (cellsD Tryd.prog 39 a0) = some [x1, x2, x3, x4, x5, x6, x7, x8, x9, x10, x11, x12] ∧
  ∃ d13 : D, S 15 [(.val (.agg [x1, x2, x3, x4, x5, x6, x7, x8, x9, x10, x11, x12])), (.val (.int 1048576))] d13 [] ∧
  Bnd (binD Tryd.prog BinOp.lss 3 d13 (.int 0)) fun x14 =>
  OnBD x14 fun t15 => Br t15 (
  Q (.bool true) []) (
  ∃ d16 : D, S 17 [(.val (.agg [x1, x2, x3, x4, x5, x6, x7, x8, x9, x10, x11, x12]))] d16 [] ∧
  ∃ d17 : D, S 16 [(.val d16)] d17 [] ∧
  ∃ d18 : D, S 17 [(.val (.agg [x1, x2, x3, x4, x5, x6, x7, x8, x9, x10, x11, x12]))] d18 [] ∧
  ∃ x19 x20 x21 x22 x23 x24 x25 x26 x27 x28 x29 x30 : D, (cellsD Tryd.prog 45 d18) = some [x19, x20, x21, x22, x23, x24, x25, x26, x27, x28, x29, x30] ∧
  ∃ d31 : D, S 18 [(.val (.agg [x19, x20, x21, x22, x23, x24, x25, x26, x27, x28, x29, x30]))] d31 [] ∧
  Bnd (binD Tryd.prog BinOp.neq 9 d31 d17) fun x32 =>
  OnBD x32 fun t33 => Br t33 (
  Q (.bool false) []) (
  ∃ d34 : D, S 17 [(.val (.agg [x1, x2, x3, x4, x5, x6, x7, x8, x9, x10, x11, x12]))] d34 [] ∧
  ∃ d35 : D, S 19 [(.val (.agg [x19, x20, x21, x22, x23, x24, x25, x26, x27, x28, x29, x30])), (.val d34)] d35 [] ∧
  Bnd (unD UnOp.not d35) fun x36 =>
  OnBD x36 fun t37 => Br t37 (
  Q (.bool false) []) (
  Q (.bool true) [])))
theorem D5 (S : CallS) (a0 : D) (Q : D → List (List D) → Prop) : pfnW Tryd.prog Jn h5 q5 S Tryd.f5 [(.val a0)] Q = G5 S a0 Q := by kernel_rfl
theorem V5 {m : Bool} {a0 : D} {d : D} {o : List (List D)} (w : G5 (Sm m) a0 fun d' o' => d' = d ∧ o' = o) : Sm m 5 [(.val a0)] d o := call_sem (Uok m) (J := Jn) (PH := Pn) Tryd.func5 rfl (by kernel_rfl) ((D5 (Sm m) a0 fun d' o' => d' = d ∧ o' = o).symm ▸ w : pfnW Tryd.prog Jn h5 q5 (Sm m) Tryd.f5 [(.val a0)] fun d' o' => d' = d ∧ o' = o)
/-- laws.FnExactFormatEntity -/
def G6 (S : CallS) (a0 : D) (Q : D → List (List D) → Prop) : Prop :=
  ∃ x1 x2 x3 x4 x5 x6 x7 x8 x9 x10 x11 x12 : D, (cellsD Tryd.prog 54 a0) = some [x1, x2, x3, x4, x5, x6, x7, x8, x9, x10, x11, x12] ∧
  ∃ d13 : D, S 20 [(.val (.agg [x1, x2, x3, x4, x5, x6, x7, x8, x9, x10, x11, x12])), (.val (.int 1048576))] d13 [] ∧
  Bnd (binD Tryd.prog BinOp.lss 3 d13 (.int 0)) fun x14 =>
  OnBD x14 fun t15 => Br t15 (
  Q (.bool true) []) (
  ∃ d16 : D, S 22 [(.val (.agg [x1, x2, x3, x4, x5, x6, x7, x8, x9, x10, x11, x12]))] d16 [] ∧
  ∃ d17 : D, S 21 [(.val d16)] d17 [] ∧
  ∃ d18 : D, S 22 [(.val (.agg [x1, x2, x3, x4, x5, x6, x7, x8, x9, x10, x11, x12]))] d18 [] ∧
  ∃ x19 x20 x21 x22 x23 x24 x25 x26 x27 x28 x29 x30 : D, (cellsD Tryd.prog 62 d18) = some [x19, x20, x21, x22, x23, x24, x25, x26, x27, x28, x29, x30] ∧
  ∃ d31 : D, S 23 [(.val (.agg [x19, x20, x21, x22, x23, x24, x25, x26, x27, x28, x29, x30]))] d31 [] ∧
  Bnd (binD Tryd.prog BinOp.neq 9 d31 d17) fun x32 =>
  OnBD x32 fun t33 => Br t33 (
  Q (.bool false) []) (
  ∃ d34 : D, S 22 [(.val (.agg [x1, x2, x3, x4, x5, x6, x7, x8, x9, x10, x11, x12]))] d34 [] ∧
  ∃ d35 : D, S 24 [(.val (.agg [x19, x20, x21, x22, x23, x24, x25, x26, x27, x28, x29, x30])), (.val d34)] d35 [] ∧
  Bnd (unD UnOp.not d35) fun x36 =>
  OnBD x36 fun t37 => Br t37 (
  Q (.bool false) []) (
  Q (.bool true) [])))
theorem D6 (S : CallS) (a0 : D) (Q : D → List (List D) → Prop) : pfnW Tryd.prog Jn h6 q6 S Tryd.f6 [(.val a0)] Q = G6 S a0 Q := by kernel_rfl
theorem V6 {m : Bool} {a0 : D} {d : D} {o : List (List D)} (w : G6 (Sm m) a0 fun d' o' => d' = d ∧ o' = o) : Sm m 6 [(.val a0)] d o := call_sem (Uok m) (J := Jn) (PH := Pn) Tryd.func6 rfl (by kernel_rfl) ((D6 (Sm m) a0 fun d' o' => d' = d ∧ o' = o).symm ▸ w : pfnW Tryd.prog Jn h6 q6 (Sm m) Tryd.f6 [(.val a0)] fun d' o' => d' = d ∧ o' = o)
/-- spec.FormatTag -/
def G7 (S : CallS) (a0 : D) (Q : D → List (List D) → Prop) : Prop :=
  ∃ x1 x2 x3 : D, (cellsD Tryd.prog 25 a0) = some [x1, x2, x3] ∧
  ∃ d4 : D, S 25 [(.val x1)] d4 [] ∧
  Bnd (binD Tryd.prog BinOp.add 9 d4 (.v (Value.string (ByteArray.mk #[46])))) fun x5 =>
  ∃ d6 : D, S 25 [(.val x2)] d6 [] ∧
  Bnd (binD Tryd.prog BinOp.add 9 x5 d6) fun x7 =>
  Bnd (binD Tryd.prog BinOp.add 9 x7 (.v (Value.string (ByteArray.mk #[46])))) fun x8 =>
  ∃ d9 : D, S 25 [(.val x3)] d9 [] ∧
  Bnd (binD Tryd.prog BinOp.add 9 x8 d9) fun x10 =>
  Q x10 []
theorem D7 (S : CallS) (a0 : D) (Q : D → List (List D) → Prop) : pfnW Tryd.prog Jn h7 q7 S Tryd.f7 [(.val a0)] Q = G7 S a0 Q := by kernel_rfl
theorem V7 {m : Bool} {a0 : D} {d : D} {o : List (List D)} (w : G7 (Sm m) a0 fun d' o' => d' = d ∧ o' = o) : Sm m 7 [(.val a0)] d o := call_sem (Uok m) (J := Jn) (PH := Pn) Tryd.func7 rfl (by kernel_rfl) ((D7 (Sm m) a0 fun d' o' => d' = d ∧ o' = o).symm ▸ w : pfnW Tryd.prog Jn h7 q7 (Sm m) Tryd.f7 [(.val a0)] fun d' o' => d' = d ∧ o' = o)
/-- laws.toTag -/
def G8 (S : CallS) (a0 : D) (Q : D → List (List D) → Prop) : Prop :=
  ∃ x1 x2 x3 : D, (cellsD Tryd.prog 23 a0) = some [x1, x2, x3] ∧
  ∃ x4 x5 x6 : D, (cellsD Tryd.prog 25 (.agg [x1, x2, x3])) = some [x4, x5, x6] ∧
  Q (.agg [x4, x5, x6]) []
theorem D8 (S : CallS) (a0 : D) (Q : D → List (List D) → Prop) : pfnW Tryd.prog Jn h8 q8 S Tryd.f8 [(.val a0)] Q = G8 S a0 Q := by kernel_rfl
theorem V8 {m : Bool} {a0 : D} {d : D} {o : List (List D)} (w : G8 (Sm m) a0 fun d' o' => d' = d ∧ o' = o) : Sm m 8 [(.val a0)] d o := call_sem (Uok m) (J := Jn) (PH := Pn) Tryd.func8 rfl (by kernel_rfl) ((D8 (Sm m) a0 fun d' o' => d' = d ∧ o' = o).symm ▸ w : pfnW Tryd.prog Jn h8 q8 (Sm m) Tryd.f8 [(.val a0)] fun d' o' => d' = d ∧ o' = o)
/-- impl.FormatTag -/
def G9 (S : CallS) (a0 : D) (Q : D → List (List D) → Prop) : Prop :=
  ∃ x1 x2 x3 : D, (cellsD Tryd.prog 25 a0) = some [x1, x2, x3] ∧
  BndR (litS Tryd.prog 90 3 [(0, x1), (1, x2), (2, x3)]) fun n4 r5 =>
  ∃ d6 : D, S 26 [(.val (.v (Value.string (ByteArray.mk #[46])))), (.val (.sl 1 n4 r5))] d6 [] ∧
  Q d6 []
theorem D9 (S : CallS) (a0 : D) (Q : D → List (List D) → Prop) : pfnW Tryd.prog Jn h9 q9 S Tryd.f9 [(.val a0)] Q = G9 S a0 Q := by kernel_rfl
theorem V9 {m : Bool} {a0 : D} {d : D} {o : List (List D)} (w : G9 (Sm m) a0 fun d' o' => d' = d ∧ o' = o) : Sm m 9 [(.val a0)] d o := call_sem (Uok m) (J := Jn) (PH := Pn) Tryd.func9 rfl (by kernel_rfl) ((D9 (Sm m) a0 fun d' o' => d' = d ∧ o' = o).symm ▸ w : pfnW Tryd.prog Jn h9 q9 (Sm m) Tryd.f9 [(.val a0)] fun d' o' => d' = d ∧ o' = o)
/-- laws.szTagS -/
def G10 (S : CallS) (a0 a1 : D) (Q : D → List (List D) → Prop) : Prop :=
  Bnd (lenD Tryd.prog 28 a0) fun x1 =>
  Bnd (binD Tryd.prog BinOp.sub 3 a1 x1) fun x2 =>
  Bnd (binD Tryd.prog BinOp.lss 3 x2 (.int 0)) fun x3 =>
  OnBD x3 fun t4 => Br t4 (
  Q (.int (-1)) []) (
  Q x2 [])
theorem D10 (S : CallS) (a0 a1 : D) (Q : D → List (List D) → Prop) : pfnW Tryd.prog Jn h10 q10 S Tryd.f10 [(.val a0), (.val a1)] Q = G10 S a0 a1 Q := by kernel_rfl
theorem V10 {m : Bool} {a0 a1 : D} {d : D} {o : List (List D)} (w : G10 (Sm m) a0 a1 fun d' o' => d' = d ∧ o' = o) : Sm m 10 [(.val a0), (.val a1)] d o := call_sem (Uok m) (J := Jn) (PH := Pn) Tryd.func10 rfl (by kernel_rfl) ((D10 (Sm m) a0 a1 fun d' o' => d' = d ∧ o' = o).symm ▸ w : pfnW Tryd.prog Jn h10 q10 (Sm m) Tryd.f10 [(.val a0), (.val a1)] fun d' o' => d' = d ∧ o' = o)
/-- spec.FormatTurns -/
def G11 (S : CallS) (a0 : D) (Q : D → List (List D) → Prop) : Prop :=
  Bnd (lenD Tryd.prog 31 a0) fun x1 =>
  Bnd (binD Tryd.prog BinOp.eql 3 x1 (.int 0)) fun x2 =>
  OnBD x2 fun t3 => Br t3 (
  Q (.v (Value.string (ByteArray.mk #[45]))) []) (
  Bnd (indexAddrD Tryd.prog 31 a0 (.int 0)) fun x4 =>
  Bnd (loadD Tryd.prog 25 x4) fun x5 =>
  ∃ d6 : D, S 7 [(.val x5)] d6 [] ∧
  ∃ (I7 : List D → Prop) (m8 : List D → Nat), I7 [d6, (.int 1)] ∧
  ∀ x9 : D, ∀ x10 : D, I7 [x9, x10] →
  Bnd (lenD Tryd.prog 31 a0) fun x11 =>
  Bnd (binD Tryd.prog BinOp.lss 3 x10 x11) fun x12 =>
  OnBD x12 fun t13 => Br t13 (
  Bnd (binD Tryd.prog BinOp.add 9 x9 (.v (Value.string (ByteArray.mk #[32])))) fun x14 =>
  Bnd (indexAddrD Tryd.prog 31 a0 x10) fun x15 =>
  Bnd (loadD Tryd.prog 25 x15) fun x16 =>
  ∃ d17 : D, S 7 [(.val x16)] d17 [] ∧
  Bnd (binD Tryd.prog BinOp.add 9 x14 d17) fun x18 =>
  Bnd (binD Tryd.prog BinOp.add 3 x10 (.int 1)) fun x19 =>
  I7 [x18, x19] ∧ m8 [x18, x19] < m8 [x9, x10]) (
  Q x9 []))
theorem D11 (S : CallS) (a0 : D) (Q : D → List (List D) → Prop) : pfnW Tryd.prog Jn h11 q11 S Tryd.f11 [(.val a0)] Q = G11 S a0 Q := by kernel_rfl
theorem V11 {m : Bool} {a0 : D} {d : D} {o : List (List D)} (w : G11 (Sm m) a0 fun d' o' => d' = d ∧ o' = o) : Sm m 11 [(.val a0)] d o := call_sem (Uok m) (J := Jn) (PH := Pn) Tryd.func11 rfl (by kernel_rfl) ((D11 (Sm m) a0 fun d' o' => d' = d ∧ o' = o).symm ▸ w : pfnW Tryd.prog Jn h11 q11 (Sm m) Tryd.f11 [(.val a0)] fun d' o' => d' = d ∧ o' = o)
/-- laws.toTagS -/
def G12 (S : CallS) (a0 : D) (Q : D → List (List D) → Prop) : Prop :=
  Bnd (lenD Tryd.prog 28 a0) fun x1 =>
  BndR (mkD Tryd.prog 25 [(.v (Value.int IntKind.i64 0)), (.v (Value.int IntKind.i64 0)), (.v (Value.int IntKind.i64 0))] x1) fun n2 r3 =>
  ∃ (I14 : List D → Prop) (m15 : List D → Nat), I14 [(.int 0), (.agg r3)] ∧
  ∀ x16 : D, ∀ r17 : List D, I14 [x16, (.agg r17)] →
  Bnd (lenD Tryd.prog 28 a0) fun x18 =>
  Bnd (binD Tryd.prog BinOp.lss 3 x16 x18) fun x19 =>
  OnBD x19 fun t20 => Br t20 (
  Bnd (indexAddrD Tryd.prog 28 a0 x16) fun x21 =>
  Bnd (loadD Tryd.prog 23 x21) fun x22 =>
  ∃ d23 : D, S 8 [(.val x22)] d23 [] ∧
  Bnd (elemP Tryd.prog 31 3 n2 x16) fun j24 =>
  Bnd (putD Tryd.prog 25 r17 j24 d23) fun r25 =>
  Bnd (binD Tryd.prog BinOp.add 3 x16 (.int 1)) fun x26 =>
  I14 [x26, (.agg r25)] ∧ m15 [x26, (.agg r25)] < m15 [x16, (.agg r17)]) (
  Q (.sl 3 n2 r17) [])
theorem D12 (S : CallS) (a0 : D) (Q : D → List (List D) → Prop) : pfnW Tryd.prog Jn h12 q12 S Tryd.f12 [(.val a0)] Q = G12 S a0 Q := by kernel_rfl
theorem V12 {m : Bool} {a0 : D} {d : D} {o : List (List D)} (w : G12 (Sm m) a0 fun d' o' => d' = d ∧ o' = o) : Sm m 12 [(.val a0)] d o := call_sem (Uok m) (J := Jn) (PH := Pn) Tryd.func12 rfl (by kernel_rfl) ((D12 (Sm m) a0 fun d' o' => d' = d ∧ o' = o).symm ▸ w : pfnW Tryd.prog Jn h12 q12 (Sm m) Tryd.f12 [(.val a0)] fun d' o' => d' = d ∧ o' = o)
/-- impl.FormatTurns -/
def G13 (S : CallS) (a0 : D) (Q : D → List (List D) → Prop) : Prop :=
  ∃ d1 : D, S 27 [(.val a0), (.val (.v (Value.string (ByteArray.mk #[32])))), (.val (.fn 9 [] []))] d1 [] ∧
  Q d1 []
theorem D13 (S : CallS) (a0 : D) (Q : D → List (List D) → Prop) : pfnW Tryd.prog Jn h13 q13 S Tryd.f13 [(.val a0)] Q = G13 S a0 Q := by kernel_rfl
theorem V13 {m : Bool} {a0 : D} {d : D} {o : List (List D)} (w : G13 (Sm m) a0 fun d' o' => d' = d ∧ o' = o) : Sm m 13 [(.val a0)] d o := call_sem (Uok m) (J := Jn) (PH := Pn) Tryd.func13 rfl (by kernel_rfl) ((D13 (Sm m) a0 fun d' o' => d' = d ∧ o' = o).symm ▸ w : pfnW Tryd.prog Jn h13 q13 (Sm m) Tryd.f13 [(.val a0)] fun d' o' => d' = d ∧ o' = o)
/-- laws.eqTagS -/
def G14 (S : CallS) (a0 a1 : D) (Q : D → List (List D) → Prop) : Prop :=
  Bnd (lenD Tryd.prog 31 a0) fun x1 =>
  Bnd (lenD Tryd.prog 31 a1) fun x2 =>
  Bnd (binD Tryd.prog BinOp.neq 3 x1 x2) fun x3 =>
  OnBD x3 fun t4 => Br t4 (
  Q (.bool false) []) (
  ∃ (I5 : List D → Prop) (m6 : List D → Nat), I5 [(.bool false), (.int 0)] ∧
  ∀ x7 : D, ∀ x8 : D, I5 [x7, x8] →
  Bnd (lenD Tryd.prog 31 a0) fun x9 =>
  Bnd (binD Tryd.prog BinOp.lss 3 x8 x9) fun x10 =>
  OnBD x10 fun t11 => Br t11 (
  Bnd (indexAddrD Tryd.prog 31 a0 x8) fun x12 =>
  Bnd (loadD Tryd.prog 25 x12) fun x13 =>
  Bnd (indexAddrD Tryd.prog 31 a1 x8) fun x14 =>
  Bnd (loadD Tryd.prog 25 x14) fun x15 =>
  ∃ d16 : D, S 28 [(.val x13), (.val x15)] d16 [] ∧
  Bnd (unD UnOp.not d16) fun x17 =>
  OnBD x17 fun t18 => Br t18 (
  Q (.bool false) []) (
  Bnd (binD Tryd.prog BinOp.add 3 x8 (.int 1)) fun x19 =>
  I5 [x7, x19] ∧ m6 [x7, x19] < m6 [x7, x8])) (
  Q (.bool true) []))
theorem D14 (S : CallS) (a0 a1 : D) (Q : D → List (List D) → Prop) : pfnW Tryd.prog Jn h14 q14 S Tryd.f14 [(.val a0), (.val a1)] Q = G14 S a0 a1 Q := by kernel_rfl
theorem V14 {m : Bool} {a0 a1 : D} {d : D} {o : List (List D)} (w : G14 (Sm m) a0 a1 fun d' o' => d' = d ∧ o' = o) : Sm m 14 [(.val a0), (.val a1)] d o := call_sem (Uok m) (J := Jn) (PH := Pn) Tryd.func14 rfl (by kernel_rfl) ((D14 (Sm m) a0 a1 fun d' o' => d' = d ∧ o' = o).symm ▸ w : pfnW Tryd.prog Jn h14 q14 (Sm m) Tryd.f14 [(.val a0), (.val a1)] fun d' o' => d' = d ∧ o' = o)
/-- laws.szMessage -/
def G15 (S : CallS) (a0 a1 : D) (Q : D → List (List D) → Prop) : Prop :=
  ∃ x1 x2 x3 x4 x5 x6 x7 x8 x9 x10 x11 x12 : D, (cellsD Tryd.prog 39 a0) = some [x1, x2, x3, x4, x5, x6, x7, x8, x9, x10, x11, x12] ∧
  Bnd (lenD Tryd.prog 9 x5) fun x13 =>
  Bnd (binD Tryd.prog BinOp.sub 3 a1 x13) fun x14 =>
  Bnd (binD Tryd.prog BinOp.lss 3 x14 (.int 0)) fun x15 =>
  OnBD x15 fun t16 => Br t16 (
  Q (.int (-1)) []) (
  ∃ d17 : D, S 29 [(.val x6), (.val x14)] d17 [] ∧
  Bnd (binD Tryd.prog BinOp.lss 3 d17 (.int 0)) fun x18 =>
  OnBD x18 fun t19 => Br t19 (
  Q (.int (-1)) []) (
  Q d17 []))
theorem D15 (S : CallS) (a0 a1 : D) (Q : D → List (List D) → Prop) : pfnW Tryd.prog Jn h15 q15 S Tryd.f15 [(.val a0), (.val a1)] Q = G15 S a0 a1 Q := by kernel_rfl
theorem V15 {m : Bool} {a0 a1 : D} {d : D} {o : List (List D)} (w : G15 (Sm m) a0 a1 fun d' o' => d' = d ∧ o' = o) : Sm m 15 [(.val a0), (.val a1)] d o := call_sem (Uok m) (J := Jn) (PH := Pn) Tryd.func15 rfl (by kernel_rfl) ((D15 (Sm m) a0 a1 fun d' o' => d' = d ∧ o' = o).symm ▸ w : pfnW Tryd.prog Jn h15 q15 (Sm m) Tryd.f15 [(.val a0), (.val a1)] fun d' o' => d' = d ∧ o' = o)
/-- spec.FormatMessage -/
def G16 (S : CallS) (a0 : D) (Q : D → List (List D) → Prop) : Prop :=
  ∃ x1 x2 x3 x4 x5 x6 x7 x8 x9 x10 x11 x12 : D, (cellsD Tryd.prog 45 a0) = some [x1, x2, x3, x4, x5, x6, x7, x8, x9, x10, x11, x12] ∧
  ∃ d13 : D, S 30 [(.val (.agg [x1, x2, x3, x4, x5, x6, x7, x8, x9, x10, x11, x12]))] d13 [] ∧
  Bnd (unD UnOp.not d13) fun x14 =>
  OnBD x14 fun t15 => Br t15 (
  Q (.v (Value.string (ByteArray.mk #[63]))) []) (
  ∃ d16 : D, S 31 [(.val x1)] d16 [] ∧
  Bnd (binD Tryd.prog BinOp.add 9 d16 (.v (Value.string (ByteArray.mk #[32])))) fun x17 =>
  Bnd (binD Tryd.prog BinOp.eql 3 x1 (.int 1)) fun x18 =>
  OnBD x18 fun t19 => Br t19 (
  ∃ R20 : List D → Prop, (
  Bnd (binD Tryd.prog BinOp.eql 3 x2 (.int 0)) fun x21 =>
  OnBD x21 fun t22 => Br t22 (
  Bnd (binD Tryd.prog BinOp.add 9 x17 (.v (Value.string (ByteArray.mk #[63])))) fun x23 =>
  ∃ d24 : D, S 25 [(.val x3)] d24 [] ∧
  Bnd (binD Tryd.prog BinOp.add 9 x23 d24) fun x25 =>
  R20 [x25]) (
  ∃ d26 : D, S 25 [(.val x2)] d26 [] ∧
  Bnd (binD Tryd.prog BinOp.add 9 x17 d26) fun x27 =>
  R20 [x27])) ∧
  ∀ x28 : D, R20 [x28] →
  Bnd (binD Tryd.prog BinOp.add 9 x28 (.v (Value.string (ByteArray.mk #[32])))) fun x29 =>
  Bnd (binD Tryd.prog BinOp.add 9 x29 x5) fun x30 =>
  ∃ (I31 : List D → Prop) (m32 : List D → Nat), I31 [x30, (.int 0)] ∧
  ∀ x33 : D, ∀ x34 : D, I31 [x33, x34] →
  Bnd (lenD Tryd.prog 42 x6) fun x35 =>
  Bnd (binD Tryd.prog BinOp.lss 3 x34 x35) fun x36 =>
  OnBD x36 fun t37 => Br t37 (
  Bnd (binD Tryd.prog BinOp.add 9 x33 (.v (Value.string (ByteArray.mk #[32])))) fun x38 =>
  Bnd (indexAddrD Tryd.prog 42 x6 x34) fun x39 =>
  Bnd (loadD Tryd.prog 43 x39) fun x40 =>
  ∃ d41 : D, S 32 [(.val x40)] d41 [] ∧
  Bnd (binD Tryd.prog BinOp.add 9 x38 d41) fun x42 =>
  Bnd (binD Tryd.prog BinOp.add 3 x34 (.int 1)) fun x43 =>
  I31 [x42, x43] ∧ m32 [x42, x43] < m32 [x33, x34]) (
  Q x33 [])) (
  Bnd (binD Tryd.prog BinOp.eql 3 x1 (.int 2)) fun x44 =>
  OnBD x44 fun t45 => Br t45 (
  ∃ d46 : D, S 25 [(.val x4)] d46 [] ∧
  Bnd (binD Tryd.prog BinOp.add 9 x17 d46) fun x47 =>
  Bnd (binD Tryd.prog BinOp.add 9 x47 (.v (Value.string (ByteArray.mk #[32])))) fun x48 =>
  ∃ d49 : D, S 32 [(.val (.agg [x7, x8]))] d49 [] ∧
  Bnd (binD Tryd.prog BinOp.add 9 x48 d49) fun x50 =>
  Q x50 []) (
  Bnd (binD Tryd.prog BinOp.eql 3 x1 (.int 6)) fun x51 =>
  OnBD x51 fun t52 => Br t52 (
  ∃ d53 : D, S 25 [(.val x2)] d53 [] ∧
  Bnd (binD Tryd.prog BinOp.add 9 x17 d53) fun x54 =>
  Bnd (binD Tryd.prog BinOp.add 9 x54 (.v (Value.string (ByteArray.mk #[120])))) fun x55 =>
  ∃ d56 : D, S 25 [(.val x9)] d56 [] ∧
  Bnd (binD Tryd.prog BinOp.add 9 x55 d56) fun x57 =>
  Q x57 []) (
  ∃ d58 : D, S 25 [(.val x4)] d58 [] ∧
  Bnd (binD Tryd.prog BinOp.add 9 x17 d58) fun x59 =>
  Q x59 []))))
theorem D16 (S : CallS) (a0 : D) (Q : D → List (List D) → Prop) : pfnW Tryd.prog Jn h16 q16 S Tryd.f16 [(.val a0)] Q = G16 S a0 Q := by kernel_rfl
theorem V16 {m : Bool} {a0 : D} {d : D} {o : List (List D)} (w : G16 (Sm m) a0 fun d' o' => d' = d ∧ o' = o) : Sm m 16 [(.val a0)] d o := call_sem (Uok m) (J := Jn) (PH := Pn) Tryd.func16 rfl (by kernel_rfl) ((D16 (Sm m) a0 fun d' o' => d' = d ∧ o' = o).symm ▸ w : pfnW Tryd.prog Jn h16 q16 (Sm m) Tryd.f16 [(.val a0)] fun d' o' => d' = d ∧ o' = o)
/-- laws.toMessage -/
def G17 (S : CallS) (a0 : D) (Q : D → List (List D) → Prop) : Prop :=
  ∃ x1 x2 x3 x4 x5 x6 x7 x8 x9 x10 x11 x12 : D, (cellsD Tryd.prog 39 a0) = some [x1, x2, x3, x4, x5, x6, x7, x8, x9, x10, x11, x12] ∧
  ∃ d13 : D, S 33 [(.val x6)] d13 [] ∧
  Bnd (oneD d13) fun x14 =>
  ∃ d15 : D, S 34 [(.val (.agg [x7, x8]))] d15 [] ∧
  ∃ x16 x17 : D, (cellsD Tryd.prog 43 d15) = some [x16, x17] ∧
  ∃ d18 : D, S 8 [(.val (.agg [x10, x11, x12]))] d18 [] ∧
  ∃ x19 x20 x21 : D, (cellsD Tryd.prog 25 d18) = some [x19, x20, x21] ∧
  ∃ x22 x23 x24 x25 x26 x27 x28 x29 x30 x31 x32 x33 : D, (cellsD Tryd.prog 45 (.agg [x1, x2, x3, x4, x5, x14, x16, x17, x9, x19, x20, x21])) = some [x22, x23, x24, x25, x26, x27, x28, x29, x30, x31, x32, x33] ∧
  Q (.agg [x22, x23, x24, x25, x26, x27, x28, x29, x30, x31, x32, x33]) []
theorem D17 (S : CallS) (a0 : D) (Q : D → List (List D) → Prop) : pfnW Tryd.prog Jn h17 q17 S Tryd.f17 [(.val a0)] Q = G17 S a0 Q := by kernel_rfl
theorem V17 {m : Bool} {a0 : D} {d : D} {o : List (List D)} (w : G17 (Sm m) a0 fun d' o' => d' = d ∧ o' = o) : Sm m 17 [(.val a0)] d o := call_sem (Uok m) (J := Jn) (PH := Pn) Tryd.func17 rfl (by kernel_rfl) ((D17 (Sm m) a0 fun d' o' => d' = d ∧ o' = o).symm ▸ w : pfnW Tryd.prog Jn h17 q17 (Sm m) Tryd.f17 [(.val a0)] fun d' o' => d' = d ∧ o' = o)
/-- impl.FormatMessage -/
def G18 (S : CallS) (a0 : D) (Q : D → List (List D) → Prop) : Prop :=
  ∃ x1 x2 x3 x4 x5 x6 x7 x8 x9 x10 x11 x12 : D, (cellsD Tryd.prog 45 a0) = some [x1, x2, x3, x4, x5, x6, x7, x8, x9, x10, x11, x12] ∧
  ∃ d13 : D, S 35 [(.val (.agg [x1, x2, x3, x4, x5, x6, x7, x8, x9, x10, x11, x12]))] d13 [] ∧
  Bnd (unD UnOp.not d13) fun x14 =>
  OnBD x14 fun t15 => Br t15 (
  Q (.v (Value.string (ByteArray.mk #[63]))) []) (
  ∃ d16 : D, S 36 [(.val x1)] d16 [] ∧
  Bnd (binD Tryd.prog BinOp.add 9 d16 (.v (Value.string (ByteArray.mk #[32])))) fun x17 =>
  Bnd (binD Tryd.prog BinOp.eql 3 x1 (.int 1)) fun x18 =>
  OnBD x18 fun t19 => Br t19 (
  ∃ R20 : List D → Prop, (
  Bnd (binD Tryd.prog BinOp.eql 3 x2 (.int 0)) fun x21 =>
  OnBD x21 fun t22 => Br t22 (
  ∃ d23 : D, S 37 [(.val x3)] d23 [] ∧
  Bnd (binD Tryd.prog BinOp.add 9 (.v (Value.string (ByteArray.mk #[63]))) d23) fun x24 =>
  Bnd (binD Tryd.prog BinOp.add 9 x17 x24) fun x25 =>
  R20 [x25]) (
  ∃ d26 : D, S 37 [(.val x2)] d26 [] ∧
  Bnd (binD Tryd.prog BinOp.add 9 x17 d26) fun x27 =>
  R20 [x27])) ∧
  ∀ x28 : D, R20 [x28] →
  Bnd (binD Tryd.prog BinOp.add 9 (.v (Value.string (ByteArray.mk #[32]))) x5) fun x29 =>
  Bnd (binD Tryd.prog BinOp.add 9 x28 x29) fun x30 =>
  Bnd (lenD Tryd.prog 42 x6) fun x31 =>
  ∃ (I32 : List D → Prop) (m33 : List D → Nat), I32 [x30, (.int 0)] ∧
  ∀ x34 : D, ∀ x35 : D, I32 [x34, x35] →
  Bnd (binD Tryd.prog BinOp.lss 3 x35 x31) fun x36 =>
  OnBD x36 fun t37 => Br t37 (
  Bnd (indexAddrD Tryd.prog 42 x6 x35) fun x38 =>
  Bnd (loadD Tryd.prog 43 x38) fun x39 =>
  ∃ x40 x41 : D, (cellsD Tryd.prog 43 x39) = some [x40, x41] ∧
  ∃ d42 : D, S 38 [(.val (.agg [x40, x41]))] d42 [] ∧
  Bnd (binD Tryd.prog BinOp.add 9 (.v (Value.string (ByteArray.mk #[32]))) d42) fun x43 =>
  Bnd (binD Tryd.prog BinOp.add 9 x34 x43) fun x44 =>
  Bnd (binD Tryd.prog BinOp.add 3 x35 (.int 1)) fun x45 =>
  I32 [x44, x45] ∧ m33 [x44, x45] < m33 [x34, x35]) (
  Q x34 [])) (
  Bnd (binD Tryd.prog BinOp.eql 3 x1 (.int 2)) fun x46 =>
  OnBD x46 fun t47 => Br t47 (
  ∃ d48 : D, S 37 [(.val x4)] d48 [] ∧
  Bnd (binD Tryd.prog BinOp.add 9 x17 d48) fun x49 =>
  Bnd (binD Tryd.prog BinOp.add 9 x49 (.v (Value.string (ByteArray.mk #[32])))) fun x50 =>
  ∃ d51 : D, S 38 [(.val (.agg [x7, x8]))] d51 [] ∧
  Bnd (binD Tryd.prog BinOp.add 9 x50 d51) fun x52 =>
  Q x52 []) (
  Bnd (binD Tryd.prog BinOp.eql 3 x1 (.int 6)) fun x53 =>
  OnBD x53 fun t54 => Br t54 (
  ∃ d55 : D, S 37 [(.val x2)] d55 [] ∧
  Bnd (binD Tryd.prog BinOp.add 9 x17 d55) fun x56 =>
  Bnd (binD Tryd.prog BinOp.add 9 x56 (.v (Value.string (ByteArray.mk #[120])))) fun x57 =>
  ∃ d58 : D, S 37 [(.val x9)] d58 [] ∧
  Bnd (binD Tryd.prog BinOp.add 9 x57 d58) fun x59 =>
  Q x59 []) (
  ∃ d60 : D, S 37 [(.val x4)] d60 [] ∧
  Bnd (binD Tryd.prog BinOp.add 9 x17 d60) fun x61 =>
  Q x61 []))))
theorem D18 (S : CallS) (a0 : D) (Q : D → List (List D) → Prop) : pfnW Tryd.prog Jn h18 q18 S Tryd.f18 [(.val a0)] Q = G18 S a0 Q := by kernel_rfl
theorem V18 {m : Bool} {a0 : D} {d : D} {o : List (List D)} (w : G18 (Sm m) a0 fun d' o' => d' = d ∧ o' = o) : Sm m 18 [(.val a0)] d o := call_sem (Uok m) (J := Jn) (PH := Pn) Tryd.func18 rfl (by kernel_rfl) ((D18 (Sm m) a0 fun d' o' => d' = d ∧ o' = o).symm ▸ w : pfnW Tryd.prog Jn h18 q18 (Sm m) Tryd.f18 [(.val a0)] fun d' o' => d' = d ∧ o' = o)
/-- laws.eqMessage -/
def G19 (S : CallS) (a0 a1 : D) (Q : D → List (List D) → Prop) : Prop :=
  ∃ x1 x2 x3 x4 x5 x6 x7 x8 x9 x10 x11 x12 : D, (cellsD Tryd.prog 45 a0) = some [x1, x2, x3, x4, x5, x6, x7, x8, x9, x10, x11, x12] ∧
  ∃ x13 x14 x15 x16 x17 x18 x19 x20 x21 x22 x23 x24 : D, (cellsD Tryd.prog 45 a1) = some [x13, x14, x15, x16, x17, x18, x19, x20, x21, x22, x23, x24] ∧
  Bnd (binD Tryd.prog BinOp.neq 3 x1 x13) fun x25 =>
  OnBD x25 fun t26 => Br t26 (
  Q (.bool false) []) (
  Bnd (binD Tryd.prog BinOp.neq 3 x2 x14) fun x27 =>
  OnBD x27 fun t28 => Br t28 (
  Q (.bool false) []) (
  Bnd (binD Tryd.prog BinOp.neq 3 x3 x15) fun x29 =>
  OnBD x29 fun t30 => Br t30 (
  Q (.bool false) []) (
  Bnd (binD Tryd.prog BinOp.neq 3 x4 x16) fun x31 =>
  OnBD x31 fun t32 => Br t32 (
  Q (.bool false) []) (
  Bnd (binD Tryd.prog BinOp.neq 9 x5 x17) fun x33 =>
  OnBD x33 fun t34 => Br t34 (
  Q (.bool false) []) (
  ∃ d35 : D, S 39 [(.val x6), (.val x18)] d35 [] ∧
  Bnd (unD UnOp.not d35) fun x36 =>
  OnBD x36 fun t37 => Br t37 (
  Q (.bool false) []) (
  ∃ d38 : D, S 40 [(.val (.agg [x7, x8])), (.val (.agg [x19, x20]))] d38 [] ∧
  Bnd (unD UnOp.not d38) fun x39 =>
  OnBD x39 fun t40 => Br t40 (
  Q (.bool false) []) (
  Bnd (binD Tryd.prog BinOp.neq 3 x9 x21) fun x41 =>
  OnBD x41 fun t42 => Br t42 (
  Q (.bool false) []) (
  ∃ d43 : D, S 28 [(.val (.agg [x10, x11, x12])), (.val (.agg [x22, x23, x24]))] d43 [] ∧
  Bnd (unD UnOp.not d43) fun x44 =>
  OnBD x44 fun t45 => Br t45 (
  Q (.bool false) []) (
  Q (.bool true) [])))))))))
theorem D19 (S : CallS) (a0 a1 : D) (Q : D → List (List D) → Prop) : pfnW Tryd.prog Jn h19 q19 S Tryd.f19 [(.val a0), (.val a1)] Q = G19 S a0 a1 Q := by kernel_rfl
theorem V19 {m : Bool} {a0 a1 : D} {d : D} {o : List (List D)} (w : G19 (Sm m) a0 a1 fun d' o' => d' = d ∧ o' = o) : Sm m 19 [(.val a0), (.val a1)] d o := call_sem (Uok m) (J := Jn) (PH := Pn) Tryd.func19 rfl (by kernel_rfl) ((D19 (Sm m) a0 a1 fun d' o' => d' = d ∧ o' = o).symm ▸ w : pfnW Tryd.prog Jn h19 q19 (Sm m) Tryd.f19 [(.val a0), (.val a1)] fun d' o' => d' = d ∧ o' = o)
/-- laws.szEntity -/
def G20 (S : CallS) (a0 a1 : D) (Q : D → List (List D) → Prop) : Prop :=
  ∃ x1 x2 x3 x4 x5 x6 x7 x8 x9 x10 x11 x12 : D, (cellsD Tryd.prog 54 a0) = some [x1, x2, x3, x4, x5, x6, x7, x8, x9, x10, x11, x12] ∧
  ∃ d13 : D, S 41 [(.val x3), (.val a1)] d13 [] ∧
  Bnd (binD Tryd.prog BinOp.lss 3 d13 (.int 0)) fun x14 =>
  OnBD x14 fun t15 => Br t15 (
  Q (.int (-1)) []) (
  ∃ d16 : D, S 42 [(.val x7), (.val d13)] d16 [] ∧
  Bnd (binD Tryd.prog BinOp.lss 3 d16 (.int 0)) fun x17 =>
  OnBD x17 fun t18 => Br t18 (
  Q (.int (-1)) []) (
  ∃ d19 : D, S 43 [(.val x8), (.val d16)] d19 [] ∧
  Bnd (binD Tryd.prog BinOp.lss 3 d19 (.int 0)) fun x20 =>
  OnBD x20 fun t21 => Br t21 (
  Q (.int (-1)) []) (
  Q d19 [])))
theorem D20 (S : CallS) (a0 a1 : D) (Q : D → List (List D) → Prop) : pfnW Tryd.prog Jn h20 q20 S Tryd.f20 [(.val a0), (.val a1)] Q = G20 S a0 a1 Q := by kernel_rfl
theorem V20 {m : Bool} {a0 a1 : D} {d : D} {o : List (List D)} (w : G20 (Sm m) a0 a1 fun d' o' => d' = d ∧ o' = o) : Sm m 20 [(.val a0), (.val a1)] d o := call_sem (Uok m) (J := Jn) (PH := Pn) Tryd.func20 rfl (by kernel_rfl) ((D20 (Sm m) a0 a1 fun d' o' => d' = d ∧ o' = o).symm ▸ w : pfnW Tryd.prog Jn h20 q20 (Sm m) Tryd.f20 [(.val a0), (.val a1)] fun d' o' => d' = d ∧ o' = o)
/-- spec.FormatEntity -/
def G21 (S : CallS) (a0 : D) (Q : D → List (List D) → Prop) : Prop :=
  ∃ x1 x2 x3 x4 x5 x6 x7 x8 x9 x10 x11 x12 : D, (cellsD Tryd.prog 62 a0) = some [x1, x2, x3, x4, x5, x6, x7, x8, x9, x10, x11, x12] ∧
  Bnd (binD Tryd.prog BinOp.eql 3 x1 (.int 1)) fun x13 =>
  OnBD x13 fun t14 => Br t14 (
  ∃ d15 : D, S 25 [(.val x2)] d15 [] ∧
  Bnd (binD Tryd.prog BinOp.add 9 (.v (Value.string (ByteArray.mk #[111, 98, 106]))) d15) fun x16 =>
  ∃ (I17 : List D → Prop) (m18 : List D → Nat), I17 [x16, (.int 0)] ∧
  ∀ x19 : D, ∀ x20 : D, I17 [x19, x20] →
  Bnd (lenD Tryd.prog 57 x3) fun x21 =>
  Bnd (binD Tryd.prog BinOp.lss 3 x20 x21) fun x22 =>
  OnBD x22 fun t23 => Br t23 (
  Bnd (binD Tryd.prog BinOp.add 9 x19 (.v (Value.string (ByteArray.mk #[32])))) fun x24 =>
  Bnd (indexAddrD Tryd.prog 57 x3 x20) fun x25 =>
  Bnd (loadD Tryd.prog 58 x25) fun x26 =>
  ∃ d27 : D, S 44 [(.val x26)] d27 [] ∧
  Bnd (binD Tryd.prog BinOp.add 9 x24 d27) fun x28 =>
  Bnd (binD Tryd.prog BinOp.add 3 x20 (.int 1)) fun x29 =>
  I17 [x28, x29] ∧ m18 [x28, x29] < m18 [x19, x20]) (
  Q x19 [])) (
  Bnd (binD Tryd.prog BinOp.eql 3 x1 (.int 3)) fun x30 =>
  OnBD x30 fun t31 => Br t31 (
  ∃ d32 : D, S 25 [(.val x9)] d32 [] ∧
  Bnd (binD Tryd.prog BinOp.add 9 (.v (Value.string (ByteArray.mk #[102, 97, 114]))) d32) fun x33 =>
  Bnd (binD Tryd.prog BinOp.add 9 x33 (.v (Value.string (ByteArray.mk #[58])))) fun x34 =>
  ∃ d35 : D, S 25 [(.val x10)] d35 [] ∧
  Bnd (binD Tryd.prog BinOp.add 9 x34 d35) fun x36 =>
  Q x36 []) (
  Bnd (binD Tryd.prog BinOp.eql 3 x1 (.int 2)) fun x37 =>
  OnBD x37 fun t38 => Br t38 (
  Bnd (binD Tryd.prog BinOp.eql 3 x4 (.int 1)) fun x39 =>
  OnBD x39 fun t40 => Br t40 (
  Q (.v (Value.string (ByteArray.mk #[111, 112, 101, 110]))) []) (
  Bnd (binD Tryd.prog BinOp.eql 3 x4 (.int 2)) fun x41 =>
  OnBD x41 fun t42 => Br t42 (
  ∃ d43 : D, S 44 [(.val (.agg [x5, x6]))] d43 [] ∧
  Bnd (binD Tryd.prog BinOp.add 9 (.v (Value.string (ByteArray.mk #[107, 101, 112, 116, 32]))) d43) fun x44 =>
  Q x44 []) (
  Bnd (binD Tryd.prog BinOp.eql 3 x4 (.int 3)) fun x45 =>
  OnBD x45 fun t46 => Br t46 (
  ∃ d47 : D, S 25 [(.val x9)] d47 [] ∧
  Bnd (binD Tryd.prog BinOp.add 9 (.v (Value.string (ByteArray.mk #[97, 119, 97, 121, 32]))) d47) fun x48 =>
  Bnd (binD Tryd.prog BinOp.add 9 x48 (.v (Value.string (ByteArray.mk #[63])))) fun x49 =>
  ∃ d50 : D, S 25 [(.val x10)] d50 [] ∧
  Bnd (binD Tryd.prog BinOp.add 9 x49 d50) fun x51 =>
  Q x51 []) (
  Bnd (binD Tryd.prog BinOp.eql 3 x4 (.int 4)) fun x52 =>
  OnBD x52 fun t53 => Br t53 (
  ∃ d54 : D, S 44 [(.val (.agg [x5, x6]))] d54 [] ∧
  Bnd (binD Tryd.prog BinOp.add 9 (.v (Value.string (ByteArray.mk #[104, 101, 108, 100, 32]))) d54) fun x55 =>
  Q x55 []) (
  Q (.v (Value.string (ByteArray.mk #[63]))) []))))) (
  Q (.v (Value.string (ByteArray.mk #[63]))) [])))
theorem D21 (S : CallS) (a0 : D) (Q : D → List (List D) → Prop) : pfnW Tryd.prog Jn h21 q21 S Tryd.f21 [(.val a0)] Q = G21 S a0 Q := by kernel_rfl
theorem V21 {m : Bool} {a0 : D} {d : D} {o : List (List D)} (w : G21 (Sm m) a0 fun d' o' => d' = d ∧ o' = o) : Sm m 21 [(.val a0)] d o := call_sem (Uok m) (J := Jn) (PH := Pn) Tryd.func21 rfl (by kernel_rfl) ((D21 (Sm m) a0 fun d' o' => d' = d ∧ o' = o).symm ▸ w : pfnW Tryd.prog Jn h21 q21 (Sm m) Tryd.f21 [(.val a0)] fun d' o' => d' = d ∧ o' = o)
/-- laws.toEntity -/
def G22 (S : CallS) (a0 : D) (Q : D → List (List D) → Prop) : Prop :=
  ∃ x1 x2 x3 x4 x5 x6 x7 x8 x9 x10 x11 x12 : D, (cellsD Tryd.prog 54 a0) = some [x1, x2, x3, x4, x5, x6, x7, x8, x9, x10, x11, x12] ∧
  ∃ d13 : D, S 45 [(.val x3)] d13 [] ∧
  Bnd (oneD d13) fun x14 =>
  ∃ d15 : D, S 46 [(.val (.agg [x5, x6]))] d15 [] ∧
  ∃ x16 x17 : D, (cellsD Tryd.prog 58 d15) = some [x16, x17] ∧
  ∃ d18 : D, S 47 [(.val x7)] d18 [] ∧
  Bnd (oneD d18) fun x19 =>
  ∃ d20 : D, S 48 [(.val x8)] d20 [] ∧
  Bnd (oneD d20) fun x21 =>
  ∃ x22 x23 x24 x25 x26 x27 x28 x29 x30 x31 x32 x33 : D, (cellsD Tryd.prog 62 (.agg [x1, x2, x14, x4, x16, x17, x19, x21, x9, x10, x11, x12])) = some [x22, x23, x24, x25, x26, x27, x28, x29, x30, x31, x32, x33] ∧
  Q (.agg [x22, x23, x24, x25, x26, x27, x28, x29, x30, x31, x32, x33]) []
theorem D22 (S : CallS) (a0 : D) (Q : D → List (List D) → Prop) : pfnW Tryd.prog Jn h22 q22 S Tryd.f22 [(.val a0)] Q = G22 S a0 Q := by kernel_rfl
theorem V22 {m : Bool} {a0 : D} {d : D} {o : List (List D)} (w : G22 (Sm m) a0 fun d' o' => d' = d ∧ o' = o) : Sm m 22 [(.val a0)] d o := call_sem (Uok m) (J := Jn) (PH := Pn) Tryd.func22 rfl (by kernel_rfl) ((D22 (Sm m) a0 fun d' o' => d' = d ∧ o' = o).symm ▸ w : pfnW Tryd.prog Jn h22 q22 (Sm m) Tryd.f22 [(.val a0)] fun d' o' => d' = d ∧ o' = o)
/-- impl.FormatEntity -/
def G23 (S : CallS) (a0 : D) (Q : D → List (List D) → Prop) : Prop :=
  ∃ x1 x2 x3 x4 x5 x6 x7 x8 x9 x10 x11 x12 : D, (cellsD Tryd.prog 62 a0) = some [x1, x2, x3, x4, x5, x6, x7, x8, x9, x10, x11, x12] ∧
  Bnd (binD Tryd.prog BinOp.eql 3 x1 (.int 1)) fun x13 =>
  OnBD x13 fun t14 => Br t14 (
  ∃ d15 : D, S 37 [(.val x2)] d15 [] ∧
  Bnd (binD Tryd.prog BinOp.add 9 (.v (Value.string (ByteArray.mk #[111, 98, 106]))) d15) fun x16 =>
  Bnd (lenD Tryd.prog 57 x3) fun x17 =>
  ∃ (I18 : List D → Prop) (m19 : List D → Nat), I18 [x16, (.int 0)] ∧
  ∀ x20 : D, ∀ x21 : D, I18 [x20, x21] →
  Bnd (binD Tryd.prog BinOp.lss 3 x21 x17) fun x22 =>
  OnBD x22 fun t23 => Br t23 (
  Bnd (indexAddrD Tryd.prog 57 x3 x21) fun x24 =>
  Bnd (loadD Tryd.prog 58 x24) fun x25 =>
  ∃ x26 x27 : D, (cellsD Tryd.prog 58 x25) = some [x26, x27] ∧
  ∃ d28 : D, S 49 [(.val (.agg [x26, x27]))] d28 [] ∧
  Bnd (binD Tryd.prog BinOp.add 9 (.v (Value.string (ByteArray.mk #[32]))) d28) fun x29 =>
  Bnd (binD Tryd.prog BinOp.add 9 x20 x29) fun x30 =>
  Bnd (binD Tryd.prog BinOp.add 3 x21 (.int 1)) fun x31 =>
  I18 [x30, x31] ∧ m19 [x30, x31] < m19 [x20, x21]) (
  Q x20 [])) (
  Bnd (binD Tryd.prog BinOp.eql 3 x1 (.int 3)) fun x32 =>
  OnBD x32 fun t33 => Br t33 (
  ∃ d34 : D, S 37 [(.val x9)] d34 [] ∧
  Bnd (binD Tryd.prog BinOp.add 9 (.v (Value.string (ByteArray.mk #[102, 97, 114]))) d34) fun x35 =>
  Bnd (binD Tryd.prog BinOp.add 9 x35 (.v (Value.string (ByteArray.mk #[58])))) fun x36 =>
  ∃ d37 : D, S 37 [(.val x10)] d37 [] ∧
  Bnd (binD Tryd.prog BinOp.add 9 x36 d37) fun x38 =>
  Q x38 []) (
  Bnd (binD Tryd.prog BinOp.neq 3 x1 (.int 2)) fun x39 =>
  OnBD x39 fun t40 => Br t40 (
  Q (.v (Value.string (ByteArray.mk #[63]))) []) (
  Bnd (binD Tryd.prog BinOp.eql 3 x4 (.int 1)) fun x41 =>
  OnBD x41 fun t42 => Br t42 (
  Q (.v (Value.string (ByteArray.mk #[111, 112, 101, 110]))) []) (
  Bnd (binD Tryd.prog BinOp.eql 3 x4 (.int 2)) fun x43 =>
  OnBD x43 fun t44 => Br t44 (
  ∃ d45 : D, S 49 [(.val (.agg [x5, x6]))] d45 [] ∧
  Bnd (binD Tryd.prog BinOp.add 9 (.v (Value.string (ByteArray.mk #[107, 101, 112, 116, 32]))) d45) fun x46 =>
  Q x46 []) (
  Bnd (binD Tryd.prog BinOp.eql 3 x4 (.int 3)) fun x47 =>
  OnBD x47 fun t48 => Br t48 (
  ∃ d49 : D, S 37 [(.val x9)] d49 [] ∧
  Bnd (binD Tryd.prog BinOp.add 9 (.v (Value.string (ByteArray.mk #[97, 119, 97, 121, 32]))) d49) fun x50 =>
  Bnd (binD Tryd.prog BinOp.add 9 x50 (.v (Value.string (ByteArray.mk #[63])))) fun x51 =>
  ∃ d52 : D, S 37 [(.val x10)] d52 [] ∧
  Bnd (binD Tryd.prog BinOp.add 9 x51 d52) fun x53 =>
  Q x53 []) (
  Bnd (binD Tryd.prog BinOp.eql 3 x4 (.int 4)) fun x54 =>
  OnBD x54 fun t55 => Br t55 (
  ∃ d56 : D, S 49 [(.val (.agg [x5, x6]))] d56 [] ∧
  Bnd (binD Tryd.prog BinOp.add 9 (.v (Value.string (ByteArray.mk #[104, 101, 108, 100, 32]))) d56) fun x57 =>
  Q x57 []) (
  Q (.v (Value.string (ByteArray.mk #[63]))) [])))))))
theorem D23 (S : CallS) (a0 : D) (Q : D → List (List D) → Prop) : pfnW Tryd.prog Jn h23 q23 S Tryd.f23 [(.val a0)] Q = G23 S a0 Q := by kernel_rfl
theorem V23 {m : Bool} {a0 : D} {d : D} {o : List (List D)} (w : G23 (Sm m) a0 fun d' o' => d' = d ∧ o' = o) : Sm m 23 [(.val a0)] d o := call_sem (Uok m) (J := Jn) (PH := Pn) Tryd.func23 rfl (by kernel_rfl) ((D23 (Sm m) a0 fun d' o' => d' = d ∧ o' = o).symm ▸ w : pfnW Tryd.prog Jn h23 q23 (Sm m) Tryd.f23 [(.val a0)] fun d' o' => d' = d ∧ o' = o)
/-- laws.eqEntity -/
def G24 (S : CallS) (a0 a1 : D) (Q : D → List (List D) → Prop) : Prop :=
  ∃ x1 x2 x3 x4 x5 x6 x7 x8 x9 x10 x11 x12 : D, (cellsD Tryd.prog 62 a0) = some [x1, x2, x3, x4, x5, x6, x7, x8, x9, x10, x11, x12] ∧
  ∃ x13 x14 x15 x16 x17 x18 x19 x20 x21 x22 x23 x24 : D, (cellsD Tryd.prog 62 a1) = some [x13, x14, x15, x16, x17, x18, x19, x20, x21, x22, x23, x24] ∧
  Bnd (binD Tryd.prog BinOp.neq 3 x1 x13) fun x25 =>
  OnBD x25 fun t26 => Br t26 (
  Q (.bool false) []) (
  Bnd (binD Tryd.prog BinOp.neq 3 x2 x14) fun x27 =>
  OnBD x27 fun t28 => Br t28 (
  Q (.bool false) []) (
  ∃ d29 : D, S 50 [(.val x3), (.val x15)] d29 [] ∧
  Bnd (unD UnOp.not d29) fun x30 =>
  OnBD x30 fun t31 => Br t31 (
  Q (.bool false) []) (
  Bnd (binD Tryd.prog BinOp.neq 3 x4 x16) fun x32 =>
  OnBD x32 fun t33 => Br t33 (
  Q (.bool false) []) (
  ∃ d34 : D, S 51 [(.val (.agg [x5, x6])), (.val (.agg [x17, x18]))] d34 [] ∧
  Bnd (unD UnOp.not d34) fun x35 =>
  OnBD x35 fun t36 => Br t36 (
  Q (.bool false) []) (
  ∃ d37 : D, S 52 [(.val x7), (.val x19)] d37 [] ∧
  Bnd (unD UnOp.not d37) fun x38 =>
  OnBD x38 fun t39 => Br t39 (
  Q (.bool false) []) (
  ∃ d40 : D, S 53 [(.val x8), (.val x20)] d40 [] ∧
  Bnd (unD UnOp.not d40) fun x41 =>
  OnBD x41 fun t42 => Br t42 (
  Q (.bool false) []) (
  Bnd (binD Tryd.prog BinOp.neq 3 x9 x21) fun x43 =>
  OnBD x43 fun t44 => Br t44 (
  Q (.bool false) []) (
  Bnd (binD Tryd.prog BinOp.neq 3 x10 x22) fun x45 =>
  OnBD x45 fun t46 => Br t46 (
  Q (.bool false) []) (
  Bnd (binD Tryd.prog BinOp.neq 3 x11 x23) fun x47 =>
  OnBD x47 fun t48 => Br t48 (
  Q (.bool false) []) (
  Bnd (binD Tryd.prog BinOp.neq 3 x12 x24) fun x49 =>
  OnBD x49 fun t50 => Br t50 (
  Q (.bool false) []) (
  Q (.bool true) [])))))))))))
theorem D24 (S : CallS) (a0 a1 : D) (Q : D → List (List D) → Prop) : pfnW Tryd.prog Jn h24 q24 S Tryd.f24 [(.val a0), (.val a1)] Q = G24 S a0 a1 Q := by kernel_rfl
theorem V24 {m : Bool} {a0 a1 : D} {d : D} {o : List (List D)} (w : G24 (Sm m) a0 a1 fun d' o' => d' = d ∧ o' = o) : Sm m 24 [(.val a0), (.val a1)] d o := call_sem (Uok m) (J := Jn) (PH := Pn) Tryd.func24 rfl (by kernel_rfl) ((D24 (Sm m) a0 a1 fun d' o' => d' = d ∧ o' = o).symm ▸ w : pfnW Tryd.prog Jn h24 q24 (Sm m) Tryd.f24 [(.val a0), (.val a1)] fun d' o' => d' = d ∧ o' = o)
/-- spec.FormatInt -/
def G25 (S : CallS) (a0 : D) (Q : D → List (List D) → Prop) : Prop :=
  Bnd (binD Tryd.prog BinOp.eql 3 a0 (.int 0)) fun x1 =>
  OnBD x1 fun t2 => Br t2 (
  Q (.v (Value.string (ByteArray.mk #[48]))) []) (
  ∃ (I3 : List D → Prop) (m4 : List D → Nat), I3 [(.v (Value.string (ByteArray.mk #[]))), a0] ∧
  ∀ x5 : D, ∀ x6 : D, I3 [x5, x6] →
  Bnd (binD Tryd.prog BinOp.neq 3 x6 (.int 0)) fun x7 =>
  OnBD x7 fun t8 => Br t8 (
  Bnd (binD Tryd.prog BinOp.rem 3 x6 (.int 10)) fun x9 =>
  Bnd (binD Tryd.prog BinOp.lss 3 x9 (.int 0)) fun x10 =>
  OnBD x10 fun t11 => Br t11 (
  Bnd (unD UnOp.neg x9) fun x12 =>
  Bnd (binD Tryd.prog BinOp.add 3 (.int 48) x12) fun x13 =>
  Bnd (convD Tryd.prog 3 5 x13) fun x14 =>
  BndR (litS Tryd.prog 89 1 [(0, x14)]) fun n15 r16 =>
  Bnd (convD Tryd.prog 89 9 (.sl 1 n15 r16)) fun x17 =>
  Bnd (binD Tryd.prog BinOp.add 9 x17 x5) fun x18 =>
  Bnd (binD Tryd.prog BinOp.quo 3 x6 (.int 10)) fun x19 =>
  I3 [x18, x19] ∧ m4 [x18, x19] < m4 [x5, x6]) (
  Bnd (binD Tryd.prog BinOp.add 3 (.int 48) x9) fun x20 =>
  Bnd (convD Tryd.prog 3 5 x20) fun x21 =>
  BndR (litS Tryd.prog 89 1 [(0, x21)]) fun n22 r23 =>
  Bnd (convD Tryd.prog 89 9 (.sl 1 n22 r23)) fun x24 =>
  Bnd (binD Tryd.prog BinOp.add 9 x24 x5) fun x25 =>
  Bnd (binD Tryd.prog BinOp.quo 3 x6 (.int 10)) fun x26 =>
  I3 [x25, x26] ∧ m4 [x25, x26] < m4 [x5, x6])) (
  Bnd (binD Tryd.prog BinOp.lss 3 a0 (.int 0)) fun x27 =>
  OnBD x27 fun t28 => Br t28 (
  Bnd (binD Tryd.prog BinOp.add 9 (.v (Value.string (ByteArray.mk #[45]))) x5) fun x29 =>
  Q x29 []) (
  Q x5 [])))
theorem D25 (S : CallS) (a0 : D) (Q : D → List (List D) → Prop) : pfnW Tryd.prog Jn h25 q25 S Tryd.f25 [(.val a0)] Q = G25 S a0 Q := by kernel_rfl
theorem V25 {m : Bool} {a0 : D} {d : D} {o : List (List D)} (w : G25 (Sm m) a0 fun d' o' => d' = d ∧ o' = o) : Sm m 25 [(.val a0)] d o := call_sem (Uok m) (J := Jn) (PH := Pn) Tryd.func25 rfl (by kernel_rfl) ((D25 (Sm m) a0 fun d' o' => d' = d ∧ o' = o).symm ▸ w : pfnW Tryd.prog Jn h25 q25 (Sm m) Tryd.f25 [(.val a0)] fun d' o' => d' = d ∧ o' = o)
/-- impl.joined -/
def G26 (S : CallS) (a0 a1 : D) (Q : D → List (List D) → Prop) : Prop :=
  BndR (litS Tryd.prog 91 0 []) fun n1 r2 =>
  Bnd (lenD Tryd.prog 90 a1) fun x3 =>
  ∃ (I4 : List D → Prop) (m5 : List D → Nat), I4 [(.sl 1 n1 r2), (.int 0)] ∧
  ∀ (n6 : Nat) (r7 : List D), ∀ x8 : D, I4 [(.sl 1 n6 r7), x8] →
  Bnd (binD Tryd.prog BinOp.lss 3 x8 x3) fun x9 =>
  OnBD x9 fun t10 => Br t10 (
  Bnd (indexAddrD Tryd.prog 90 a1 x8) fun x11 =>
  Bnd (loadD Tryd.prog 3 x11) fun x12 =>
  ∃ d13 : D, S 37 [(.val x12)] d13 [] ∧
  BndR (litS Tryd.prog 91 1 [(0, d13)]) fun n14 r15 =>
  BndR (appD Tryd.prog 9 n6 r7 (srcD Tryd.prog 9 (.sl 1 n14 r15))) fun n16 r17 =>
  Bnd (binD Tryd.prog BinOp.add 3 x8 (.int 1)) fun x18 =>
  I4 [(.sl 1 n16 r17), x18] ∧ m5 [(.sl 1 n16 r17), x18] < m5 [(.sl 1 n6 r7), x8]) (
  ∃ d19 : D, S 54 [(.val (.sl 1 n6 r7)), (.val a0)] d19 [] ∧
  Q d19 [])
theorem D26 (S : CallS) (a0 a1 : D) (Q : D → List (List D) → Prop) : pfnW Tryd.prog Jn h26 q26 S Tryd.f26 [(.val a0), (.val a1)] Q = G26 S a0 a1 Q := by kernel_rfl
theorem V26 {m : Bool} {a0 a1 : D} {d : D} {o : List (List D)} (w : G26 (Sm m) a0 a1 fun d' o' => d' = d ∧ o' = o) : Sm m 26 [(.val a0), (.val a1)] d o := call_sem (Uok m) (J := Jn) (PH := Pn) Tryd.func26 rfl (by kernel_rfl) ((D26 (Sm m) a0 a1 fun d' o' => d' = d ∧ o' = o).symm ▸ w : pfnW Tryd.prog Jn h26 q26 (Sm m) Tryd.f26 [(.val a0), (.val a1)] fun d' o' => d' = d ∧ o' = o)
/-- impl.Tag] -/
def G27 (S : CallS) (a0 a1 a2 : D) (Q : D → List (List D) → Prop) : Prop :=
  BndR (litS Tryd.prog 91 0 []) fun n1 r2 =>
  Bnd (lenD Tryd.prog 31 a0) fun x3 =>
  ∃ (I4 : List D → Prop) (m5 : List D → Nat), I4 [(.sl 1 n1 r2), (.int 0)] ∧
  ∀ (n6 : Nat) (r7 : List D), ∀ x8 : D, I4 [(.sl 1 n6 r7), x8] →
  Bnd (binD Tryd.prog BinOp.lss 3 x8 x3) fun x9 =>
  OnBD x9 fun t10 => Br t10 (
  Bnd (indexAddrD Tryd.prog 31 a0 x8) fun x11 =>
  Bnd (loadD Tryd.prog 25 x11) fun x12 =>
  ∃ x13 x14 x15 : D, (cellsD Tryd.prog 25 x12) = some [x13, x14, x15] ∧
  PCallV S a2 [(.agg [x13, x14, x15])] fun d16 =>
  BndR (litS Tryd.prog 91 1 [(0, d16)]) fun n17 r18 =>
  BndR (appD Tryd.prog 9 n6 r7 (srcD Tryd.prog 9 (.sl 1 n17 r18))) fun n19 r20 =>
  Bnd (binD Tryd.prog BinOp.add 3 x8 (.int 1)) fun x21 =>
  I4 [(.sl 1 n19 r20), x21] ∧ m5 [(.sl 1 n19 r20), x21] < m5 [(.sl 1 n6 r7), x8]) (
  Bnd (binD Tryd.prog BinOp.eql 3 (.int n6) (.int 0)) fun x22 =>
  OnBD x22 fun t23 => Br t23 (
  Q (.v (Value.string (ByteArray.mk #[45]))) []) (
  ∃ d24 : D, S 54 [(.val (.sl 1 n6 r7)), (.val a1)] d24 [] ∧
  Q d24 []))
theorem D27 (S : CallS) (a0 a1 a2 : D) (Q : D → List (List D) → Prop) : pfnW Tryd.prog Jn h27 q27 S Tryd.f27 [(.val a0), (.val a1), (.val a2)] Q = G27 S a0 a1 a2 Q := by kernel_rfl
theorem V27 {m : Bool} {a0 a1 a2 : D} {d : D} {o : List (List D)} (w : G27 (Sm m) a0 a1 a2 fun d' o' => d' = d ∧ o' = o) : Sm m 27 [(.val a0), (.val a1), (.val a2)] d o := call_sem (Uok m) (J := Jn) (PH := Pn) Tryd.func27 rfl (by kernel_rfl) ((D27 (Sm m) a0 a1 a2 fun d' o' => d' = d ∧ o' = o).symm ▸ w : pfnW Tryd.prog Jn h27 q27 (Sm m) Tryd.f27 [(.val a0), (.val a1), (.val a2)] fun d' o' => d' = d ∧ o' = o)
/-- laws.eqTag -/
def G28 (S : CallS) (a0 a1 : D) (Q : D → List (List D) → Prop) : Prop :=
  ∃ x1 x2 x3 : D, (cellsD Tryd.prog 25 a0) = some [x1, x2, x3] ∧
  ∃ x4 x5 x6 : D, (cellsD Tryd.prog 25 a1) = some [x4, x5, x6] ∧
  Bnd (binD Tryd.prog BinOp.neq 3 x1 x4) fun x7 =>
  OnBD x7 fun t8 => Br t8 (
  Q (.bool false) []) (
  Bnd (binD Tryd.prog BinOp.neq 3 x2 x5) fun x9 =>
  OnBD x9 fun t10 => Br t10 (
  Q (.bool false) []) (
  Bnd (binD Tryd.prog BinOp.neq 3 x3 x6) fun x11 =>
  OnBD x11 fun t12 => Br t12 (
  Q (.bool false) []) (
  Q (.bool true) [])))
theorem D28 (S : CallS) (a0 a1 : D) (Q : D → List (List D) → Prop) : pfnW Tryd.prog Jn h28 q28 S Tryd.f28 [(.val a0), (.val a1)] Q = G28 S a0 a1 Q := by kernel_rfl
theorem V28 {m : Bool} {a0 a1 : D} {d : D} {o : List (List D)} (w : G28 (Sm m) a0 a1 fun d' o' => d' = d ∧ o' = o) : Sm m 28 [(.val a0), (.val a1)] d o := call_sem (Uok m) (J := Jn) (PH := Pn) Tryd.func28 rfl (by kernel_rfl) ((D28 (Sm m) a0 a1 fun d' o' => d' = d ∧ o' = o).symm ▸ w : pfnW Tryd.prog Jn h28 q28 (Sm m) Tryd.f28 [(.val a0), (.val a1)] fun d' o' => d' = d ∧ o' = o)
/-- laws.szWireS -/
def G29 (S : CallS) (a0 a1 : D) (Q : D → List (List D) → Prop) : Prop :=
  Bnd (lenD Tryd.prog 35 a0) fun x1 =>
  Bnd (binD Tryd.prog BinOp.sub 3 a1 x1) fun x2 =>
  Bnd (binD Tryd.prog BinOp.lss 3 x2 (.int 0)) fun x3 =>
  OnBD x3 fun t4 => Br t4 (
  Q (.int (-1)) []) (
  Q x2 [])
theorem D29 (S : CallS) (a0 a1 : D) (Q : D → List (List D) → Prop) : pfnW Tryd.prog Jn h29 q29 S Tryd.f29 [(.val a0), (.val a1)] Q = G29 S a0 a1 Q := by kernel_rfl
theorem V29 {m : Bool} {a0 a1 : D} {d : D} {o : List (List D)} (w : G29 (Sm m) a0 a1 fun d' o' => d' = d ∧ o' = o) : Sm m 29 [(.val a0), (.val a1)] d o := call_sem (Uok m) (J := Jn) (PH := Pn) Tryd.func29 rfl (by kernel_rfl) ((D29 (Sm m) a0 a1 fun d' o' => d' = d ∧ o' = o).symm ▸ w : pfnW Tryd.prog Jn h29 q29 (Sm m) Tryd.f29 [(.val a0), (.val a1)] fun d' o' => d' = d ∧ o' = o)
/-- spec.IsMessage -/
def G30 (S : CallS) (a0 : D) (Q : D → List (List D) → Prop) : Prop :=
  ∃ x1 x2 x3 x4 x5 x6 x7 x8 x9 x10 x11 x12 : D, (cellsD Tryd.prog 45 a0) = some [x1, x2, x3, x4, x5, x6, x7, x8, x9, x10, x11, x12] ∧
  Bnd ((fillD Tryd.prog 43 [(.v (Value.int IntKind.i64 0)), (.v (Value.int IntKind.i64 0))] []).map .agg) fun x13 =>
  ∃ x14 x15 : D, (cellsD Tryd.prog 43 x13) = some [x14, x15] ∧
  Bnd (binD Tryd.prog BinOp.eql 3 x3 (.int 0)) fun x16 =>
  (((wantD x16 true) = true → (wantD x16 true) = true) ∧
  (((wantD x16 true) = true → (wantD x16 true) = true) ∧
  ∃ x20, ((wantD x16 true) = true → binD Tryd.prog BinOp.eql 9 x5 (.v (Value.string (ByteArray.mk #[]))) = some x20) ∧
  ((truD x16 = true → (wantD x16 true) = true) ∧
  Bnd (pickD x16 x20 (.bool false)) fun x21 =>
  (((wantD x21 true) = true → (wantD x21 true) = true) ∧
  (((wantD x21 true) = true → (wantD x21 true) = true) ∧
  ∃ x25, ((wantD x21 true) = true → lenD Tryd.prog 42 x6 = some x25) ∧
  (((wantD x21 true) = true → (wantD x21 true) = true) ∧
  ∃ x27, ((wantD x21 true) = true → binD Tryd.prog BinOp.eql 3 x25 (.int 0) = some x27) ∧
  ((truD x21 = true → (wantD x21 true) = true) ∧
  Bnd (pickD x21 x27 (.bool false)) fun x28 =>
  (((wantD x28 true) = true → (wantD x28 true) = true) ∧
  ∃ x32, ((wantD x28 true) = true → (fillD Tryd.prog 25 [(.v (Value.int IntKind.i64 0)), (.v (Value.int IntKind.i64 0)), (.v (Value.int IntKind.i64 0))] []).map .agg = some x32) ∧
  (((wantD x28 true) = true → (wantD x28 true) = true) ∧
  (((wantD x28 true) = true → (wantD x28 true) = true) ∧
  ∃ x34, ((wantD x28 true) = true → binD Tryd.prog BinOp.eql 25 (.agg [x10, x11, x12]) x32 = some x34) ∧
  ((truD x28 = true → (wantD x28 true) = true) ∧
  Bnd (pickD x28 x34 (.bool false)) fun x35 =>
  Bnd (binD Tryd.prog BinOp.eql 3 x1 (.int 1)) fun x36 =>
  OnBD x36 fun t37 => Br t37 (
  ∃ (I38 : List D → Prop) (m39 : List D → Nat), I38 [(.bool false), (.int 0)] ∧
  ∀ x40 : D, ∀ x41 : D, I38 [x40, x41] →
  Bnd (lenD Tryd.prog 42 x6) fun x42 =>
  Bnd (binD Tryd.prog BinOp.lss 3 x41 x42) fun x43 =>
  OnBD x43 fun t44 => Br t44 (
  Bnd (indexAddrD Tryd.prog 42 x6 x41) fun x45 =>
  Bnd (loadD Tryd.prog 43 x45) fun x46 =>
  ∃ d47 : D, S 55 [(.val x46)] d47 [] ∧
  Bnd (unD UnOp.not d47) fun x48 =>
  OnBD x48 fun t49 => Br t49 (
  Q (.bool false) []) (
  Bnd (binD Tryd.prog BinOp.add 3 x41 (.int 1)) fun x50 =>
  I38 [x40, x50] ∧ m39 [x40, x50] < m39 [x40, x41])) (
  ∃ d51 : D, S 56 [(.val x2)] d51 [] ∧
  (((wantD d51 true) = true → (wantD d51 true) = true) ∧
  (((wantD d51 true) = true → (wantD d51 true) = true) ∧
  ∃ x55, ((wantD d51 true) = true → binD Tryd.prog BinOp.eql 3 x3 (.int 0) = some x55) ∧
  ((truD d51 = true → (wantD d51 true) = true) ∧
  Bnd (pickD d51 x55 (.bool false)) fun x56 =>
  (((wantD x56 false) = true → (wantD x56 false) = true) ∧
  (((wantD x56 false) = true → (wantD x56 false) = true) ∧
  ∃ d60, ((wantD x56 false) = true → S 56 [(.val x3)] d60 []) ∧
  (((wantD x56 false) = true → (wantD x56 false) = true) ∧
  ((((wantD x56 false) && wantD d60 true) = true → ((wantD x56 false) && wantD d60 true) = true) ∧
  ((((wantD x56 false) && wantD d60 true) = true → ((wantD x56 false) && wantD d60 true) = true) ∧
  ∃ x65, (((wantD x56 false) && wantD d60 true) = true → binD Tryd.prog BinOp.eql 3 x2 (.int 0) = some x65) ∧
  (((wantD x56 false) = true → (wantD x56 false) = true) ∧
  (((wantD x56 false) = true → truD d60 = true → ((wantD x56 false) && wantD d60 true) = true) ∧
  ∃ x67, ((wantD x56 false) = true → pickD d60 x65 (.bool false) = some x67) ∧
  ((truD x56 = false → (wantD x56 false) = true) ∧
  Bnd (pickD x56 (.bool true) x67) fun x68 =>
  (((wantD x68 true) = true → (wantD x68 true) = true) ∧
  (((wantD x68 true) = true → (wantD x68 true) = true) ∧
  ∃ d72, ((wantD x68 true) = true → S 56 [(.val x4)] d72 []) ∧
  ((truD x68 = true → (wantD x68 true) = true) ∧
  Bnd (pickD x68 d72 (.bool false)) fun x73 =>
  (((wantD x73 true) = true → (wantD x73 true) = true) ∧
  (((wantD x73 true) = true → (wantD x73 true) = true) ∧
  ∃ d77, ((wantD x73 true) = true → S 57 [(.val x5)] d77 []) ∧
  ((truD x73 = true → (wantD x73 true) = true) ∧
  Bnd (pickD x73 d77 (.bool false)) fun x78 =>
  (((wantD x78 true) = true → (wantD x78 true) = true) ∧
  (((wantD x78 true) = true → (wantD x78 true) = true) ∧
  ∃ x82, ((wantD x78 true) = true → lenD Tryd.prog 42 x6 = some x82) ∧
  (((wantD x78 true) = true → (wantD x78 true) = true) ∧
  ∃ x84, ((wantD x78 true) = true → binD Tryd.prog BinOp.leq 3 x82 (.int 2) = some x84) ∧
  ((truD x78 = true → (wantD x78 true) = true) ∧
  Bnd (pickD x78 x84 (.bool false)) fun x85 =>
  (((wantD x85 true) = true → (wantD x85 true) = true) ∧
  (((wantD x85 true) = true → (wantD x85 true) = true) ∧
  (((wantD x85 true) = true → (wantD x85 true) = true) ∧
  ∃ x90, ((wantD x85 true) = true → binD Tryd.prog BinOp.eql 43 (.agg [x7, x8]) (.agg [x14, x15]) = some x90) ∧
  ((truD x85 = true → (wantD x85 true) = true) ∧
  Bnd (pickD x85 x90 (.bool false)) fun x91 =>
  (((wantD x91 true) = true → (wantD x91 true) = true) ∧
  (((wantD x91 true) = true → (wantD x91 true) = true) ∧
  ∃ x95, ((wantD x91 true) = true → binD Tryd.prog BinOp.eql 3 x9 (.int 0) = some x95) ∧
  ((truD x91 = true → (wantD x91 true) = true) ∧
  Bnd (pickD x91 x95 (.bool false)) fun x96 =>
  (((wantD x96 true) = true → (wantD x96 true) = true) ∧
  (((wantD x96 true) = true → (wantD x96 true) = true) ∧
  (((wantD x96 true) = true → (wantD x96 true) = true) ∧
  ∃ d101, ((wantD x96 true) = true → S 56 [(.val x10)] d101 []) ∧
  ((truD x96 = true → (wantD x96 true) = true) ∧
  Bnd (pickD x96 d101 (.bool false)) fun x102 =>
  (((wantD x102 true) = true → (wantD x102 true) = true) ∧
  (((wantD x102 true) = true → (wantD x102 true) = true) ∧
  (((wantD x102 true) = true → (wantD x102 true) = true) ∧
  ∃ d107, ((wantD x102 true) = true → S 56 [(.val x12)] d107 []) ∧
  ((truD x102 = true → (wantD x102 true) = true) ∧
  Bnd (pickD x102 d107 (.bool false)) fun x108 =>
  (((wantD x108 true) = true → (wantD x108 true) = true) ∧
  (((wantD x108 true) = true → (wantD x108 true) = true) ∧
  (((wantD x108 true) = true → (wantD x108 true) = true) ∧
  ∃ d113, ((wantD x108 true) = true → S 58 [(.val x11), (.val (.int 0)), (.val (.int 999999))] d113 []) ∧
  ((truD x108 = true → (wantD x108 true) = true) ∧
  Bnd (pickD x108 d113 (.bool false)) fun x114 =>
  Q x114 [])))))))))))))))))))))))))))))))))))))))))) (
  Bnd (binD Tryd.prog BinOp.eql 3 x1 (.int 2)) fun x115 =>
  OnBD x115 fun t116 => Br t116 (
  (((wantD x35 true) = true → (wantD x35 true) = true) ∧
  (((wantD x35 true) = true → (wantD x35 true) = true) ∧
  ∃ d120, ((wantD x35 true) = true → S 56 [(.val x4)] d120 []) ∧
  ((truD x35 = true → (wantD x35 true) = true) ∧
  Bnd (pickD x35 d120 (.bool false)) fun x121 =>
  (((wantD x121 true) = true → (wantD x121 true) = true) ∧
  (((wantD x121 true) = true → (wantD x121 true) = true) ∧
  ∃ d125, ((wantD x121 true) = true → S 55 [(.val (.agg [x7, x8]))] d125 []) ∧
  ((truD x121 = true → (wantD x121 true) = true) ∧
  Bnd (pickD x121 d125 (.bool false)) fun x126 =>
  (((wantD x126 true) = true → (wantD x126 true) = true) ∧
  (((wantD x126 true) = true → (wantD x126 true) = true) ∧
  ∃ x130, ((wantD x126 true) = true → binD Tryd.prog BinOp.eql 3 x2 (.int 0) = some x130) ∧
  ((truD x126 = true → (wantD x126 true) = true) ∧
  Bnd (pickD x126 x130 (.bool false)) fun x131 =>
  (((wantD x131 true) = true → (wantD x131 true) = true) ∧
  (((wantD x131 true) = true → (wantD x131 true) = true) ∧
  ∃ x135, ((wantD x131 true) = true → binD Tryd.prog BinOp.eql 3 x9 (.int 0) = some x135) ∧
  ((truD x131 = true → (wantD x131 true) = true) ∧
  Bnd (pickD x131 x135 (.bool false)) fun x136 =>
  Q x136 []))))))))))))) (
  ∃ R137 : List D → Prop, (
  Bnd (binD Tryd.prog BinOp.eql 3 x1 (.int 3)) fun x138 =>
  OnBD x138 fun t139 => Br t139 (
  R137 [x138]) (
  Bnd (binD Tryd.prog BinOp.eql 3 x1 (.int 4)) fun x140 =>
  OnBD x140 fun t141 => Br t141 (
  R137 [x140]) (
  Bnd (binD Tryd.prog BinOp.eql 3 x1 (.int 5)) fun x142 =>
  R137 [x142]))) ∧
  ∀ x143 : D, R137 [x143] →
  OnBD x143 fun t144 => Br t144 (
  (((wantD x35 true) = true → (wantD x35 true) = true) ∧
  (((wantD x35 true) = true → (wantD x35 true) = true) ∧
  ∃ d148, ((wantD x35 true) = true → S 56 [(.val x4)] d148 []) ∧
  ((truD x35 = true → (wantD x35 true) = true) ∧
  Bnd (pickD x35 d148 (.bool false)) fun x149 =>
  (((wantD x149 true) = true → (wantD x149 true) = true) ∧
  (((wantD x149 true) = true → (wantD x149 true) = true) ∧
  (((wantD x149 true) = true → (wantD x149 true) = true) ∧
  ∃ x154, ((wantD x149 true) = true → binD Tryd.prog BinOp.eql 43 (.agg [x7, x8]) (.agg [x14, x15]) = some x154) ∧
  ((truD x149 = true → (wantD x149 true) = true) ∧
  Bnd (pickD x149 x154 (.bool false)) fun x155 =>
  (((wantD x155 true) = true → (wantD x155 true) = true) ∧
  (((wantD x155 true) = true → (wantD x155 true) = true) ∧
  ∃ x159, ((wantD x155 true) = true → binD Tryd.prog BinOp.eql 3 x2 (.int 0) = some x159) ∧
  ((truD x155 = true → (wantD x155 true) = true) ∧
  Bnd (pickD x155 x159 (.bool false)) fun x160 =>
  (((wantD x160 true) = true → (wantD x160 true) = true) ∧
  (((wantD x160 true) = true → (wantD x160 true) = true) ∧
  ∃ x164, ((wantD x160 true) = true → binD Tryd.prog BinOp.eql 3 x9 (.int 0) = some x164) ∧
  ((truD x160 = true → (wantD x160 true) = true) ∧
  Bnd (pickD x160 x164 (.bool false)) fun x165 =>
  Q x165 [])))))))))))))) (
  Bnd (binD Tryd.prog BinOp.eql 3 x1 (.int 6)) fun x166 =>
  OnBD x166 fun t167 => Br t167 (
  (((wantD x35 true) = true → (wantD x35 true) = true) ∧
  (((wantD x35 true) = true → (wantD x35 true) = true) ∧
  ∃ x171, ((wantD x35 true) = true → binD Tryd.prog BinOp.eql 3 x4 (.int 0) = some x171) ∧
  ((truD x35 = true → (wantD x35 true) = true) ∧
  Bnd (pickD x35 x171 (.bool false)) fun x172 =>
  (((wantD x172 true) = true → (wantD x172 true) = true) ∧
  (((wantD x172 true) = true → (wantD x172 true) = true) ∧
  (((wantD x172 true) = true → (wantD x172 true) = true) ∧
  ∃ x177, ((wantD x172 true) = true → binD Tryd.prog BinOp.eql 43 (.agg [x7, x8]) (.agg [x14, x15]) = some x177) ∧
  ((truD x172 = true → (wantD x172 true) = true) ∧
  Bnd (pickD x172 x177 (.bool false)) fun x178 =>
  (((wantD x178 true) = true → (wantD x178 true) = true) ∧
  (((wantD x178 true) = true → (wantD x178 true) = true) ∧
  ∃ d182, ((wantD x178 true) = true → S 56 [(.val x2)] d182 []) ∧
  ((truD x178 = true → (wantD x178 true) = true) ∧
  Bnd (pickD x178 d182 (.bool false)) fun x183 =>
  (((wantD x183 true) = true → (wantD x183 true) = true) ∧
  (((wantD x183 true) = true → (wantD x183 true) = true) ∧
  ∃ d187, ((wantD x183 true) = true → S 56 [(.val x9)] d187 []) ∧
  ((truD x183 = true → (wantD x183 true) = true) ∧
  Bnd (pickD x183 d187 (.bool false)) fun x188 =>
  Q x188 [])))))))))))))) (
  Q (.bool false) [])))))))))))))))
theorem D30 (S : CallS) (a0 : D) (Q : D → List (List D) → Prop) : pfnW Tryd.prog Jn h30 q30 S Tryd.f30 [(.val a0)] Q = G30 S a0 Q := by kernel_rfl
theorem V30 {m : Bool} {a0 : D} {d : D} {o : List (List D)} (w : G30 (Sm m) a0 fun d' o' => d' = d ∧ o' = o) : Sm m 30 [(.val a0)] d o := call_sem (Uok m) (J := Jn) (PH := Pn) Tryd.func30 rfl (by kernel_rfl) ((D30 (Sm m) a0 fun d' o' => d' = d ∧ o' = o).symm ▸ w : pfnW Tryd.prog Jn h30 q30 (Sm m) Tryd.f30 [(.val a0)] fun d' o' => d' = d ∧ o' = o)
/-- spec.MessageName -/
def G31 (S : CallS) (a0 : D) (Q : D → List (List D) → Prop) : Prop :=
  ∃ d1 : D, S 58 [(.val a0), (.val (.int 1)), (.val (.int 6))] d1 [] ∧
  Bnd (unD UnOp.not d1) fun x2 =>
  OnBD x2 fun t3 => Br t3 (
  Q (.v (Value.string (ByteArray.mk #[]))) []) (
  BndR (litS Tryd.prog 91 7 [(0, (.v (Value.string (ByteArray.mk #[])))), (1, (.v (Value.string (ByteArray.mk #[99, 97, 108, 108])))), (2, (.v (Value.string (ByteArray.mk #[114, 101, 116, 117, 114, 110])))), (3, (.v (Value.string (ByteArray.mk #[101, 99, 104, 111])))), (4, (.v (Value.string (ByteArray.mk #[101, 99, 104, 111, 101, 100])))), (5, (.v (Value.string (ByteArray.mk #[102, 105, 110, 105, 115, 104])))), (6, (.v (Value.string (ByteArray.mk #[114, 101, 108, 101, 97, 115, 101]))))]) fun n4 r5 =>
  Bnd (elemP Tryd.prog 91 1 n4 a0) fun j6 =>
  Bnd (partD Tryd.prog 9 r5 j6) fun x7 =>
  Q x7 [])
theorem D31 (S : CallS) (a0 : D) (Q : D → List (List D) → Prop) : pfnW Tryd.prog Jn h31 q31 S Tryd.f31 [(.val a0)] Q = G31 S a0 Q := by kernel_rfl
theorem V31 {m : Bool} {a0 : D} {d : D} {o : List (List D)} (w : G31 (Sm m) a0 fun d' o' => d' = d ∧ o' = o) : Sm m 31 [(.val a0)] d o := call_sem (Uok m) (J := Jn) (PH := Pn) Tryd.func31 rfl (by kernel_rfl) ((D31 (Sm m) a0 fun d' o' => d' = d ∧ o' = o).symm ▸ w : pfnW Tryd.prog Jn h31 q31 (Sm m) Tryd.f31 [(.val a0)] fun d' o' => d' = d ∧ o' = o)
/-- spec.l39Wire -/
def G32 (S : CallS) (a0 : D) (Q : D → List (List D) → Prop) : Prop :=
  ∃ x1 x2 : D, (cellsD Tryd.prog 43 a0) = some [x1, x2] ∧
  Bnd (binD Tryd.prog BinOp.eql 3 x1 (.int 1)) fun x3 =>
  OnBD x3 fun t4 => Br t4 (
  ∃ d5 : D, S 25 [(.val x2)] d5 [] ∧
  Bnd (binD Tryd.prog BinOp.add 9 (.v (Value.string (ByteArray.mk #[43]))) d5) fun x6 =>
  Q x6 []) (
  Bnd (binD Tryd.prog BinOp.eql 3 x1 (.int 2)) fun x7 =>
  OnBD x7 fun t8 => Br t8 (
  ∃ d9 : D, S 25 [(.val x2)] d9 [] ∧
  Bnd (binD Tryd.prog BinOp.add 9 (.v (Value.string (ByteArray.mk #[45]))) d9) fun x10 =>
  Q x10 []) (
  Bnd (binD Tryd.prog BinOp.eql 3 x1 (.int 3)) fun x11 =>
  OnBD x11 fun t12 => Br t12 (
  Q (.v (Value.string (ByteArray.mk #[33]))) []) (
  ∃ d13 : D, S 25 [(.val x2)] d13 [] ∧
  Q d13 [])))
theorem D32 (S : CallS) (a0 : D) (Q : D → List (List D) → Prop) : pfnW Tryd.prog Jn h32 q32 S Tryd.f32 [(.val a0)] Q = G32 S a0 Q := by kernel_rfl
theorem V32 {m : Bool} {a0 : D} {d : D} {o : List (List D)} (w : G32 (Sm m) a0 fun d' o' => d' = d ∧ o' = o) : Sm m 32 [(.val a0)] d o := call_sem (Uok m) (J := Jn) (PH := Pn) Tryd.func32 rfl (by kernel_rfl) ((D32 (Sm m) a0 fun d' o' => d' = d ∧ o' = o).symm ▸ w : pfnW Tryd.prog Jn h32 q32 (Sm m) Tryd.f32 [(.val a0)] fun d' o' => d' = d ∧ o' = o)
/-- laws.toWireS -/
def G33 (S : CallS) (a0 : D) (Q : D → List (List D) → Prop) : Prop :=
  Bnd (lenD Tryd.prog 35 a0) fun x1 =>
  BndR (mkD Tryd.prog 43 [(.v (Value.int IntKind.i64 0)), (.v (Value.int IntKind.i64 0))] x1) fun n2 r3 =>
  ∃ (I14 : List D → Prop) (m15 : List D → Nat), I14 [(.int 0), (.agg r3)] ∧
  ∀ x16 : D, ∀ r17 : List D, I14 [x16, (.agg r17)] →
  Bnd (lenD Tryd.prog 35 a0) fun x18 =>
  Bnd (binD Tryd.prog BinOp.lss 3 x16 x18) fun x19 =>
  OnBD x19 fun t20 => Br t20 (
  Bnd (indexAddrD Tryd.prog 35 a0 x16) fun x21 =>
  Bnd (loadD Tryd.prog 37 x21) fun x22 =>
  ∃ d23 : D, S 34 [(.val x22)] d23 [] ∧
  Bnd (elemP Tryd.prog 42 2 n2 x16) fun j24 =>
  Bnd (putD Tryd.prog 43 r17 j24 d23) fun r25 =>
  Bnd (binD Tryd.prog BinOp.add 3 x16 (.int 1)) fun x26 =>
  I14 [x26, (.agg r25)] ∧ m15 [x26, (.agg r25)] < m15 [x16, (.agg r17)]) (
  Q (.sl 2 n2 r17) [])
theorem D33 (S : CallS) (a0 : D) (Q : D → List (List D) → Prop) : pfnW Tryd.prog Jn h33 q33 S Tryd.f33 [(.val a0)] Q = G33 S a0 Q := by kernel_rfl
theorem V33 {m : Bool} {a0 : D} {d : D} {o : List (List D)} (w : G33 (Sm m) a0 fun d' o' => d' = d ∧ o' = o) : Sm m 33 [(.val a0)] d o := call_sem (Uok m) (J := Jn) (PH := Pn) Tryd.func33 rfl (by kernel_rfl) ((D33 (Sm m) a0 fun d' o' => d' = d ∧ o' = o).symm ▸ w : pfnW Tryd.prog Jn h33 q33 (Sm m) Tryd.f33 [(.val a0)] fun d' o' => d' = d ∧ o' = o)
/-- laws.toWire -/
def G34 (S : CallS) (a0 : D) (Q : D → List (List D) → Prop) : Prop :=
  ∃ x1 x2 : D, (cellsD Tryd.prog 37 a0) = some [x1, x2] ∧
  ∃ x3 x4 : D, (cellsD Tryd.prog 43 (.agg [x1, x2])) = some [x3, x4] ∧
  Q (.agg [x3, x4]) []
theorem D34 (S : CallS) (a0 : D) (Q : D → List (List D) → Prop) : pfnW Tryd.prog Jn h34 q34 S Tryd.f34 [(.val a0)] Q = G34 S a0 Q := by kernel_rfl
theorem V34 {m : Bool} {a0 : D} {d : D} {o : List (List D)} (w : G34 (Sm m) a0 fun d' o' => d' = d ∧ o' = o) : Sm m 34 [(.val a0)] d o := call_sem (Uok m) (J := Jn) (PH := Pn) Tryd.func34 rfl (by kernel_rfl) ((D34 (Sm m) a0 fun d' o' => d' = d ∧ o' = o).symm ▸ w : pfnW Tryd.prog Jn h34 q34 (Sm m) Tryd.f34 [(.val a0)] fun d' o' => d' = d ∧ o' = o)
/-- impl.isMessage -/
def G35 (S : CallS) (a0 : D) (Q : D → List (List D) → Prop) : Prop :=
  ∃ x1 x2 x3 x4 x5 x6 x7 x8 x9 x10 x11 x12 : D, (cellsD Tryd.prog 45 a0) = some [x1, x2, x3, x4, x5, x6, x7, x8, x9, x10, x11, x12] ∧
  Bnd (binD Tryd.prog BinOp.eql 3 x1 (.int 1)) fun x13 =>
  Bnd (unD UnOp.not x13) fun x14 =>
  (((wantD x14 true) = true → (wantD x14 true) = true) ∧
  (((wantD x14 true) = true → (wantD x14 true) = true) ∧
  ∃ x18, ((wantD x14 true) = true → binD Tryd.prog BinOp.neq 3 x2 (.int 0) = some x18) ∧
  (((wantD x14 true) = true → (wantD x14 true) = true) ∧
  ((((wantD x14 true) && wantD x18 true) = true → ((wantD x14 true) && wantD x18 true) = true) ∧
  ((((wantD x14 true) && wantD x18 true) = true → ((wantD x14 true) && wantD x18 true) = true) ∧
  ∃ x23, (((wantD x14 true) && wantD x18 true) = true → binD Tryd.prog BinOp.neq 3 x1 (.int 6) = some x23) ∧
  (((wantD x14 true) = true → (wantD x14 true) = true) ∧
  (((wantD x14 true) = true → truD x18 = true → ((wantD x14 true) && wantD x18 true) = true) ∧
  ∃ x25, ((wantD x14 true) = true → pickD x18 x23 (.bool false) = some x25) ∧
  (((wantD x14 true) = true → (wantD x14 true) = true) ∧
  ((((wantD x14 true) && wantD x25 false) = true → ((wantD x14 true) && wantD x25 false) = true) ∧
  ((((wantD x14 true) && wantD x25 false) = true → ((wantD x14 true) && wantD x25 false) = true) ∧
  ∃ x30, (((wantD x14 true) && wantD x25 false) = true → binD Tryd.prog BinOp.neq 3 x3 (.int 0) = some x30) ∧
  (((wantD x14 true) = true → (wantD x14 true) = true) ∧
  (((wantD x14 true) = true → truD x25 = false → ((wantD x14 true) && wantD x25 false) = true) ∧
  ∃ x32, ((wantD x14 true) = true → pickD x25 (.bool true) x30 = some x32) ∧
  (((wantD x14 true) = true → (wantD x14 true) = true) ∧
  ((((wantD x14 true) && wantD x32 false) = true → ((wantD x14 true) && wantD x32 false) = true) ∧
  ((((wantD x14 true) && wantD x32 false) = true → ((wantD x14 true) && wantD x32 false) = true) ∧
  ∃ x37, (((wantD x14 true) && wantD x32 false) = true → binD Tryd.prog BinOp.neq 9 x5 (.v (Value.string (ByteArray.mk #[]))) = some x37) ∧
  (((wantD x14 true) = true → (wantD x14 true) = true) ∧
  (((wantD x14 true) = true → truD x32 = false → ((wantD x14 true) && wantD x32 false) = true) ∧
  ∃ x39, ((wantD x14 true) = true → pickD x32 (.bool true) x37 = some x39) ∧
  (((wantD x14 true) = true → (wantD x14 true) = true) ∧
  ((((wantD x14 true) && wantD x39 false) = true → ((wantD x14 true) && wantD x39 false) = true) ∧
  ((((wantD x14 true) && wantD x39 false) = true → ((wantD x14 true) && wantD x39 false) = true) ∧
  ∃ x44, (((wantD x14 true) && wantD x39 false) = true → lenD Tryd.prog 42 x6 = some x44) ∧
  ((((wantD x14 true) && wantD x39 false) = true → ((wantD x14 true) && wantD x39 false) = true) ∧
  ∃ x46, (((wantD x14 true) && wantD x39 false) = true → binD Tryd.prog BinOp.gtr 3 x44 (.int 0) = some x46) ∧
  (((wantD x14 true) = true → (wantD x14 true) = true) ∧
  (((wantD x14 true) = true → truD x39 = false → ((wantD x14 true) && wantD x39 false) = true) ∧
  ∃ x48, ((wantD x14 true) = true → pickD x39 (.bool true) x46 = some x48) ∧
  (((wantD x14 true) = true → (wantD x14 true) = true) ∧
  ((((wantD x14 true) && wantD x48 false) = true → ((wantD x14 true) && wantD x48 false) = true) ∧
  ∃ x53, (((wantD x14 true) && wantD x48 false) = true → (fillD Tryd.prog 25 [(.v (Value.int IntKind.i64 0)), (.v (Value.int IntKind.i64 0)), (.v (Value.int IntKind.i64 0))] []).map .agg = some x53) ∧
  ((((wantD x14 true) && wantD x48 false) = true → ((wantD x14 true) && wantD x48 false) = true) ∧
  ((((wantD x14 true) && wantD x48 false) = true → ((wantD x14 true) && wantD x48 false) = true) ∧
  ∃ x55, (((wantD x14 true) && wantD x48 false) = true → binD Tryd.prog BinOp.neq 25 (.agg [x10, x11, x12]) x53 = some x55) ∧
  (((wantD x14 true) = true → (wantD x14 true) = true) ∧
  (((wantD x14 true) = true → truD x48 = false → ((wantD x14 true) && wantD x48 false) = true) ∧
  ∃ x57, ((wantD x14 true) = true → pickD x48 (.bool true) x55 = some x57) ∧
  ((truD x14 = true → (wantD x14 true) = true) ∧
  Bnd (pickD x14 x57 (.bool false)) fun x58 =>
  OnBD x58 fun t59 => Br t59 (
  Q (.bool false) []) (
  Bnd (binD Tryd.prog BinOp.neq 3 x1 (.int 2)) fun x60 =>
  (((wantD x60 true) = true → (wantD x60 true) = true) ∧
  ∃ x64, ((wantD x60 true) = true → (fillD Tryd.prog 43 [(.v (Value.int IntKind.i64 0)), (.v (Value.int IntKind.i64 0))] []).map .agg = some x64) ∧
  (((wantD x60 true) = true → (wantD x60 true) = true) ∧
  (((wantD x60 true) = true → (wantD x60 true) = true) ∧
  ∃ x66, ((wantD x60 true) = true → binD Tryd.prog BinOp.neq 43 (.agg [x7, x8]) x64 = some x66) ∧
  ((truD x60 = true → (wantD x60 true) = true) ∧
  Bnd (pickD x60 x66 (.bool false)) fun x67 =>
  (((wantD x67 false) = true → (wantD x67 false) = true) ∧
  (((wantD x67 false) = true → (wantD x67 false) = true) ∧
  ∃ x71, ((wantD x67 false) = true → binD Tryd.prog BinOp.neq 3 x1 (.int 6) = some x71) ∧
  (((wantD x67 false) = true → (wantD x67 false) = true) ∧
  ((((wantD x67 false) && wantD x71 true) = true → ((wantD x67 false) && wantD x71 true) = true) ∧
  ((((wantD x67 false) && wantD x71 true) = true → ((wantD x67 false) && wantD x71 true) = true) ∧
  ∃ x76, (((wantD x67 false) && wantD x71 true) = true → binD Tryd.prog BinOp.neq 3 x9 (.int 0) = some x76) ∧
  (((wantD x67 false) = true → (wantD x67 false) = true) ∧
  (((wantD x67 false) = true → truD x71 = true → ((wantD x67 false) && wantD x71 true) = true) ∧
  ∃ x78, ((wantD x67 false) = true → pickD x71 x76 (.bool false) = some x78) ∧
  ((truD x67 = false → (wantD x67 false) = true) ∧
  Bnd (pickD x67 (.bool true) x78) fun x79 =>
  (((wantD x79 false) = true → (wantD x79 false) = true) ∧
  (((wantD x79 false) = true → (wantD x79 false) = true) ∧
  ∃ x83, ((wantD x79 false) = true → binD Tryd.prog BinOp.eql 3 x1 (.int 6) = some x83) ∧
  (((wantD x79 false) = true → (wantD x79 false) = true) ∧
  ((((wantD x79 false) && wantD x83 true) = true → ((wantD x79 false) && wantD x83 true) = true) ∧
  ((((wantD x79 false) && wantD x83 true) = true → ((wantD x79 false) && wantD x83 true) = true) ∧
  ∃ x88, (((wantD x79 false) && wantD x83 true) = true → binD Tryd.prog BinOp.neq 3 x4 (.int 0) = some x88) ∧
  (((wantD x79 false) = true → (wantD x79 false) = true) ∧
  (((wantD x79 false) = true → truD x83 = true → ((wantD x79 false) && wantD x83 true) = true) ∧
  ∃ x90, ((wantD x79 false) = true → pickD x83 x88 (.bool false) = some x90) ∧
  ((truD x79 = false → (wantD x79 false) = true) ∧
  Bnd (pickD x79 (.bool true) x90) fun x91 =>
  OnBD x91 fun t92 => Br t92 (
  Q (.bool false) []) (
  Bnd (binD Tryd.prog BinOp.eql 3 x1 (.int 1)) fun x93 =>
  OnBD x93 fun t94 => Br t94 (
  ∃ d95 : D, S 59 [(.val x2)] d95 [] ∧
  (((wantD d95 true) = true → (wantD d95 true) = true) ∧
  (((wantD d95 true) = true → (wantD d95 true) = true) ∧
  ∃ x99, ((wantD d95 true) = true → binD Tryd.prog BinOp.eql 3 x3 (.int 0) = some x99) ∧
  ((truD d95 = true → (wantD d95 true) = true) ∧
  Bnd (pickD d95 x99 (.bool false)) fun x100 =>
  (((wantD x100 false) = true → (wantD x100 false) = true) ∧
  (((wantD x100 false) = true → (wantD x100 false) = true) ∧
  ∃ x104, ((wantD x100 false) = true → binD Tryd.prog BinOp.eql 3 x2 (.int 0) = some x104) ∧
  (((wantD x100 false) = true → (wantD x100 false) = true) ∧
  ((((wantD x100 false) && wantD x104 true) = true → ((wantD x100 false) && wantD x104 true) = true) ∧
  ((((wantD x100 false) && wantD x104 true) = true → ((wantD x100 false) && wantD x104 true) = true) ∧
  ∃ d109, (((wantD x100 false) && wantD x104 true) = true → S 59 [(.val x3)] d109 []) ∧
  (((wantD x100 false) = true → (wantD x100 false) = true) ∧
  (((wantD x100 false) = true → truD x104 = true → ((wantD x100 false) && wantD x104 true) = true) ∧
  ∃ x111, ((wantD x100 false) = true → pickD x104 d109 (.bool false) = some x111) ∧
  ((truD x100 = false → (wantD x100 false) = true) ∧
  Bnd (pickD x100 (.bool true) x111) fun x112 =>
  (((wantD x112 true) = true → (wantD x112 true) = true) ∧
  (((wantD x112 true) = true → (wantD x112 true) = true) ∧
  ∃ d116, ((wantD x112 true) = true → S 59 [(.val x4)] d116 []) ∧
  ((truD x112 = true → (wantD x112 true) = true) ∧
  Bnd (pickD x112 d116 (.bool false)) fun x117 =>
  (((wantD x117 true) = true → (wantD x117 true) = true) ∧
  (((wantD x117 true) = true → (wantD x117 true) = true) ∧
  ∃ d121, ((wantD x117 true) = true → S 60 [(.val x5)] d121 []) ∧
  ((truD x117 = true → (wantD x117 true) = true) ∧
  Bnd (pickD x117 d121 (.bool false)) fun x122 =>
  (((wantD x122 true) = true → (wantD x122 true) = true) ∧
  (((wantD x122 true) = true → (wantD x122 true) = true) ∧
  ∃ x126, ((wantD x122 true) = true → lenD Tryd.prog 42 x6 = some x126) ∧
  (((wantD x122 true) = true → (wantD x122 true) = true) ∧
  ∃ x128, ((wantD x122 true) = true → binD Tryd.prog BinOp.leq 3 x126 (.int 2) = some x128) ∧
  ((truD x122 = true → (wantD x122 true) = true) ∧
  Bnd (pickD x122 x128 (.bool false)) fun x129 =>
  (((wantD x129 true) = true → (wantD x129 true) = true) ∧
  (((wantD x129 true) = true → (wantD x129 true) = true) ∧
  ∃ d133, ((wantD x129 true) = true → S 61 [(.val x6), (.val (.fn 62 [] []))] d133 []) ∧
  (((wantD x129 true) = true → (wantD x129 true) = true) ∧
  ∃ x135, ((wantD x129 true) = true → unD UnOp.not d133 = some x135) ∧
  ((truD x129 = true → (wantD x129 true) = true) ∧
  Bnd (pickD x129 x135 (.bool false)) fun x136 =>
  (((wantD x136 true) = true → (wantD x136 true) = true) ∧
  (((wantD x136 true) = true → (wantD x136 true) = true) ∧
  ∃ d140, ((wantD x136 true) = true → S 64 [(.val (.agg [x10, x11, x12]))] d140 []) ∧
  ((truD x136 = true → (wantD x136 true) = true) ∧
  Bnd (pickD x136 d140 (.bool false)) fun x141 =>
  Q x141 []))))))))))))))))))))))))))))) (
  Bnd (binD Tryd.prog BinOp.eql 3 x1 (.int 2)) fun x142 =>
  OnBD x142 fun t143 => Br t143 (
  ∃ d144 : D, S 59 [(.val x4)] d144 [] ∧
  (((wantD d144 true) = true → (wantD d144 true) = true) ∧
  (((wantD d144 true) = true → (wantD d144 true) = true) ∧
  ∃ d148, ((wantD d144 true) = true → S 63 [(.val (.agg [x7, x8]))] d148 []) ∧
  ((truD d144 = true → (wantD d144 true) = true) ∧
  Bnd (pickD d144 d148 (.bool false)) fun x149 =>
  Q x149 [])))) (
  ∃ R150 : List D → Prop, (
  Bnd (binD Tryd.prog BinOp.eql 3 x1 (.int 3)) fun x151 =>
  OnBD x151 fun t152 => Br t152 (
  R150 [x151]) (
  Bnd (binD Tryd.prog BinOp.eql 3 x1 (.int 4)) fun x153 =>
  OnBD x153 fun t154 => Br t154 (
  R150 [x153]) (
  Bnd (binD Tryd.prog BinOp.eql 3 x1 (.int 5)) fun x155 =>
  R150 [x155]))) ∧
  ∀ x156 : D, R150 [x156] →
  OnBD x156 fun t157 => Br t157 (
  ∃ d158 : D, S 59 [(.val x4)] d158 [] ∧
  Q d158 []) (
  Bnd (binD Tryd.prog BinOp.eql 3 x1 (.int 6)) fun x159 =>
  OnBD x159 fun t160 => Br t160 (
  ∃ d161 : D, S 59 [(.val x2)] d161 [] ∧
  (((wantD d161 true) = true → (wantD d161 true) = true) ∧
  (((wantD d161 true) = true → (wantD d161 true) = true) ∧
  ∃ d165, ((wantD d161 true) = true → S 59 [(.val x9)] d165 []) ∧
  ((truD d161 = true → (wantD d161 true) = true) ∧
  Bnd (pickD d161 d165 (.bool false)) fun x166 =>
  Q x166 [])))) (
  Q (.bool false) []))))))))))))))))))))))))))))))))))))))))))))))))))))))))
theorem D35 (S : CallS) (a0 : D) (Q : D → List (List D) → Prop) : pfnW Tryd.prog Jn h35 q35 S Tryd.f35 [(.val a0)] Q = G35 S a0 Q := by kernel_rfl
theorem V35 {m : Bool} {a0 : D} {d : D} {o : List (List D)} (w : G35 (Sm m) a0 fun d' o' => d' = d ∧ o' = o) : Sm m 35 [(.val a0)] d o := call_sem (Uok m) (J := Jn) (PH := Pn) Tryd.func35 rfl (by kernel_rfl) ((D35 (Sm m) a0 fun d' o' => d' = d ∧ o' = o).symm ▸ w : pfnW Tryd.prog Jn h35 q35 (Sm m) Tryd.f35 [(.val a0)] fun d' o' => d' = d ∧ o' = o)
/-- impl.FormatInt -/
def G37 (S : CallS) (a0 : D) (Q : D → List (List D) → Prop) : Prop :=
  ∃ d1 : D, S 66 [(.val a0)] d1 [] ∧
  Q d1 []
theorem D37 (S : CallS) (a0 : D) (Q : D → List (List D) → Prop) : pfnW Tryd.prog Jn h37 q37 S Tryd.f37 [(.val a0)] Q = G37 S a0 Q := by kernel_rfl
theorem V37 {m : Bool} {a0 : D} {d : D} {o : List (List D)} (w : G37 (Sm m) a0 fun d' o' => d' = d ∧ o' = o) : Sm m 37 [(.val a0)] d o := call_sem (Uok m) (J := Jn) (PH := Pn) Tryd.func37 rfl (by kernel_rfl) ((D37 (Sm m) a0 fun d' o' => d' = d ∧ o' = o).symm ▸ w : pfnW Tryd.prog Jn h37 q37 (Sm m) Tryd.f37 [(.val a0)] fun d' o' => d' = d ∧ o' = o)
/-- impl.formatWire -/
def G38 (S : CallS) (a0 : D) (Q : D → List (List D) → Prop) : Prop :=
  ∃ x1 x2 : D, (cellsD Tryd.prog 43 a0) = some [x1, x2] ∧
  Bnd (binD Tryd.prog BinOp.eql 3 x1 (.int 1)) fun x3 =>
  OnBD x3 fun t4 => Br t4 (
  ∃ d5 : D, S 37 [(.val x2)] d5 [] ∧
  Bnd (binD Tryd.prog BinOp.add 9 (.v (Value.string (ByteArray.mk #[43]))) d5) fun x6 =>
  Q x6 []) (
  Bnd (binD Tryd.prog BinOp.eql 3 x1 (.int 2)) fun x7 =>
  OnBD x7 fun t8 => Br t8 (
  ∃ d9 : D, S 37 [(.val x2)] d9 [] ∧
  Bnd (binD Tryd.prog BinOp.add 9 (.v (Value.string (ByteArray.mk #[45]))) d9) fun x10 =>
  Q x10 []) (
  Bnd (binD Tryd.prog BinOp.eql 3 x1 (.int 3)) fun x11 =>
  OnBD x11 fun t12 => Br t12 (
  Q (.v (Value.string (ByteArray.mk #[33]))) []) (
  ∃ d13 : D, S 37 [(.val x2)] d13 [] ∧
  Q d13 [])))
theorem D38 (S : CallS) (a0 : D) (Q : D → List (List D) → Prop) : pfnW Tryd.prog Jn h38 q38 S Tryd.f38 [(.val a0)] Q = G38 S a0 Q := by kernel_rfl
theorem V38 {m : Bool} {a0 : D} {d : D} {o : List (List D)} (w : G38 (Sm m) a0 fun d' o' => d' = d ∧ o' = o) : Sm m 38 [(.val a0)] d o := call_sem (Uok m) (J := Jn) (PH := Pn) Tryd.func38 rfl (by kernel_rfl) ((D38 (Sm m) a0 fun d' o' => d' = d ∧ o' = o).symm ▸ w : pfnW Tryd.prog Jn h38 q38 (Sm m) Tryd.f38 [(.val a0)] fun d' o' => d' = d ∧ o' = o)
/-- laws.eqWireS -/
def G39 (S : CallS) (a0 a1 : D) (Q : D → List (List D) → Prop) : Prop :=
  Bnd (lenD Tryd.prog 42 a0) fun x1 =>
  Bnd (lenD Tryd.prog 42 a1) fun x2 =>
  Bnd (binD Tryd.prog BinOp.neq 3 x1 x2) fun x3 =>
  OnBD x3 fun t4 => Br t4 (
  Q (.bool false) []) (
  ∃ (I5 : List D → Prop) (m6 : List D → Nat), I5 [(.bool false), (.int 0)] ∧
  ∀ x7 : D, ∀ x8 : D, I5 [x7, x8] →
  Bnd (lenD Tryd.prog 42 a0) fun x9 =>
  Bnd (binD Tryd.prog BinOp.lss 3 x8 x9) fun x10 =>
  OnBD x10 fun t11 => Br t11 (
  Bnd (indexAddrD Tryd.prog 42 a0 x8) fun x12 =>
  Bnd (loadD Tryd.prog 43 x12) fun x13 =>
  Bnd (indexAddrD Tryd.prog 42 a1 x8) fun x14 =>
  Bnd (loadD Tryd.prog 43 x14) fun x15 =>
  ∃ d16 : D, S 40 [(.val x13), (.val x15)] d16 [] ∧
  Bnd (unD UnOp.not d16) fun x17 =>
  OnBD x17 fun t18 => Br t18 (
  Q (.bool false) []) (
  Bnd (binD Tryd.prog BinOp.add 3 x8 (.int 1)) fun x19 =>
  I5 [x7, x19] ∧ m6 [x7, x19] < m6 [x7, x8])) (
  Q (.bool true) []))
theorem D39 (S : CallS) (a0 a1 : D) (Q : D → List (List D) → Prop) : pfnW Tryd.prog Jn h39 q39 S Tryd.f39 [(.val a0), (.val a1)] Q = G39 S a0 a1 Q := by kernel_rfl
theorem V39 {m : Bool} {a0 a1 : D} {d : D} {o : List (List D)} (w : G39 (Sm m) a0 a1 fun d' o' => d' = d ∧ o' = o) : Sm m 39 [(.val a0), (.val a1)] d o := call_sem (Uok m) (J := Jn) (PH := Pn) Tryd.func39 rfl (by kernel_rfl) ((D39 (Sm m) a0 a1 fun d' o' => d' = d ∧ o' = o).symm ▸ w : pfnW Tryd.prog Jn h39 q39 (Sm m) Tryd.f39 [(.val a0), (.val a1)] fun d' o' => d' = d ∧ o' = o)
/-- laws.eqWire -/
def G40 (S : CallS) (a0 a1 : D) (Q : D → List (List D) → Prop) : Prop :=
  ∃ x1 x2 : D, (cellsD Tryd.prog 43 a0) = some [x1, x2] ∧
  ∃ x3 x4 : D, (cellsD Tryd.prog 43 a1) = some [x3, x4] ∧
  Bnd (binD Tryd.prog BinOp.neq 3 x1 x3) fun x5 =>
  OnBD x5 fun t6 => Br t6 (
  Q (.bool false) []) (
  Bnd (binD Tryd.prog BinOp.neq 3 x2 x4) fun x7 =>
  OnBD x7 fun t8 => Br t8 (
  Q (.bool false) []) (
  Q (.bool true) []))
theorem D40 (S : CallS) (a0 a1 : D) (Q : D → List (List D) → Prop) : pfnW Tryd.prog Jn h40 q40 S Tryd.f40 [(.val a0), (.val a1)] Q = G40 S a0 a1 Q := by kernel_rfl
theorem V40 {m : Bool} {a0 a1 : D} {d : D} {o : List (List D)} (w : G40 (Sm m) a0 a1 fun d' o' => d' = d ∧ o' = o) : Sm m 40 [(.val a0), (.val a1)] d o := call_sem (Uok m) (J := Jn) (PH := Pn) Tryd.func40 rfl (by kernel_rfl) ((D40 (Sm m) a0 a1 fun d' o' => d' = d ∧ o' = o).symm ▸ w : pfnW Tryd.prog Jn h40 q40 (Sm m) Tryd.f40 [(.val a0), (.val a1)] fun d' o' => d' = d ∧ o' = o)
/-- laws.szValueS -/
def G41 (S : CallS) (a0 a1 : D) (Q : D → List (List D) → Prop) : Prop :=
  Bnd (lenD Tryd.prog 49 a0) fun x1 =>
  Bnd (binD Tryd.prog BinOp.sub 3 a1 x1) fun x2 =>
  Bnd (binD Tryd.prog BinOp.lss 3 x2 (.int 0)) fun x3 =>
  OnBD x3 fun t4 => Br t4 (
  Q (.int (-1)) []) (
  Q x2 [])
theorem D41 (S : CallS) (a0 a1 : D) (Q : D → List (List D) → Prop) : pfnW Tryd.prog Jn h41 q41 S Tryd.f41 [(.val a0), (.val a1)] Q = G41 S a0 a1 Q := by kernel_rfl
theorem V41 {m : Bool} {a0 a1 : D} {d : D} {o : List (List D)} (w : G41 (Sm m) a0 a1 fun d' o' => d' = d ∧ o' = o) : Sm m 41 [(.val a0), (.val a1)] d o := call_sem (Uok m) (J := Jn) (PH := Pn) Tryd.func41 rfl (by kernel_rfl) ((D41 (Sm m) a0 a1 fun d' o' => d' = d ∧ o' = o).symm ▸ w : pfnW Tryd.prog Jn h41 q41 (Sm m) Tryd.f41 [(.val a0), (.val a1)] fun d' o' => d' = d ∧ o' = o)
/-- laws.szSentS -/
def G42 (S : CallS) (a0 a1 : D) (Q : D → List (List D) → Prop) : Prop :=
  Bnd (lenD Tryd.prog 51 a0) fun x1 =>
  Bnd (binD Tryd.prog BinOp.sub 3 a1 x1) fun x2 =>
  Bnd (binD Tryd.prog BinOp.lss 3 x2 (.int 0)) fun x3 =>
  OnBD x3 fun t4 => Br t4 (
  Q (.int (-1)) []) (
  ∃ (I19 : List D → Prop) (m20 : List D → Nat), I19 [x2, (.int 0), (.int 0)] ∧
  ∀ x21 : D, ∀ x22 : D, ∀ x23 : D, I19 [x21, x22, x23] →
  Bnd (lenD Tryd.prog 51 a0) fun x24 =>
  Bnd (binD Tryd.prog BinOp.lss 3 x23 x24) fun x25 =>
  OnBD x25 fun t26 => Br t26 (
  Bnd (indexAddrD Tryd.prog 51 a0 x23) fun x27 =>
  Bnd (loadD Tryd.prog 102 x27) fun x28 =>
  ∃ d29 : D, S 67 [(.val x28), (.val x21)] d29 [] ∧
  Bnd (binD Tryd.prog BinOp.lss 3 d29 (.int 0)) fun x30 =>
  OnBD x30 fun t31 => Br t31 (
  Q (.int (-1)) []) (
  Bnd (binD Tryd.prog BinOp.add 3 x23 (.int 1)) fun x32 =>
  I19 [d29, x22, x32] ∧ m20 [d29, x22, x32] < m20 [x21, x22, x23])) (
  Q x21 []))
theorem D42 (S : CallS) (a0 a1 : D) (Q : D → List (List D) → Prop) : pfnW Tryd.prog Jn h42 q42 S Tryd.f42 [(.val a0), (.val a1)] Q = G42 S a0 a1 Q := by kernel_rfl
theorem V42 {m : Bool} {a0 a1 : D} {d : D} {o : List (List D)} (w : G42 (Sm m) a0 a1 fun d' o' => d' = d ∧ o' = o) : Sm m 42 [(.val a0), (.val a1)] d o := call_sem (Uok m) (J := Jn) (PH := Pn) Tryd.func42 rfl (by kernel_rfl) ((D42 (Sm m) a0 a1 fun d' o' => d' = d ∧ o' = o).symm ▸ w : pfnW Tryd.prog Jn h42 q42 (Sm m) Tryd.f42 [(.val a0), (.val a1)] fun d' o' => d' = d ∧ o' = o)
/-- laws.szAskerS -/
def G43 (S : CallS) (a0 a1 : D) (Q : D → List (List D) → Prop) : Prop :=
  Bnd (lenD Tryd.prog 52 a0) fun x1 =>
  Bnd (binD Tryd.prog BinOp.sub 3 a1 x1) fun x2 =>
  Bnd (binD Tryd.prog BinOp.lss 3 x2 (.int 0)) fun x3 =>
  OnBD x3 fun t4 => Br t4 (
  Q (.int (-1)) []) (
  Q x2 [])
theorem D43 (S : CallS) (a0 a1 : D) (Q : D → List (List D) → Prop) : pfnW Tryd.prog Jn h43 q43 S Tryd.f43 [(.val a0), (.val a1)] Q = G43 S a0 a1 Q := by kernel_rfl
theorem V43 {m : Bool} {a0 a1 : D} {d : D} {o : List (List D)} (w : G43 (Sm m) a0 a1 fun d' o' => d' = d ∧ o' = o) : Sm m 43 [(.val a0), (.val a1)] d o := call_sem (Uok m) (J := Jn) (PH := Pn) Tryd.func43 rfl (by kernel_rfl) ((D43 (Sm m) a0 a1 fun d' o' => d' = d ∧ o' = o).symm ▸ w : pfnW Tryd.prog Jn h43 q43 (Sm m) Tryd.f43 [(.val a0), (.val a1)] fun d' o' => d' = d ∧ o' = o)
/-- spec.ValueText -/
def G44 (S : CallS) (a0 : D) (Q : D → List (List D) → Prop) : Prop :=
  ∃ x1 x2 : D, (cellsD Tryd.prog 58 a0) = some [x1, x2] ∧
  Bnd (binD Tryd.prog BinOp.eql 3 x1 (.int 0)) fun x3 =>
  OnBD x3 fun t4 => Br t4 (
  ∃ d5 : D, S 25 [(.val x2)] d5 [] ∧
  Q d5 []) (
  Bnd (binD Tryd.prog BinOp.eql 3 x1 (.int 1)) fun x6 =>
  OnBD x6 fun t7 => Br t7 (
  ∃ d8 : D, S 25 [(.val x2)] d8 [] ∧
  Bnd (binD Tryd.prog BinOp.add 9 (.v (Value.string (ByteArray.mk #[64]))) d8) fun x9 =>
  Q x9 []) (
  Bnd (binD Tryd.prog BinOp.eql 3 x1 (.int 2)) fun x10 =>
  OnBD x10 fun t11 => Br t11 (
  Q (.v (Value.string (ByteArray.mk #[33]))) []) (
  Q (.v (Value.string (ByteArray.mk #[63]))) [])))
theorem D44 (S : CallS) (a0 : D) (Q : D → List (List D) → Prop) : pfnW Tryd.prog Jn h44 q44 S Tryd.f44 [(.val a0)] Q = G44 S a0 Q := by kernel_rfl
theorem V44 {m : Bool} {a0 : D} {d : D} {o : List (List D)} (w : G44 (Sm m) a0 fun d' o' => d' = d ∧ o' = o) : Sm m 44 [(.val a0)] d o := call_sem (Uok m) (J := Jn) (PH := Pn) Tryd.func44 rfl (by kernel_rfl) ((D44 (Sm m) a0 fun d' o' => d' = d ∧ o' = o).symm ▸ w : pfnW Tryd.prog Jn h44 q44 (Sm m) Tryd.f44 [(.val a0)] fun d' o' => d' = d ∧ o' = o)
/-- laws.toValueS -/
def G45 (S : CallS) (a0 : D) (Q : D → List (List D) → Prop) : Prop :=
  Bnd (lenD Tryd.prog 49 a0) fun x1 =>
  BndR (mkD Tryd.prog 58 [(.v (Value.int IntKind.i64 0)), (.v (Value.int IntKind.i64 0))] x1) fun n2 r3 =>
  ∃ (I14 : List D → Prop) (m15 : List D → Nat), I14 [(.int 0), (.agg r3)] ∧
  ∀ x16 : D, ∀ r17 : List D, I14 [x16, (.agg r17)] →
  Bnd (lenD Tryd.prog 49 a0) fun x18 =>
  Bnd (binD Tryd.prog BinOp.lss 3 x16 x18) fun x19 =>
  OnBD x19 fun t20 => Br t20 (
  Bnd (indexAddrD Tryd.prog 49 a0 x16) fun x21 =>
  Bnd (loadD Tryd.prog 50 x21) fun x22 =>
  ∃ d23 : D, S 46 [(.val x22)] d23 [] ∧
  Bnd (elemP Tryd.prog 57 2 n2 x16) fun j24 =>
  Bnd (putD Tryd.prog 58 r17 j24 d23) fun r25 =>
  Bnd (binD Tryd.prog BinOp.add 3 x16 (.int 1)) fun x26 =>
  I14 [x26, (.agg r25)] ∧ m15 [x26, (.agg r25)] < m15 [x16, (.agg r17)]) (
  Q (.sl 2 n2 r17) [])
theorem D45 (S : CallS) (a0 : D) (Q : D → List (List D) → Prop) : pfnW Tryd.prog Jn h45 q45 S Tryd.f45 [(.val a0)] Q = G45 S a0 Q := by kernel_rfl
theorem V45 {m : Bool} {a0 : D} {d : D} {o : List (List D)} (w : G45 (Sm m) a0 fun d' o' => d' = d ∧ o' = o) : Sm m 45 [(.val a0)] d o := call_sem (Uok m) (J := Jn) (PH := Pn) Tryd.func45 rfl (by kernel_rfl) ((D45 (Sm m) a0 fun d' o' => d' = d ∧ o' = o).symm ▸ w : pfnW Tryd.prog Jn h45 q45 (Sm m) Tryd.f45 [(.val a0)] fun d' o' => d' = d ∧ o' = o)
/-- laws.toValue -/
def G46 (S : CallS) (a0 : D) (Q : D → List (List D) → Prop) : Prop :=
  ∃ x1 x2 : D, (cellsD Tryd.prog 50 a0) = some [x1, x2] ∧
  ∃ x3 x4 : D, (cellsD Tryd.prog 58 (.agg [x1, x2])) = some [x3, x4] ∧
  Q (.agg [x3, x4]) []
theorem D46 (S : CallS) (a0 : D) (Q : D → List (List D) → Prop) : pfnW Tryd.prog Jn h46 q46 S Tryd.f46 [(.val a0)] Q = G46 S a0 Q := by kernel_rfl
theorem V46 {m : Bool} {a0 : D} {d : D} {o : List (List D)} (w : G46 (Sm m) a0 fun d' o' => d' = d ∧ o' = o) : Sm m 46 [(.val a0)] d o := call_sem (Uok m) (J := Jn) (PH := Pn) Tryd.func46 rfl (by kernel_rfl) ((D46 (Sm m) a0 fun d' o' => d' = d ∧ o' = o).symm ▸ w : pfnW Tryd.prog Jn h46 q46 (Sm m) Tryd.f46 [(.val a0)] fun d' o' => d' = d ∧ o' = o)
/-- laws.toSentS -/
def G47 (S : CallS) (a0 : D) (Q : D → List (List D) → Prop) : Prop :=
  Bnd (lenD Tryd.prog 51 a0) fun x1 =>
  BndR (mkD Tryd.prog 104 [(.v (Value.int IntKind.i64 0)), (.v (Value.string ByteArray.empty)), (.sl 2 0 []), (.v (Value.int IntKind.i64 0)), (.v (Value.int IntKind.i64 0)), (.v (Value.int IntKind.i64 0)), (.v (Value.int IntKind.i64 0))] x1) fun n2 r3 =>
  ∃ (I14 : List D → Prop) (m15 : List D → Nat), I14 [(.int 0), (.agg r3)] ∧
  ∀ x16 : D, ∀ r17 : List D, I14 [x16, (.agg r17)] →
  Bnd (lenD Tryd.prog 51 a0) fun x18 =>
  Bnd (binD Tryd.prog BinOp.lss 3 x16 x18) fun x19 =>
  OnBD x19 fun t20 => Br t20 (
  Bnd (indexAddrD Tryd.prog 51 a0 x16) fun x21 =>
  Bnd (loadD Tryd.prog 102 x21) fun x22 =>
  ∃ d23 : D, S 68 [(.val x22)] d23 [] ∧
  Bnd (elemP Tryd.prog 59 7 n2 x16) fun j24 =>
  Bnd (putD Tryd.prog 104 r17 j24 d23) fun r25 =>
  Bnd (binD Tryd.prog BinOp.add 3 x16 (.int 1)) fun x26 =>
  I14 [x26, (.agg r25)] ∧ m15 [x26, (.agg r25)] < m15 [x16, (.agg r17)]) (
  Q (.sl 7 n2 r17) [])
theorem D47 (S : CallS) (a0 : D) (Q : D → List (List D) → Prop) : pfnW Tryd.prog Jn h47 q47 S Tryd.f47 [(.val a0)] Q = G47 S a0 Q := by kernel_rfl
theorem V47 {m : Bool} {a0 : D} {d : D} {o : List (List D)} (w : G47 (Sm m) a0 fun d' o' => d' = d ∧ o' = o) : Sm m 47 [(.val a0)] d o := call_sem (Uok m) (J := Jn) (PH := Pn) Tryd.func47 rfl (by kernel_rfl) ((D47 (Sm m) a0 fun d' o' => d' = d ∧ o' = o).symm ▸ w : pfnW Tryd.prog Jn h47 q47 (Sm m) Tryd.f47 [(.val a0)] fun d' o' => d' = d ∧ o' = o)
/-- laws.toAskerS -/
def G48 (S : CallS) (a0 : D) (Q : D → List (List D) → Prop) : Prop :=
  Bnd (lenD Tryd.prog 52 a0) fun x1 =>
  BndR (mkD Tryd.prog 107 [(.v (Value.int IntKind.i64 0)), (.v (Value.int IntKind.i64 0))] x1) fun n2 r3 =>
  ∃ (I14 : List D → Prop) (m15 : List D → Nat), I14 [(.int 0), (.agg r3)] ∧
  ∀ x16 : D, ∀ r17 : List D, I14 [x16, (.agg r17)] →
  Bnd (lenD Tryd.prog 52 a0) fun x18 =>
  Bnd (binD Tryd.prog BinOp.lss 3 x16 x18) fun x19 =>
  OnBD x19 fun t20 => Br t20 (
  Bnd (indexAddrD Tryd.prog 52 a0 x16) fun x21 =>
  Bnd (loadD Tryd.prog 109 x21) fun x22 =>
  ∃ d23 : D, S 69 [(.val x22)] d23 [] ∧
  Bnd (elemP Tryd.prog 60 2 n2 x16) fun j24 =>
  Bnd (putD Tryd.prog 107 r17 j24 d23) fun r25 =>
  Bnd (binD Tryd.prog BinOp.add 3 x16 (.int 1)) fun x26 =>
  I14 [x26, (.agg r25)] ∧ m15 [x26, (.agg r25)] < m15 [x16, (.agg r17)]) (
  Q (.sl 2 n2 r17) [])
theorem D48 (S : CallS) (a0 : D) (Q : D → List (List D) → Prop) : pfnW Tryd.prog Jn h48 q48 S Tryd.f48 [(.val a0)] Q = G48 S a0 Q := by kernel_rfl
theorem V48 {m : Bool} {a0 : D} {d : D} {o : List (List D)} (w : G48 (Sm m) a0 fun d' o' => d' = d ∧ o' = o) : Sm m 48 [(.val a0)] d o := call_sem (Uok m) (J := Jn) (PH := Pn) Tryd.func48 rfl (by kernel_rfl) ((D48 (Sm m) a0 fun d' o' => d' = d ∧ o' = o).symm ▸ w : pfnW Tryd.prog Jn h48 q48 (Sm m) Tryd.f48 [(.val a0)] fun d' o' => d' = d ∧ o' = o)
/-- impl.ValueText -/
def G49 (S : CallS) (a0 : D) (Q : D → List (List D) → Prop) : Prop :=
  ∃ x1 x2 : D, (cellsD Tryd.prog 58 a0) = some [x1, x2] ∧
  Bnd (binD Tryd.prog BinOp.eql 3 x1 (.int 0)) fun x3 =>
  OnBD x3 fun t4 => Br t4 (
  ∃ d5 : D, S 37 [(.val x2)] d5 [] ∧
  Q d5 []) (
  Bnd (binD Tryd.prog BinOp.eql 3 x1 (.int 1)) fun x6 =>
  OnBD x6 fun t7 => Br t7 (
  ∃ d8 : D, S 37 [(.val x2)] d8 [] ∧
  Bnd (binD Tryd.prog BinOp.add 9 (.v (Value.string (ByteArray.mk #[64]))) d8) fun x9 =>
  Q x9 []) (
  Bnd (binD Tryd.prog BinOp.eql 3 x1 (.int 2)) fun x10 =>
  OnBD x10 fun t11 => Br t11 (
  Q (.v (Value.string (ByteArray.mk #[33]))) []) (
  Q (.v (Value.string (ByteArray.mk #[63]))) [])))
theorem D49 (S : CallS) (a0 : D) (Q : D → List (List D) → Prop) : pfnW Tryd.prog Jn h49 q49 S Tryd.f49 [(.val a0)] Q = G49 S a0 Q := by kernel_rfl
theorem V49 {m : Bool} {a0 : D} {d : D} {o : List (List D)} (w : G49 (Sm m) a0 fun d' o' => d' = d ∧ o' = o) : Sm m 49 [(.val a0)] d o := call_sem (Uok m) (J := Jn) (PH := Pn) Tryd.func49 rfl (by kernel_rfl) ((D49 (Sm m) a0 fun d' o' => d' = d ∧ o' = o).symm ▸ w : pfnW Tryd.prog Jn h49 q49 (Sm m) Tryd.f49 [(.val a0)] fun d' o' => d' = d ∧ o' = o)
/-- laws.eqValueS -/
def G50 (S : CallS) (a0 a1 : D) (Q : D → List (List D) → Prop) : Prop :=
  Bnd (lenD Tryd.prog 57 a0) fun x1 =>
  Bnd (lenD Tryd.prog 57 a1) fun x2 =>
  Bnd (binD Tryd.prog BinOp.neq 3 x1 x2) fun x3 =>
  OnBD x3 fun t4 => Br t4 (
  Q (.bool false) []) (
  ∃ (I5 : List D → Prop) (m6 : List D → Nat), I5 [(.bool false), (.int 0)] ∧
  ∀ x7 : D, ∀ x8 : D, I5 [x7, x8] →
  Bnd (lenD Tryd.prog 57 a0) fun x9 =>
  Bnd (binD Tryd.prog BinOp.lss 3 x8 x9) fun x10 =>
  OnBD x10 fun t11 => Br t11 (
  Bnd (indexAddrD Tryd.prog 57 a0 x8) fun x12 =>
  Bnd (loadD Tryd.prog 58 x12) fun x13 =>
  Bnd (indexAddrD Tryd.prog 57 a1 x8) fun x14 =>
  Bnd (loadD Tryd.prog 58 x14) fun x15 =>
  ∃ d16 : D, S 51 [(.val x13), (.val x15)] d16 [] ∧
  Bnd (unD UnOp.not d16) fun x17 =>
  OnBD x17 fun t18 => Br t18 (
  Q (.bool false) []) (
  Bnd (binD Tryd.prog BinOp.add 3 x8 (.int 1)) fun x19 =>
  I5 [x7, x19] ∧ m6 [x7, x19] < m6 [x7, x8])) (
  Q (.bool true) []))
theorem D50 (S : CallS) (a0 a1 : D) (Q : D → List (List D) → Prop) : pfnW Tryd.prog Jn h50 q50 S Tryd.f50 [(.val a0), (.val a1)] Q = G50 S a0 a1 Q := by kernel_rfl
theorem V50 {m : Bool} {a0 a1 : D} {d : D} {o : List (List D)} (w : G50 (Sm m) a0 a1 fun d' o' => d' = d ∧ o' = o) : Sm m 50 [(.val a0), (.val a1)] d o := call_sem (Uok m) (J := Jn) (PH := Pn) Tryd.func50 rfl (by kernel_rfl) ((D50 (Sm m) a0 a1 fun d' o' => d' = d ∧ o' = o).symm ▸ w : pfnW Tryd.prog Jn h50 q50 (Sm m) Tryd.f50 [(.val a0), (.val a1)] fun d' o' => d' = d ∧ o' = o)
/-- laws.eqValue -/
def G51 (S : CallS) (a0 a1 : D) (Q : D → List (List D) → Prop) : Prop :=
  ∃ x1 x2 : D, (cellsD Tryd.prog 58 a0) = some [x1, x2] ∧
  ∃ x3 x4 : D, (cellsD Tryd.prog 58 a1) = some [x3, x4] ∧
  Bnd (binD Tryd.prog BinOp.neq 3 x1 x3) fun x5 =>
  OnBD x5 fun t6 => Br t6 (
  Q (.bool false) []) (
  Bnd (binD Tryd.prog BinOp.neq 3 x2 x4) fun x7 =>
  OnBD x7 fun t8 => Br t8 (
  Q (.bool false) []) (
  Q (.bool true) []))
theorem D51 (S : CallS) (a0 a1 : D) (Q : D → List (List D) → Prop) : pfnW Tryd.prog Jn h51 q51 S Tryd.f51 [(.val a0), (.val a1)] Q = G51 S a0 a1 Q := by kernel_rfl
theorem V51 {m : Bool} {a0 a1 : D} {d : D} {o : List (List D)} (w : G51 (Sm m) a0 a1 fun d' o' => d' = d ∧ o' = o) : Sm m 51 [(.val a0), (.val a1)] d o := call_sem (Uok m) (J := Jn) (PH := Pn) Tryd.func51 rfl (by kernel_rfl) ((D51 (Sm m) a0 a1 fun d' o' => d' = d ∧ o' = o).symm ▸ w : pfnW Tryd.prog Jn h51 q51 (Sm m) Tryd.f51 [(.val a0), (.val a1)] fun d' o' => d' = d ∧ o' = o)
/-- laws.eqSentS -/
def G52 (S : CallS) (a0 a1 : D) (Q : D → List (List D) → Prop) : Prop :=
  Bnd (lenD Tryd.prog 59 a0) fun x1 =>
  Bnd (lenD Tryd.prog 59 a1) fun x2 =>
  Bnd (binD Tryd.prog BinOp.neq 3 x1 x2) fun x3 =>
  OnBD x3 fun t4 => Br t4 (
  Q (.bool false) []) (
  ∃ (I5 : List D → Prop) (m6 : List D → Nat), I5 [(.bool false), (.int 0)] ∧
  ∀ x7 : D, ∀ x8 : D, I5 [x7, x8] →
  Bnd (lenD Tryd.prog 59 a0) fun x9 =>
  Bnd (binD Tryd.prog BinOp.lss 3 x8 x9) fun x10 =>
  OnBD x10 fun t11 => Br t11 (
  Bnd (indexAddrD Tryd.prog 59 a0 x8) fun x12 =>
  Bnd (loadD Tryd.prog 104 x12) fun x13 =>
  Bnd (indexAddrD Tryd.prog 59 a1 x8) fun x14 =>
  Bnd (loadD Tryd.prog 104 x14) fun x15 =>
  ∃ d16 : D, S 70 [(.val x13), (.val x15)] d16 [] ∧
  Bnd (unD UnOp.not d16) fun x17 =>
  OnBD x17 fun t18 => Br t18 (
  Q (.bool false) []) (
  Bnd (binD Tryd.prog BinOp.add 3 x8 (.int 1)) fun x19 =>
  I5 [x7, x19] ∧ m6 [x7, x19] < m6 [x7, x8])) (
  Q (.bool true) []))
theorem D52 (S : CallS) (a0 a1 : D) (Q : D → List (List D) → Prop) : pfnW Tryd.prog Jn h52 q52 S Tryd.f52 [(.val a0), (.val a1)] Q = G52 S a0 a1 Q := by kernel_rfl
theorem V52 {m : Bool} {a0 a1 : D} {d : D} {o : List (List D)} (w : G52 (Sm m) a0 a1 fun d' o' => d' = d ∧ o' = o) : Sm m 52 [(.val a0), (.val a1)] d o := call_sem (Uok m) (J := Jn) (PH := Pn) Tryd.func52 rfl (by kernel_rfl) ((D52 (Sm m) a0 a1 fun d' o' => d' = d ∧ o' = o).symm ▸ w : pfnW Tryd.prog Jn h52 q52 (Sm m) Tryd.f52 [(.val a0), (.val a1)] fun d' o' => d' = d ∧ o' = o)
/-- laws.eqAskerS -/
def G53 (S : CallS) (a0 a1 : D) (Q : D → List (List D) → Prop) : Prop :=
  Bnd (lenD Tryd.prog 60 a0) fun x1 =>
  Bnd (lenD Tryd.prog 60 a1) fun x2 =>
  Bnd (binD Tryd.prog BinOp.neq 3 x1 x2) fun x3 =>
  OnBD x3 fun t4 => Br t4 (
  Q (.bool false) []) (
  ∃ (I5 : List D → Prop) (m6 : List D → Nat), I5 [(.bool false), (.int 0)] ∧
  ∀ x7 : D, ∀ x8 : D, I5 [x7, x8] →
  Bnd (lenD Tryd.prog 60 a0) fun x9 =>
  Bnd (binD Tryd.prog BinOp.lss 3 x8 x9) fun x10 =>
  OnBD x10 fun t11 => Br t11 (
  Bnd (indexAddrD Tryd.prog 60 a0 x8) fun x12 =>
  Bnd (loadD Tryd.prog 107 x12) fun x13 =>
  Bnd (indexAddrD Tryd.prog 60 a1 x8) fun x14 =>
  Bnd (loadD Tryd.prog 107 x14) fun x15 =>
  ∃ d16 : D, S 71 [(.val x13), (.val x15)] d16 [] ∧
  Bnd (unD UnOp.not d16) fun x17 =>
  OnBD x17 fun t18 => Br t18 (
  Q (.bool false) []) (
  Bnd (binD Tryd.prog BinOp.add 3 x8 (.int 1)) fun x19 =>
  I5 [x7, x19] ∧ m6 [x7, x19] < m6 [x7, x8])) (
  Q (.bool true) []))
theorem D53 (S : CallS) (a0 a1 : D) (Q : D → List (List D) → Prop) : pfnW Tryd.prog Jn h53 q53 S Tryd.f53 [(.val a0), (.val a1)] Q = G53 S a0 a1 Q := by kernel_rfl
theorem V53 {m : Bool} {a0 a1 : D} {d : D} {o : List (List D)} (w : G53 (Sm m) a0 a1 fun d' o' => d' = d ∧ o' = o) : Sm m 53 [(.val a0), (.val a1)] d o := call_sem (Uok m) (J := Jn) (PH := Pn) Tryd.func53 rfl (by kernel_rfl) ((D53 (Sm m) a0 a1 fun d' o' => d' = d ∧ o' = o).symm ▸ w : pfnW Tryd.prog Jn h53 q53 (Sm m) Tryd.f53 [(.val a0), (.val a1)] fun d' o' => d' = d ∧ o' = o)
/-- spec.IsWire -/
def G55 (S : CallS) (a0 : D) (Q : D → List (List D) → Prop) : Prop :=
  ∃ x1 x2 : D, (cellsD Tryd.prog 43 a0) = some [x1, x2] ∧
  Bnd (binD Tryd.prog BinOp.eql 3 x1 (.int 0)) fun x3 =>
  OnBD x3 fun t4 => Br t4 (
  ∃ d5 : D, S 58 [(.val x2), (.val (.int 0)), (.val (.int 999999))] d5 [] ∧
  Q d5 []) (
  Bnd (binD Tryd.prog BinOp.eql 3 x1 (.int 1)) fun x6 =>
  OnBD x6 fun t7 => Br t7 (
  OnBD x6 fun t8 => Br t8 (
  ∃ d9 : D, S 58 [(.val x2), (.val (.int 1)), (.val (.int 999999))] d9 [] ∧
  Q d9 []) (
  Bnd (binD Tryd.prog BinOp.eql 3 x1 (.int 3)) fun x10 =>
  (((wantD x10 true) = true → (wantD x10 true) = true) ∧
  (((wantD x10 true) = true → (wantD x10 true) = true) ∧
  ∃ x14, ((wantD x10 true) = true → binD Tryd.prog BinOp.eql 3 x2 (.int 0) = some x14) ∧
  ((truD x10 = true → (wantD x10 true) = true) ∧
  Bnd (pickD x10 x14 (.bool false)) fun x15 =>
  Q x15 []))))) (
  Bnd (binD Tryd.prog BinOp.eql 3 x1 (.int 2)) fun x16 =>
  OnBD x16 fun t17 => Br t17 (
  ∃ d18 : D, S 58 [(.val x2), (.val (.int 1)), (.val (.int 999999))] d18 [] ∧
  Q d18 []) (
  Bnd (binD Tryd.prog BinOp.eql 3 x1 (.int 3)) fun x19 =>
  (((wantD x19 true) = true → (wantD x19 true) = true) ∧
  (((wantD x19 true) = true → (wantD x19 true) = true) ∧
  ∃ x23, ((wantD x19 true) = true → binD Tryd.prog BinOp.eql 3 x2 (.int 0) = some x23) ∧
  ((truD x19 = true → (wantD x19 true) = true) ∧
  Bnd (pickD x19 x23 (.bool false)) fun x24 =>
  Q x24 []))))))
theorem D55 (S : CallS) (a0 : D) (Q : D → List (List D) → Prop) : pfnW Tryd.prog Jn h55 q55 S Tryd.f55 [(.val a0)] Q = G55 S a0 Q := by kernel_rfl
theorem V55 {m : Bool} {a0 : D} {d : D} {o : List (List D)} (w : G55 (Sm m) a0 fun d' o' => d' = d ∧ o' = o) : Sm m 55 [(.val a0)] d o := call_sem (Uok m) (J := Jn) (PH := Pn) Tryd.func55 rfl (by kernel_rfl) ((D55 (Sm m) a0 fun d' o' => d' = d ∧ o' = o).symm ▸ w : pfnW Tryd.prog Jn h55 q55 (Sm m) Tryd.f55 [(.val a0)] fun d' o' => d' = d ∧ o' = o)
/-- spec.l11One -/
def G56 (S : CallS) (a0 : D) (Q : D → List (List D) → Prop) : Prop :=
  ∃ d1 : D, S 58 [(.val a0), (.val (.int 1)), (.val (.int 999999))] d1 [] ∧
  Q d1 []
theorem D56 (S : CallS) (a0 : D) (Q : D → List (List D) → Prop) : pfnW Tryd.prog Jn h56 q56 S Tryd.f56 [(.val a0)] Q = G56 S a0 Q := by kernel_rfl
theorem V56 {m : Bool} {a0 : D} {d : D} {o : List (List D)} (w : G56 (Sm m) a0 fun d' o' => d' = d ∧ o' = o) : Sm m 56 [(.val a0)] d o := call_sem (Uok m) (J := Jn) (PH := Pn) Tryd.func56 rfl (by kernel_rfl) ((D56 (Sm m) a0 fun d' o' => d' = d ∧ o' = o).symm ▸ w : pfnW Tryd.prog Jn h56 q56 (Sm m) Tryd.f56 [(.val a0)] fun d' o' => d' = d ∧ o' = o)
/-- spec.IsName -/
def G57 (S : CallS) (a0 : D) (Q : D → List (List D) → Prop) : Prop :=
  ∃ (I1 : List D → Prop) (m2 : List D → Nat), I1 [(.bool false), (.int 0)] ∧
  ∀ x3 : D, ∀ x4 : D, I1 [x3, x4] →
  Bnd (lenD Tryd.prog 9 a0) fun x5 =>
  Bnd (binD Tryd.prog BinOp.lss 3 x4 x5) fun x6 =>
  OnBD x6 fun t7 => Br t7 (
  Bnd (indexD Tryd.prog 9 a0 x4) fun x8 =>
  Bnd (binD Tryd.prog BinOp.lss 5 x8 (.v (Value.int IntKind.u8 97))) fun x9 =>
  (((wantD x9 false) = true → (wantD x9 false) = true) ∧
  (((wantD x9 false) = true → (wantD x9 false) = true) ∧
  ∃ x13, ((wantD x9 false) = true → indexD Tryd.prog 9 a0 x4 = some x13) ∧
  (((wantD x9 false) = true → (wantD x9 false) = true) ∧
  ∃ x15, ((wantD x9 false) = true → binD Tryd.prog BinOp.gtr 5 x13 (.v (Value.int IntKind.u8 122)) = some x15) ∧
  ((truD x9 = false → (wantD x9 false) = true) ∧
  Bnd (pickD x9 (.bool true) x15) fun x16 =>
  OnBD x16 fun t17 => Br t17 (
  Q (.bool false) []) (
  Bnd (binD Tryd.prog BinOp.add 3 x4 (.int 1)) fun x18 =>
  I1 [x3, x18] ∧ m2 [x3, x18] < m2 [x3, x4])))))) (
  Bnd (lenD Tryd.prog 9 a0) fun x19 =>
  ∃ d20 : D, S 58 [(.val x19), (.val (.int 1)), (.val (.int 6))] d20 [] ∧
  Q d20 [])
theorem D57 (S : CallS) (a0 : D) (Q : D → List (List D) → Prop) : pfnW Tryd.prog Jn h57 q57 S Tryd.f57 [(.val a0)] Q = G57 S a0 Q := by kernel_rfl
theorem V57 {m : Bool} {a0 : D} {d : D} {o : List (List D)} (w : G57 (Sm m) a0 fun d' o' => d' = d ∧ o' = o) : Sm m 57 [(.val a0)] d o := call_sem (Uok m) (J := Jn) (PH := Pn) Tryd.func57 rfl (by kernel_rfl) ((D57 (Sm m) a0 fun d' o' => d' = d ∧ o' = o).symm ▸ w : pfnW Tryd.prog Jn h57 q57 (Sm m) Tryd.f57 [(.val a0)] fun d' o' => d' = d ∧ o' = o)
/-- spec.l1In -/
def G58 (S : CallS) (a0 a1 a2 : D) (Q : D → List (List D) → Prop) : Prop :=
  Bnd (binD Tryd.prog BinOp.geq 3 a0 a1) fun x1 =>
  (((wantD x1 true) = true → (wantD x1 true) = true) ∧
  (((wantD x1 true) = true → (wantD x1 true) = true) ∧
  ∃ x5, ((wantD x1 true) = true → binD Tryd.prog BinOp.leq 3 a0 a2 = some x5) ∧
  ((truD x1 = true → (wantD x1 true) = true) ∧
  Bnd (pickD x1 x5 (.bool false)) fun x6 =>
  Q x6 [])))
theorem D58 (S : CallS) (a0 a1 a2 : D) (Q : D → List (List D) → Prop) : pfnW Tryd.prog Jn h58 q58 S Tryd.f58 [(.val a0), (.val a1), (.val a2)] Q = G58 S a0 a1 a2 Q := by kernel_rfl
theorem V58 {m : Bool} {a0 a1 a2 : D} {d : D} {o : List (List D)} (w : G58 (Sm m) a0 a1 a2 fun d' o' => d' = d ∧ o' = o) : Sm m 58 [(.val a0), (.val a1), (.val a2)] d o := call_sem (Uok m) (J := Jn) (PH := Pn) Tryd.func58 rfl (by kernel_rfl) ((D58 (Sm m) a0 a1 a2 fun d' o' => d' = d ∧ o' = o).symm ▸ w : pfnW Tryd.prog Jn h58 q58 (Sm m) Tryd.f58 [(.val a0), (.val a1), (.val a2)] fun d' o' => d' = d ∧ o' = o)
/-- impl.named -/
def G59 (S : CallS) (a0 : D) (Q : D → List (List D) → Prop) : Prop :=
  ∃ d1 : D, S 65 [(.val a0), (.val (.int 1)), (.val (.int 999999))] d1 [] ∧
  Q d1 []
theorem D59 (S : CallS) (a0 : D) (Q : D → List (List D) → Prop) : pfnW Tryd.prog Jn h59 q59 S Tryd.f59 [(.val a0)] Q = G59 S a0 Q := by kernel_rfl
theorem V59 {m : Bool} {a0 : D} {d : D} {o : List (List D)} (w : G59 (Sm m) a0 fun d' o' => d' = d ∧ o' = o) : Sm m 59 [(.val a0)] d o := call_sem (Uok m) (J := Jn) (PH := Pn) Tryd.func59 rfl (by kernel_rfl) ((D59 (Sm m) a0 fun d' o' => d' = d ∧ o' = o).symm ▸ w : pfnW Tryd.prog Jn h59 q59 (Sm m) Tryd.f59 [(.val a0)] fun d' o' => d' = d ∧ o' = o)
/-- impl.isName -/
def G60 (S : CallS) (a0 : D) (Q : D → List (List D) → Prop) : Prop :=
  Bnd (lenD Tryd.prog 9 a0) fun x1 =>
  ∃ d2 : D, S 65 [(.val x1), (.val (.int 1)), (.val (.int 6))] d2 [] ∧
  Bnd (unD UnOp.not d2) fun x3 =>
  OnBD x3 fun t4 => Br t4 (
  Q (.bool false) []) (
  Bnd (lenD Tryd.prog 9 a0) fun x5 =>
  ∃ (I6 : List D → Prop) (m7 : List D → Nat), I6 [(.bool false), (.int 0)] ∧
  ∀ x8 : D, ∀ x9 : D, I6 [x8, x9] →
  Bnd (binD Tryd.prog BinOp.lss 3 x9 x5) fun x10 =>
  OnBD x10 fun t11 => Br t11 (
  Bnd (indexD Tryd.prog 9 a0 x9) fun x12 =>
  Bnd (binD Tryd.prog BinOp.lss 5 x12 (.v (Value.int IntKind.u8 97))) fun x13 =>
  (((wantD x13 false) = true → (wantD x13 false) = true) ∧
  (((wantD x13 false) = true → (wantD x13 false) = true) ∧
  ∃ x17, ((wantD x13 false) = true → indexD Tryd.prog 9 a0 x9 = some x17) ∧
  (((wantD x13 false) = true → (wantD x13 false) = true) ∧
  ∃ x19, ((wantD x13 false) = true → binD Tryd.prog BinOp.gtr 5 x17 (.v (Value.int IntKind.u8 122)) = some x19) ∧
  ((truD x13 = false → (wantD x13 false) = true) ∧
  Bnd (pickD x13 (.bool true) x19) fun x20 =>
  OnBD x20 fun t21 => Br t21 (
  Q (.bool false) []) (
  Bnd (binD Tryd.prog BinOp.add 3 x9 (.int 1)) fun x22 =>
  I6 [x8, x22] ∧ m7 [x8, x22] < m7 [x8, x9])))))) (
  Q (.bool true) []))
theorem D60 (S : CallS) (a0 : D) (Q : D → List (List D) → Prop) : pfnW Tryd.prog Jn h60 q60 S Tryd.f60 [(.val a0)] Q = G60 S a0 Q := by kernel_rfl
theorem V60 {m : Bool} {a0 : D} {d : D} {o : List (List D)} (w : G60 (Sm m) a0 fun d' o' => d' = d ∧ o' = o) : Sm m 60 [(.val a0)] d o := call_sem (Uok m) (J := Jn) (PH := Pn) Tryd.func60 rfl (by kernel_rfl) ((D60 (Sm m) a0 fun d' o' => d' = d ∧ o' = o).symm ▸ w : pfnW Tryd.prog Jn h60 q60 (Sm m) Tryd.f60 [(.val a0)] fun d' o' => d' = d ∧ o' = o)
/-- impl.Wire] -/
def G61 (S : CallS) (a0 a1 : D) (Q : D → List (List D) → Prop) : Prop :=
  ∃ d1 : D, S 75 [(.val a0), (.val a1)] d1 [] ∧
  Bnd (binD Tryd.prog BinOp.geq 3 d1 (.int 0)) fun x2 =>
  Q x2 []
theorem D61 (S : CallS) (a0 a1 : D) (Q : D → List (List D) → Prop) : pfnW Tryd.prog Jn h61 q61 S Tryd.f61 [(.val a0), (.val a1)] Q = G61 S a0 a1 Q := by kernel_rfl
theorem V61 {m : Bool} {a0 a1 : D} {d : D} {o : List (List D)} (w : G61 (Sm m) a0 a1 fun d' o' => d' = d ∧ o' = o) : Sm m 61 [(.val a0), (.val a1)] d o := call_sem (Uok m) (J := Jn) (PH := Pn) Tryd.func61 rfl (by kernel_rfl) ((D61 (Sm m) a0 a1 fun d' o' => d' = d ∧ o' = o).symm ▸ w : pfnW Tryd.prog Jn h61 q61 (Sm m) Tryd.f61 [(.val a0), (.val a1)] fun d' o' => d' = d ∧ o' = o)
/-- impl.isMessage$1 -/
def G62 (S : CallS) (a0 : D) (Q : D → List (List D) → Prop) : Prop :=
  ∃ x1 x2 : D, (cellsD Tryd.prog 43 a0) = some [x1, x2] ∧
  ∃ d3 : D, S 63 [(.val (.agg [x1, x2]))] d3 [] ∧
  Bnd (unD UnOp.not d3) fun x4 =>
  Q x4 []
theorem D62 (S : CallS) (a0 : D) (Q : D → List (List D) → Prop) : pfnW Tryd.prog Jn h62 q62 S Tryd.f62 [(.val a0)] Q = G62 S a0 Q := by kernel_rfl
theorem V62 {m : Bool} {a0 : D} {d : D} {o : List (List D)} (w : G62 (Sm m) a0 fun d' o' => d' = d ∧ o' = o) : Sm m 62 [(.val a0)] d o := call_sem (Uok m) (J := Jn) (PH := Pn) Tryd.func62 rfl (by kernel_rfl) ((D62 (Sm m) a0 fun d' o' => d' = d ∧ o' = o).symm ▸ w : pfnW Tryd.prog Jn h62 q62 (Sm m) Tryd.f62 [(.val a0)] fun d' o' => d' = d ∧ o' = o)
/-- impl.isWire -/
def G63 (S : CallS) (a0 : D) (Q : D → List (List D) → Prop) : Prop :=
  ∃ x1 x2 : D, (cellsD Tryd.prog 43 a0) = some [x1, x2] ∧
  Bnd (binD Tryd.prog BinOp.eql 3 x1 (.int 0)) fun x3 =>
  OnBD x3 fun t4 => Br t4 (
  ∃ d5 : D, S 65 [(.val x2), (.val (.int 0)), (.val (.int 999999))] d5 [] ∧
  Q d5 []) (
  Bnd (binD Tryd.prog BinOp.eql 3 x1 (.int 1)) fun x6 =>
  OnBD x6 fun t7 => Br t7 (
  OnBD x6 fun t8 => Br t8 (
  ∃ d9 : D, S 59 [(.val x2)] d9 [] ∧
  Q d9 []) (
  Bnd (binD Tryd.prog BinOp.eql 3 x1 (.int 3)) fun x10 =>
  OnBD x10 fun t11 => Br t11 (
  Bnd (binD Tryd.prog BinOp.eql 3 x2 (.int 0)) fun x12 =>
  Q x12 []) (
  Q (.bool false) []))) (
  Bnd (binD Tryd.prog BinOp.eql 3 x1 (.int 2)) fun x13 =>
  OnBD x13 fun t14 => Br t14 (
  ∃ d15 : D, S 59 [(.val x2)] d15 [] ∧
  Q d15 []) (
  Bnd (binD Tryd.prog BinOp.eql 3 x1 (.int 3)) fun x16 =>
  OnBD x16 fun t17 => Br t17 (
  Bnd (binD Tryd.prog BinOp.eql 3 x2 (.int 0)) fun x18 =>
  Q x18 []) (
  Q (.bool false) []))))
theorem D63 (S : CallS) (a0 : D) (Q : D → List (List D) → Prop) : pfnW Tryd.prog Jn h63 q63 S Tryd.f63 [(.val a0)] Q = G63 S a0 Q := by kernel_rfl
theorem V63 {m : Bool} {a0 : D} {d : D} {o : List (List D)} (w : G63 (Sm m) a0 fun d' o' => d' = d ∧ o' = o) : Sm m 63 [(.val a0)] d o := call_sem (Uok m) (J := Jn) (PH := Pn) Tryd.func63 rfl (by kernel_rfl) ((D63 (Sm m) a0 fun d' o' => d' = d ∧ o' = o).symm ▸ w : pfnW Tryd.prog Jn h63 q63 (Sm m) Tryd.f63 [(.val a0)] fun d' o' => d' = d ∧ o' = o)
/-- impl.isTag -/
def G64 (S : CallS) (a0 : D) (Q : D → List (List D) → Prop) : Prop :=
  ∃ x1 x2 x3 : D, (cellsD Tryd.prog 25 a0) = some [x1, x2, x3] ∧
  ∃ d4 : D, S 59 [(.val x1)] d4 [] ∧
  (((wantD d4 true) = true → (wantD d4 true) = true) ∧
  (((wantD d4 true) = true → (wantD d4 true) = true) ∧
  ∃ d8, ((wantD d4 true) = true → S 59 [(.val x3)] d8 []) ∧
  ((truD d4 = true → (wantD d4 true) = true) ∧
  Bnd (pickD d4 d8 (.bool false)) fun x9 =>
  (((wantD x9 true) = true → (wantD x9 true) = true) ∧
  (((wantD x9 true) = true → (wantD x9 true) = true) ∧
  ∃ d13, ((wantD x9 true) = true → S 65 [(.val x2), (.val (.int 0)), (.val (.int 999999))] d13 []) ∧
  ((truD x9 = true → (wantD x9 true) = true) ∧
  Bnd (pickD x9 d13 (.bool false)) fun x14 =>
  Q x14 []))))))
theorem D64 (S : CallS) (a0 : D) (Q : D → List (List D) → Prop) : pfnW Tryd.prog Jn h64 q64 S Tryd.f64 [(.val a0)] Q = G64 S a0 Q := by kernel_rfl
theorem V64 {m : Bool} {a0 : D} {d : D} {o : List (List D)} (w : G64 (Sm m) a0 fun d' o' => d' = d ∧ o' = o) : Sm m 64 [(.val a0)] d o := call_sem (Uok m) (J := Jn) (PH := Pn) Tryd.func64 rfl (by kernel_rfl) ((D64 (Sm m) a0 fun d' o' => d' = d ∧ o' = o).symm ▸ w : pfnW Tryd.prog Jn h64 q64 (Sm m) Tryd.f64 [(.val a0)] fun d' o' => d' = d ∧ o' = o)
/-- impl.in -/
def G65 (S : CallS) (a0 a1 a2 : D) (Q : D → List (List D) → Prop) : Prop :=
  Bnd (binD Tryd.prog BinOp.leq 3 a1 a0) fun x1 =>
  (((wantD x1 true) = true → (wantD x1 true) = true) ∧
  (((wantD x1 true) = true → (wantD x1 true) = true) ∧
  ∃ x5, ((wantD x1 true) = true → binD Tryd.prog BinOp.leq 3 a0 a2 = some x5) ∧
  ((truD x1 = true → (wantD x1 true) = true) ∧
  Bnd (pickD x1 x5 (.bool false)) fun x6 =>
  Q x6 [])))
theorem D65 (S : CallS) (a0 a1 a2 : D) (Q : D → List (List D) → Prop) : pfnW Tryd.prog Jn h65 q65 S Tryd.f65 [(.val a0), (.val a1), (.val a2)] Q = G65 S a0 a1 a2 Q := by kernel_rfl
theorem V65 {m : Bool} {a0 a1 a2 : D} {d : D} {o : List (List D)} (w : G65 (Sm m) a0 a1 a2 fun d' o' => d' = d ∧ o' = o) : Sm m 65 [(.val a0), (.val a1), (.val a2)] d o := call_sem (Uok m) (J := Jn) (PH := Pn) Tryd.func65 rfl (by kernel_rfl) ((D65 (Sm m) a0 a1 a2 fun d' o' => d' = d ∧ o' = o).symm ▸ w : pfnW Tryd.prog Jn h65 q65 (Sm m) Tryd.f65 [(.val a0), (.val a1), (.val a2)] fun d' o' => d' = d ∧ o' = o)
/-- laws.szSent -/
def G67 (S : CallS) (a0 a1 : D) (Q : D → List (List D) → Prop) : Prop :=
  ∃ x1 x2 x3 x4 x5 x6 x7 : D, (cellsD Tryd.prog 102 a0) = some [x1, x2, x3, x4, x5, x6, x7] ∧
  Bnd (lenD Tryd.prog 9 x2) fun x8 =>
  Bnd (binD Tryd.prog BinOp.sub 3 a1 x8) fun x9 =>
  Bnd (binD Tryd.prog BinOp.lss 3 x9 (.int 0)) fun x10 =>
  OnBD x10 fun t11 => Br t11 (
  Q (.int (-1)) []) (
  ∃ d12 : D, S 41 [(.val x3), (.val x9)] d12 [] ∧
  Bnd (binD Tryd.prog BinOp.lss 3 d12 (.int 0)) fun x13 =>
  OnBD x13 fun t14 => Br t14 (
  Q (.int (-1)) []) (
  Q d12 []))
theorem D67 (S : CallS) (a0 a1 : D) (Q : D → List (List D) → Prop) : pfnW Tryd.prog Jn h67 q67 S Tryd.f67 [(.val a0), (.val a1)] Q = G67 S a0 a1 Q := by kernel_rfl
theorem V67 {m : Bool} {a0 a1 : D} {d : D} {o : List (List D)} (w : G67 (Sm m) a0 a1 fun d' o' => d' = d ∧ o' = o) : Sm m 67 [(.val a0), (.val a1)] d o := call_sem (Uok m) (J := Jn) (PH := Pn) Tryd.func67 rfl (by kernel_rfl) ((D67 (Sm m) a0 a1 fun d' o' => d' = d ∧ o' = o).symm ▸ w : pfnW Tryd.prog Jn h67 q67 (Sm m) Tryd.f67 [(.val a0), (.val a1)] fun d' o' => d' = d ∧ o' = o)
/-- laws.toSent -/
def G68 (S : CallS) (a0 : D) (Q : D → List (List D) → Prop) : Prop :=
  ∃ x1 x2 x3 x4 x5 x6 x7 : D, (cellsD Tryd.prog 102 a0) = some [x1, x2, x3, x4, x5, x6, x7] ∧
  ∃ d8 : D, S 45 [(.val x3)] d8 [] ∧
  Bnd (oneD d8) fun x9 =>
  ∃ d10 : D, S 8 [(.val (.agg [x5, x6, x7]))] d10 [] ∧
  ∃ x11 x12 x13 : D, (cellsD Tryd.prog 25 d10) = some [x11, x12, x13] ∧
  ∃ x14 x15 x16 x17 x18 x19 x20 : D, (cellsD Tryd.prog 104 (.agg [x1, x2, x9, x4, x11, x12, x13])) = some [x14, x15, x16, x17, x18, x19, x20] ∧
  Q (.agg [x14, x15, x16, x17, x18, x19, x20]) []
theorem D68 (S : CallS) (a0 : D) (Q : D → List (List D) → Prop) : pfnW Tryd.prog Jn h68 q68 S Tryd.f68 [(.val a0)] Q = G68 S a0 Q := by kernel_rfl
theorem V68 {m : Bool} {a0 : D} {d : D} {o : List (List D)} (w : G68 (Sm m) a0 fun d' o' => d' = d ∧ o' = o) : Sm m 68 [(.val a0)] d o := call_sem (Uok m) (J := Jn) (PH := Pn) Tryd.func68 rfl (by kernel_rfl) ((D68 (Sm m) a0 fun d' o' => d' = d ∧ o' = o).symm ▸ w : pfnW Tryd.prog Jn h68 q68 (Sm m) Tryd.f68 [(.val a0)] fun d' o' => d' = d ∧ o' = o)
/-- laws.toAsker -/
def G69 (S : CallS) (a0 : D) (Q : D → List (List D) → Prop) : Prop :=
  ∃ x1 x2 : D, (cellsD Tryd.prog 109 a0) = some [x1, x2] ∧
  ∃ x3 x4 : D, (cellsD Tryd.prog 107 (.agg [x1, x2])) = some [x3, x4] ∧
  Q (.agg [x3, x4]) []
theorem D69 (S : CallS) (a0 : D) (Q : D → List (List D) → Prop) : pfnW Tryd.prog Jn h69 q69 S Tryd.f69 [(.val a0)] Q = G69 S a0 Q := by kernel_rfl
theorem V69 {m : Bool} {a0 : D} {d : D} {o : List (List D)} (w : G69 (Sm m) a0 fun d' o' => d' = d ∧ o' = o) : Sm m 69 [(.val a0)] d o := call_sem (Uok m) (J := Jn) (PH := Pn) Tryd.func69 rfl (by kernel_rfl) ((D69 (Sm m) a0 fun d' o' => d' = d ∧ o' = o).symm ▸ w : pfnW Tryd.prog Jn h69 q69 (Sm m) Tryd.f69 [(.val a0)] fun d' o' => d' = d ∧ o' = o)
/-- laws.eqSent -/
def G70 (S : CallS) (a0 a1 : D) (Q : D → List (List D) → Prop) : Prop :=
  ∃ x1 x2 x3 x4 x5 x6 x7 : D, (cellsD Tryd.prog 104 a0) = some [x1, x2, x3, x4, x5, x6, x7] ∧
  ∃ x8 x9 x10 x11 x12 x13 x14 : D, (cellsD Tryd.prog 104 a1) = some [x8, x9, x10, x11, x12, x13, x14] ∧
  Bnd (binD Tryd.prog BinOp.neq 3 x1 x8) fun x15 =>
  OnBD x15 fun t16 => Br t16 (
  Q (.bool false) []) (
  Bnd (binD Tryd.prog BinOp.neq 9 x2 x9) fun x17 =>
  OnBD x17 fun t18 => Br t18 (
  Q (.bool false) []) (
  ∃ d19 : D, S 50 [(.val x3), (.val x10)] d19 [] ∧
  Bnd (unD UnOp.not d19) fun x20 =>
  OnBD x20 fun t21 => Br t21 (
  Q (.bool false) []) (
  Bnd (binD Tryd.prog BinOp.neq 3 x4 x11) fun x22 =>
  OnBD x22 fun t23 => Br t23 (
  Q (.bool false) []) (
  ∃ d24 : D, S 28 [(.val (.agg [x5, x6, x7])), (.val (.agg [x12, x13, x14]))] d24 [] ∧
  Bnd (unD UnOp.not d24) fun x25 =>
  OnBD x25 fun t26 => Br t26 (
  Q (.bool false) []) (
  Q (.bool true) [])))))
theorem D70 (S : CallS) (a0 a1 : D) (Q : D → List (List D) → Prop) : pfnW Tryd.prog Jn h70 q70 S Tryd.f70 [(.val a0), (.val a1)] Q = G70 S a0 a1 Q := by kernel_rfl
theorem V70 {m : Bool} {a0 a1 : D} {d : D} {o : List (List D)} (w : G70 (Sm m) a0 a1 fun d' o' => d' = d ∧ o' = o) : Sm m 70 [(.val a0), (.val a1)] d o := call_sem (Uok m) (J := Jn) (PH := Pn) Tryd.func70 rfl (by kernel_rfl) ((D70 (Sm m) a0 a1 fun d' o' => d' = d ∧ o' = o).symm ▸ w : pfnW Tryd.prog Jn h70 q70 (Sm m) Tryd.f70 [(.val a0), (.val a1)] fun d' o' => d' = d ∧ o' = o)
/-- laws.eqAsker -/
def G71 (S : CallS) (a0 a1 : D) (Q : D → List (List D) → Prop) : Prop :=
  ∃ x1 x2 : D, (cellsD Tryd.prog 107 a0) = some [x1, x2] ∧
  ∃ x3 x4 : D, (cellsD Tryd.prog 107 a1) = some [x3, x4] ∧
  Bnd (binD Tryd.prog BinOp.neq 3 x1 x3) fun x5 =>
  OnBD x5 fun t6 => Br t6 (
  Q (.bool false) []) (
  Bnd (binD Tryd.prog BinOp.neq 3 x2 x4) fun x7 =>
  OnBD x7 fun t8 => Br t8 (
  Q (.bool false) []) (
  Q (.bool true) []))
theorem D71 (S : CallS) (a0 a1 : D) (Q : D → List (List D) → Prop) : pfnW Tryd.prog Jn h71 q71 S Tryd.f71 [(.val a0), (.val a1)] Q = G71 S a0 a1 Q := by kernel_rfl
theorem V71 {m : Bool} {a0 a1 : D} {d : D} {o : List (List D)} (w : G71 (Sm m) a0 a1 fun d' o' => d' = d ∧ o' = o) : Sm m 71 [(.val a0), (.val a1)] d o := call_sem (Uok m) (J := Jn) (PH := Pn) Tryd.func71 rfl (by kernel_rfl) ((D71 (Sm m) a0 a1 fun d' o' => d' = d ∧ o' = o).symm ▸ w : pfnW Tryd.prog Jn h71 q71 (Sm m) Tryd.f71 [(.val a0), (.val a1)] fun d' o' => d' = d ∧ o' = o)
/-- impl.Wire] -/
def G75 (S : CallS) (a0 a1 : D) (Q : D → List (List D) → Prop) : Prop :=
  Bnd (lenD Tryd.prog 42 a0) fun x1 =>
  ∃ (I2 : List D → Prop) (m3 : List D → Nat), I2 [(.int 0), (.int 0)] ∧
  ∀ x4 : D, ∀ x5 : D, I2 [x4, x5] →
  Bnd (binD Tryd.prog BinOp.lss 3 x5 x1) fun x6 =>
  OnBD x6 fun t7 => Br t7 (
  Bnd (indexAddrD Tryd.prog 42 a0 x5) fun x8 =>
  Bnd (loadD Tryd.prog 43 x8) fun x9 =>
  PCallV S a1 [x9] fun d10 =>
  OnBD d10 fun t11 => Br t11 (
  Q x5 []) (
  Bnd (binD Tryd.prog BinOp.add 3 x5 (.int 1)) fun x12 =>
  I2 [x4, x12] ∧ m3 [x4, x12] < m3 [x4, x5])) (
  Q (.int (-1)) [])
theorem D75 (S : CallS) (a0 a1 : D) (Q : D → List (List D) → Prop) : pfnW Tryd.prog Jn h75 q75 S Tryd.f75 [(.val a0), (.val a1)] Q = G75 S a0 a1 Q := by kernel_rfl
theorem V75 {m : Bool} {a0 a1 : D} {d : D} {o : List (List D)} (w : G75 (Sm m) a0 a1 fun d' o' => d' = d ∧ o' = o) : Sm m 75 [(.val a0), (.val a1)] d o := call_sem (Uok m) (J := Jn) (PH := Pn) Tryd.func75 rfl (by kernel_rfl) ((D75 (Sm m) a0 a1 fun d' o' => d' = d ∧ o' = o).symm ▸ w : pfnW Tryd.prog Jn h75 q75 (Sm m) Tryd.f75 [(.val a0), (.val a1)] fun d' o' => d' = d ∧ o' = o)
end Go.Proofs.YtlihmncbhaimkaaDoor.Am
