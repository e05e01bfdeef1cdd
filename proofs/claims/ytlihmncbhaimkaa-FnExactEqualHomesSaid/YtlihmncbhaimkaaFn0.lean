/- Printed by wip/gen/shallow.py: what the functions' bodies come to. -/
import Derived.Test.YtlihmncbhaimkaaFnH
import Derived.KernelRfl
namespace Go.Proofs.Ytlihmncbhaimkaa.Am
open Go
set_option linter.unusedVariables false
set_option maxRecDepth 100000
/-- laws.FnExactEqualHomes -/
def F3 (C : Oracle) (a0 a1 : Value) (h : Heap) (Q : Value → Heap → Prop) : Prop :=
  Res (C 4 [a0, (Value.int IntKind.i64 1048576)] h) fun x1 h2 =>
  Bnd (binA Try.prog BinOp.lss 3 x1 (Value.int IntKind.i64 0)) fun x3 =>
  OnB x3 fun t4 => Br t4 (
  Q (Value.bool true) h2) (
  Res (C 4 [a1, x1] h2) fun x5 h6 =>
  Bnd (binA Try.prog BinOp.lss 3 x5 (Value.int IntKind.i64 0)) fun x7 =>
  OnB x7 fun t8 => Br t8 (
  Q (Value.bool true) h6) (
  Res (C 6 [a0] h6) fun x9 h10 =>
  Res (C 6 [a1] h10) fun x11 h12 =>
  Res (C 5 [x9, x11] h12) fun x13 h14 =>
  Res (C 6 [a0] h14) fun x15 h16 =>
  Res (C 6 [a1] h16) fun x17 h18 =>
  Res (C 7 [x15, x17] h18) fun x19 h20 =>
  Bnd (binA Try.prog BinOp.neq 4 x19 x13) fun x21 =>
  OnB x21 fun t22 => Br t22 (
  Q (Value.bool false) h20) (
  Res (C 6 [a0] h20) fun x23 h24 =>
  Res (C 8 [x15, x23] h24) fun x25 h26 =>
  Bnd (unA UnOp.not x25) fun x27 =>
  OnB x27 fun t28 => Br t28 (
  Q (Value.bool false) h26) (
  Res (C 6 [a1] h26) fun x29 h30 =>
  Res (C 8 [x17, x29] h30) fun x31 h32 =>
  Bnd (unA UnOp.not x31) fun x33 =>
  OnB x33 fun t34 => Br t34 (
  Q (Value.bool false) h32) (
  Q (Value.bool true) h32)))))
theorem E3 (C : Oracle) (a0 a1 : Value) (h : Heap) (Q : Value → Heap → Prop) : fnW Try.prog h3 C Try.f3 [a0, a1] h Q = F3 C a0 a1 h Q := by kernel_rfl
theorem W3 {a0 a1 : Value} {h : Heap} {Q : Value → Heap → Prop} (w : F3 K a0 a1 h Q) : Res (K 3 [a0, a1] h) Q := call_wp Try.func3 rfl (by kernel_rfl) ((E3 K a0 a1 h Q).symm ▸ w : fnW Try.prog h3 K Try.f3 [a0, a1] h Q)
/-- laws.szHomeS -/
def F4 (C : Oracle) (a0 a1 : Value) (h : Heap) (Q : Value → Heap → Prop) : Prop :=
  Bnd (lenA Try.prog 22 a0 h) fun x1 =>
  Bnd (binA Try.prog BinOp.sub 3 a1 x1) fun x2 =>
  Bnd (binA Try.prog BinOp.lss 3 x2 (Value.int IntKind.i64 0)) fun x3 =>
  OnB x3 fun t4 => Br t4 (
  Q (Value.int IntKind.i64 (-1)) h) (
  Q x2 h)
theorem E4 (C : Oracle) (a0 a1 : Value) (h : Heap) (Q : Value → Heap → Prop) : fnW Try.prog h4 C Try.f4 [a0, a1] h Q = F4 C a0 a1 h Q := by kernel_rfl
theorem W4 {a0 a1 : Value} {h : Heap} {Q : Value → Heap → Prop} (w : F4 K a0 a1 h Q) : Res (K 4 [a0, a1] h) Q := call_wp Try.func4 rfl (by kernel_rfl) ((E4 K a0 a1 h Q).symm ▸ w : fnW Try.prog h4 K Try.f4 [a0, a1] h Q)
/-- spec.EqualHomes -/
def F5 (C : Oracle) (a0 a1 : Value) (h : Heap) (Q : Value → Heap → Prop) : Prop :=
  Bnd (lenA Try.prog 25 a0 h) fun x1 =>
  Bnd (lenA Try.prog 25 a1 h) fun x2 =>
  Bnd (binA Try.prog BinOp.neq 3 x1 x2) fun x3 =>
  OnB x3 fun t4 => Br t4 (
  Q (Value.bool false) h) (
  ∃ (I5 : List Value → Heap → Prop) (m6 : List Value → Heap → Nat), I5 [(Value.bool false), (Value.int IntKind.i64 0)] h ∧
  ∀ (x7 : Value) (x8 : Value) (h9 : Heap), I5 [x7, x8] h9 →
  Bnd (lenA Try.prog 25 a0 h9) fun x10 =>
  Bnd (binA Try.prog BinOp.lss 3 x8 x10) fun x11 =>
  OnB x11 fun t12 => Br t12 (
  Bnd (indexAddrA Try.prog 25 a0 x8) fun x13 =>
  Bnd (loadA Try.prog 29 h9 x13) fun x14 =>
  Bnd (indexAddrA Try.prog 25 a1 x8) fun x15 =>
  Bnd (loadA Try.prog 29 h9 x15) fun x16 =>
  Bnd (binA Try.prog BinOp.neq 29 x14 x16) fun x17 =>
  OnB x17 fun t18 => Br t18 (
  Q (Value.bool false) h9) (
  Bnd (binA Try.prog BinOp.add 3 x8 (Value.int IntKind.i64 1)) fun x19 =>
  I5 [x7, x19] h9 ∧ m6 [x7, x19] h9 < m6 [x7, x8] h9)) (
  Q (Value.bool true) h9))
theorem E5 (C : Oracle) (a0 a1 : Value) (h : Heap) (Q : Value → Heap → Prop) : fnW Try.prog h5 C Try.f5 [a0, a1] h Q = F5 C a0 a1 h Q := by kernel_rfl
theorem W5 {a0 a1 : Value} {h : Heap} {Q : Value → Heap → Prop} (w : F5 K a0 a1 h Q) : Res (K 5 [a0, a1] h) Q := call_wp Try.func5 rfl (by kernel_rfl) ((E5 K a0 a1 h Q).symm ▸ w : fnW Try.prog h5 K Try.f5 [a0, a1] h Q)
/-- laws.toHomeS -/
def F6 (C : Oracle) (a0 : Value) (h : Heap) (Q : Value → Heap → Prop) : Prop :=
  Bnd (lenA Try.prog 22 a0 h) fun x1 =>
  Res (makeSliceA Try.prog 25 x1 x1 h) fun x2 h3 =>
  ∃ (I4 : List Value → Heap → Prop) (m5 : List Value → Heap → Nat), I4 [(Value.int IntKind.i64 0)] h3 ∧
  ∀ (x6 : Value) (h7 : Heap), I4 [x6] h7 →
  Bnd (lenA Try.prog 22 a0 h7) fun x8 =>
  Bnd (binA Try.prog BinOp.lss 3 x6 x8) fun x9 =>
  OnB x9 fun t10 => Br t10 (
  Bnd (indexAddrA Try.prog 22 a0 x6) fun x11 =>
  Bnd (loadA Try.prog 31 h7 x11) fun x12 =>
  Res (C 9 [x12] h7) fun x13 h14 =>
  Bnd (indexAddrA Try.prog 25 x2 x6) fun x15 =>
  Bnd (storeA Try.prog 29 h14 x15 x13) fun h16 =>
  Bnd (binA Try.prog BinOp.add 3 x6 (Value.int IntKind.i64 1)) fun x17 =>
  I4 [x17] h16 ∧ m5 [x17] h16 < m5 [x6] h7) (
  Q x2 h7)
theorem E6 (C : Oracle) (a0 : Value) (h : Heap) (Q : Value → Heap → Prop) : fnW Try.prog h6 C Try.f6 [a0] h Q = F6 C a0 h Q := by kernel_rfl
theorem W6 {a0 : Value} {h : Heap} {Q : Value → Heap → Prop} (w : F6 K a0 h Q) : Res (K 6 [a0] h) Q := call_wp Try.func6 rfl (by kernel_rfl) ((E6 K a0 h Q).symm ▸ w : fnW Try.prog h6 K Try.f6 [a0] h Q)
/-- impl.EqualHomes -/
def F7 (C : Oracle) (a0 a1 : Value) (h : Heap) (Q : Value → Heap → Prop) : Prop :=
  Res (C 10 [a0, a1] h) fun x1 h2 =>
  Q x1 h2
theorem E7 (C : Oracle) (a0 a1 : Value) (h : Heap) (Q : Value → Heap → Prop) : fnW Try.prog h7 C Try.f7 [a0, a1] h Q = F7 C a0 a1 h Q := by kernel_rfl
theorem W7 {a0 a1 : Value} {h : Heap} {Q : Value → Heap → Prop} (w : F7 K a0 a1 h Q) : Res (K 7 [a0, a1] h) Q := call_wp Try.func7 rfl (by kernel_rfl) ((E7 K a0 a1 h Q).symm ▸ w : fnW Try.prog h7 K Try.f7 [a0, a1] h Q)
/-- laws.eqHomeS -/
def F8 (C : Oracle) (a0 a1 : Value) (h : Heap) (Q : Value → Heap → Prop) : Prop :=
  Bnd (lenA Try.prog 25 a0 h) fun x1 =>
  Bnd (lenA Try.prog 25 a1 h) fun x2 =>
  Bnd (binA Try.prog BinOp.neq 3 x1 x2) fun x3 =>
  OnB x3 fun t4 => Br t4 (
  Q (Value.bool false) h) (
  ∃ (I5 : List Value → Heap → Prop) (m6 : List Value → Heap → Nat), I5 [(Value.bool false), (Value.int IntKind.i64 0)] h ∧
  ∀ (x7 : Value) (x8 : Value) (h9 : Heap), I5 [x7, x8] h9 →
  Bnd (lenA Try.prog 25 a0 h9) fun x10 =>
  Bnd (binA Try.prog BinOp.lss 3 x8 x10) fun x11 =>
  OnB x11 fun t12 => Br t12 (
  Bnd (indexAddrA Try.prog 25 a0 x8) fun x13 =>
  Bnd (loadA Try.prog 29 h9 x13) fun x14 =>
  Bnd (indexAddrA Try.prog 25 a1 x8) fun x15 =>
  Bnd (loadA Try.prog 29 h9 x15) fun x16 =>
  Res (C 11 [x14, x16] h9) fun x17 h18 =>
  Bnd (unA UnOp.not x17) fun x19 =>
  OnB x19 fun t20 => Br t20 (
  Q (Value.bool false) h18) (
  Bnd (binA Try.prog BinOp.add 3 x8 (Value.int IntKind.i64 1)) fun x21 =>
  I5 [x7, x21] h18 ∧ m6 [x7, x21] h18 < m6 [x7, x8] h9)) (
  Q (Value.bool true) h9))
theorem E8 (C : Oracle) (a0 a1 : Value) (h : Heap) (Q : Value → Heap → Prop) : fnW Try.prog h8 C Try.f8 [a0, a1] h Q = F8 C a0 a1 h Q := by kernel_rfl
theorem W8 {a0 a1 : Value} {h : Heap} {Q : Value → Heap → Prop} (w : F8 K a0 a1 h Q) : Res (K 8 [a0, a1] h) Q := call_wp Try.func8 rfl (by kernel_rfl) ((E8 K a0 a1 h Q).symm ▸ w : fnW Try.prog h8 K Try.f8 [a0, a1] h Q)
/-- laws.toHome -/
def F9 (C : Oracle) (a0 : Value) (h : Heap) (Q : Value → Heap → Prop) : Prop :=
  Res ((flatT Try.prog 31 a0).map fun cs => newA Try.prog 31 h cs) fun x1 h2 =>
  Res ((zeroT Try.prog 29).map fun z => newA Try.prog 29 h2 z) fun x3 h4 =>
  Res ((zeroT Try.prog 29).map fun z => newA Try.prog 29 h4 z) fun x5 h6 =>
  Bnd (fieldAddrA Try.prog 31 x1 0) fun x7 =>
  Bnd (loadA Try.prog 3 h6 x7) fun x8 =>
  Bnd (fieldAddrA Try.prog 29 x5 0) fun x9 =>
  Bnd (storeA Try.prog 3 h6 x9 x8) fun h10 =>
  Bnd (fieldAddrA Try.prog 31 x1 1) fun x11 =>
  Bnd (loadA Try.prog 3 h10 x11) fun x12 =>
  Bnd (fieldAddrA Try.prog 29 x5 1) fun x13 =>
  Bnd (storeA Try.prog 3 h10 x13 x12) fun h14 =>
  Bnd (loadA Try.prog 29 h14 x5) fun x15 =>
  Bnd (storeA Try.prog 29 h14 x3 x15) fun h16 =>
  Bnd (loadA Try.prog 29 h16 x3) fun x17 =>
  Q x17 h16
theorem E9 (C : Oracle) (a0 : Value) (h : Heap) (Q : Value → Heap → Prop) : fnW Try.prog h9 C Try.f9 [a0] h Q = F9 C a0 h Q := by kernel_rfl
theorem W9 {a0 : Value} {h : Heap} {Q : Value → Heap → Prop} (w : F9 K a0 h Q) : Res (K 9 [a0] h) Q := call_wp Try.func9 rfl (by kernel_rfl) ((E9 K a0 h Q).symm ▸ w : fnW Try.prog h9 K Try.f9 [a0] h Q)
/-- impl.Home] -/
def F10 (C : Oracle) (a0 a1 : Value) (h : Heap) (Q : Value → Heap → Prop) : Prop :=
  Bnd (lenA Try.prog 25 a0 h) fun x1 =>
  Bnd (lenA Try.prog 25 a1 h) fun x2 =>
  Bnd (binA Try.prog BinOp.neq 3 x1 x2) fun x3 =>
  OnB x3 fun t4 => Br t4 (
  Q (Value.bool false) h) (
  Bnd (lenA Try.prog 25 a0 h) fun x5 =>
  ∃ (I6 : List Value → Heap → Prop) (m7 : List Value → Heap → Nat), I6 [(Value.bool false), (Value.int IntKind.i64 0)] h ∧
  ∀ (x8 : Value) (x9 : Value) (h10 : Heap), I6 [x8, x9] h10 →
  Bnd (binA Try.prog BinOp.lss 3 x9 x5) fun x11 =>
  OnB x11 fun t12 => Br t12 (
  Bnd (indexAddrA Try.prog 25 a0 x9) fun x13 =>
  Bnd (loadA Try.prog 29 h10 x13) fun x14 =>
  Bnd (indexAddrA Try.prog 25 a1 x9) fun x15 =>
  Bnd (loadA Try.prog 29 h10 x15) fun x16 =>
  Bnd (binA Try.prog BinOp.neq 29 x14 x16) fun x17 =>
  OnB x17 fun t18 => Br t18 (
  Q (Value.bool false) h10) (
  Bnd (binA Try.prog BinOp.add 3 x9 (Value.int IntKind.i64 1)) fun x19 =>
  I6 [x8, x19] h10 ∧ m7 [x8, x19] h10 < m7 [x8, x9] h10)) (
  Q (Value.bool true) h10))
theorem E10 (C : Oracle) (a0 a1 : Value) (h : Heap) (Q : Value → Heap → Prop) : fnW Try.prog h10 C Try.f10 [a0, a1] h Q = F10 C a0 a1 h Q := by kernel_rfl
theorem W10 {a0 a1 : Value} {h : Heap} {Q : Value → Heap → Prop} (w : F10 K a0 a1 h Q) : Res (K 10 [a0, a1] h) Q := call_wp Try.func10 rfl (by kernel_rfl) ((E10 K a0 a1 h Q).symm ▸ w : fnW Try.prog h10 K Try.f10 [a0, a1] h Q)
/-- laws.eqHome -/
def F11 (C : Oracle) (a0 a1 : Value) (h : Heap) (Q : Value → Heap → Prop) : Prop :=
  Res ((flatT Try.prog 29 a0).map fun cs => newA Try.prog 29 h cs) fun x1 h2 =>
  Res ((flatT Try.prog 29 a1).map fun cs => newA Try.prog 29 h2 cs) fun x3 h4 =>
  Bnd (fieldAddrA Try.prog 29 x1 0) fun x5 =>
  Bnd (loadA Try.prog 3 h4 x5) fun x6 =>
  Bnd (fieldAddrA Try.prog 29 x3 0) fun x7 =>
  Bnd (loadA Try.prog 3 h4 x7) fun x8 =>
  Bnd (binA Try.prog BinOp.neq 3 x6 x8) fun x9 =>
  OnB x9 fun t10 => Br t10 (
  Q (Value.bool false) h4) (
  Bnd (fieldAddrA Try.prog 29 x1 1) fun x11 =>
  Bnd (loadA Try.prog 3 h4 x11) fun x12 =>
  Bnd (fieldAddrA Try.prog 29 x3 1) fun x13 =>
  Bnd (loadA Try.prog 3 h4 x13) fun x14 =>
  Bnd (binA Try.prog BinOp.neq 3 x12 x14) fun x15 =>
  OnB x15 fun t16 => Br t16 (
  Q (Value.bool false) h4) (
  Q (Value.bool true) h4))
theorem E11 (C : Oracle) (a0 a1 : Value) (h : Heap) (Q : Value → Heap → Prop) : fnW Try.prog h11 C Try.f11 [a0, a1] h Q = F11 C a0 a1 h Q := by kernel_rfl
theorem W11 {a0 a1 : Value} {h : Heap} {Q : Value → Heap → Prop} (w : F11 K a0 a1 h Q) : Res (K 11 [a0, a1] h) Q := call_wp Try.func11 rfl (by kernel_rfl) ((E11 K a0 a1 h Q).symm ▸ w : fnW Try.prog h11 K Try.f11 [a0, a1] h Q)
end Go.Proofs.Ytlihmncbhaimkaa.Am
