/- Texts of this claim, joined: AmBase, AmDen, AmRel, AmHeap, AmHeap2, AmOps1, AmOps2, AmOps3, AmOps4, AmOps5, AmOps6, AmOps7, AmOps8, AmOp, AmOpAll, AmRegion, AmDraw, AmOrder, AmOrder2, AmFresh, AmSound1. -/
import Derived.Tactics
import Derived.KernelRfl
import Derived.Orders
import Derived.Below
import Derived.Laws.CopyRow
import Derived.Lib.FrozenHead
import Derived.Laws.Cells
import Derived.Laws.StructEq
import Derived.Laws.Entries
/- The abstract machine: a deterministic interpreter of Go.Code over a heap of blocks, each a list of cells. No theorem about the model stands here; it is tied to the model in the texts behind it. -/
namespace Go.Proofs.YtlihmncbhaimkaaDoor.Am
open Go

/-! ### The heap -/
inductive Blk where
  | dead
  | cells (cs : List Value) (esz : Nat) (grow ro : Bool)
  | map (es : List (Value × Value))

structure Heap where
  next : Nat
  get : Nat → Blk

def Heap.set (h : Heap) (b : Nat) (x : Blk) : Heap := { next := h.next, get := fun n => if n = b then x else h.get n }
def Heap.push (h : Heap) (x : Blk) : Heap := { next := h.next + 1, get := fun n => if n = h.next then x else h.get n }
def Heap.kill (h : Heap) (b : Nat) : Heap := h.set b .dead

/-! ### Variables -/
abbrev Env := Nat → Option Value
def upd (e : Env) (d : Option Nat) (v : Option Value) : Env := match d with
  | none => e
  | some d => fun n => if n = d then v else e n

/-- A value that names no place. -/
def closedV : Nat → Value → Bool
  | _, .bool _ | _, .int _ _ | _, .string _ | _, .pointer none | _, .slice none 0 0 | _, .map none | _, .nilFunc | _, .nilIface => true
  | n + 1, .agg cs => cs.toList.all (closedV n)
  | _, .func (.func _) fs cs => fs.toList.isEmpty && cs.toList.isEmpty
  | _, _ => false
def ev (P : Program) (e : Env) : Operand → Option Value
  | .tmp t => e t
  | .const v => if closedV 3 v then some v else none
  | .global g => if g < P.globals.size then some (.pointer (some ⟨g, 0, none⟩)) else none
  | .func f => some (.func (.func f) #[] #[])
def evs (P : Program) (e : Env) : List Operand → Option (List Value)
  | [] => some []
  | x :: l => (ev P e x).bind fun v => (evs P e l).map (v :: ·)

/-! ### Types -/
section
variable (P : Program)
def sz (t : TypeId) : Nat := P.cellsOf t
def by_ (t : TypeId) : Nat := P.bytesOf t
def isAggD : TypeDesc → Bool
  | .struct _ | .array _ _ => true
  | _ => false
/-- Is the type's value a row of cells? -/
def aggT (t : TypeId) : Option Bool := (P.underlying t).map isAggD
def zeroV (t : TypeId) : Option Value := ((P.info? t).bind (·.zero)).bind fun v => if closedV 3 v then some v else none
def zeroT (t : TypeId) : Option (List Value) := (zeroV P t).map fun v => v.cells.toList
def isU8 (t : TypeId) : Bool := match P.underlying t with
  | some (.int .u8) => true
  | _ => false
def isIntT (t : TypeId) : Bool := match P.underlying t with
  | some (.int _) => true
  | some _ => false
  | none => true
def elemT (t : TypeId) : Option TypeId := match P.underlying t with
  | some (.slice e) => some e
  | _ => none

/-- One cell's value. -/
def isOne : Value → Bool
  | .agg _ | .tuple _ => false
  | _ => true
/-- The cells of a value of a type. -/
def flatT (t : TypeId) (v : Value) : Option (List Value) := (aggT P t).bind fun g =>
  if g then (match v with
    | .agg cs => if cs.toList.length = sz P t then some cs.toList else none
    | _ => none)
  else if isOne v ∧ sz P t = 1 then some [v] else none

/-! ### Reading and writing -/
def rdCells (cs : List Value) (i n : Nat) : Option (List Value) := if i + n ≤ cs.length then some ((cs.drop i).take n) else none
def wrCells (cs : List Value) (i : Nat) : List Value → List Value
  | [] => cs
  | v :: r => wrCells (cs.set i v) (i + 1) r
def loadC (h : Heap) (b i n : Nat) : Option (List Value) := match h.get b with
  | .cells cs _ _ _ => rdCells cs i n
  | _ => none
def load1 (h : Heap) (b i : Nat) : Option Value := match h.get b with
  | .cells cs _ _ _ => cs[i]?
  | _ => none
def loadA (t : TypeId) (h : Heap) : Value → Option Value
  | .pointer (some ⟨b, i, none⟩) => (aggT P t).bind fun g => if g then (loadC h b i (sz P t)).map (fun l => .agg l.toArray) else load1 h b i
  | _ => none
def storeC (h : Heap) (b i : Nat) (vs : List Value) : Option Heap := match h.get b with
  | .cells cs s g ro => if ro then none else if i + vs.length ≤ cs.length then (if vs.all isOne then some (h.set b (.cells (wrCells cs i vs) s g false)) else none) else none
  | _ => none
def storeA (t : TypeId) (h : Heap) (p v : Value) : Option Heap := match p with
  | .pointer (some ⟨b, i, none⟩) => (flatT P t v).bind fun vs => storeC h b i vs
  | _ => none
def ptr (b i : Nat) : Value := .pointer (some ⟨b, i, none⟩)
def newA (t : TypeId) (h : Heap) (cs : List Value) : Value × Heap := (ptr h.next 0, h.push (.cells cs (sz P t) false false))

/-! ### Building -/
def fillA (place : Nat → Option (Nat × TypeId)) : List Value → List (Nat × Value) → Option (List Value)
  | cs, [] => some cs
  | cs, (i, v) :: r => match place i with
    | none => none
    | some (off, t) => (flatT P t v).bind fun vs => if vs.length = sz P t then (if off + vs.length ≤ cs.length then fillA place (wrCells cs off vs) r else none) else none
def buildA (t : TypeId) (parts : List (Nat × Value)) : Option Value :=
  (zeroT P t).bind fun z => match P.underlying t with
    | some (.struct fs) => if fs.toList.all (fun f => (P.info? f.type).isSome) then (fillA P (fun i => (fs[i]?).map fun f => (f.offset, f.type)) z parts).map fun cs => .agg cs.toArray else none
    | some (.array _ e) => if (P.info? e).isSome then (fillA P (fun i => some (i * sz P e, e)) z parts).map fun cs => .agg cs.toArray else none
    | _ => none
def reps (n : Nat) (z : List Value) : List Value := (List.replicate n z).flatten
def buildSliceA (t : TypeId) (len : Nat) (parts : List (Nat × Value)) (h : Heap) : Option (Value × Heap) :=
  (elemT P t).bind fun e => (zeroT P e).bind fun z => if z.length = sz P e then (if 0 < sz P e ∧ len * sz P e ≤ 65536 then
    (fillA P (fun i => some (i * sz P e, e)) (reps len z) parts).map fun cs => (.slice (some ⟨h.next, 0, none⟩) len len, h.push (.cells cs (sz P e) false false)) else none) else none
def makeSliceA (t : TypeId) (l c : Value) (h : Heap) : Option (Value × Heap) := match l, c with
  | .int .i64 l, .int .i64 c => (elemT P t).bind fun e => (zeroT P e).bind fun z =>
    if 0 ≤ l ∧ l ≤ c ∧ c * by_ P e ≤ 70368744177664 ∧ c ≤ 70368744177664 ∧ z.length = sz P e ∧ 0 < sz P e then some (.slice (some ⟨h.next, 0, none⟩) l.toNat c.toNat, h.push (.cells (reps c.toNat z) (sz P e) false false)) else none
  | _, _ => none

/-! ### Places -/
def fieldAddrA (s : TypeId) (x : Value) (f : Nat) : Option Value := match x with
  | .pointer (some ⟨b, i, none⟩) => (match P.underlying s with
    | some (.struct fs) => (fs[f]?).bind fun fd => if sz P fd.type = 0 then none else some (.pointer (some ⟨b, i + fd.offset, none⟩))
    | _ => none)
  | _ => none
def partA (t : TypeId) (cs : List Value) (off : Nat) : Option Value := (aggT P t).bind fun g =>
  if g then (rdCells cs off (sz P t)).map (fun l => .agg l.toArray) else cs[off]?
def fieldA (s : TypeId) (x : Value) (f : Nat) : Option Value := match x with
  | .agg cs => (match P.underlying s with
    | some (.struct fs) => (fs[f]?).bind fun fd => partA P fd.type cs.toList fd.offset
    | _ => none)
  | _ => none
def indexAddrA (t : TypeId) (x i : Value) : Option Value := match i with
  | .int _ n => (match P.underlying t, x with
    | some (.slice e), .slice (some ⟨b, o, none⟩) len _ => if (P.info? e).isSome ∧ 0 ≤ n ∧ n < len then some (.pointer (some ⟨b, o + n.toNat * sz P e, none⟩)) else none
    | some (.array len e), .pointer (some ⟨b, o, none⟩) => if (P.info? e).isSome ∧ 0 ≤ n ∧ n < len then some (.pointer (some ⟨b, o + n.toNat * sz P e, none⟩)) else none
    | _, _ => none)
  | _ => none
def indexA (t : TypeId) (x i : Value) : Option Value := match i with
  | .int _ n => (match P.underlying t, x with
    | some (.array len e), .agg cs => if (P.info? e).isSome ∧ 0 ≤ n ∧ n < len then partA P e cs.toList (n.toNat * sz P e) else none
    | some .string, .string s => if 0 ≤ n then (s[n.toNat]?).map fun b => .int .u8 b.toNat else none
    | _, _ => none)
  | _ => none
def boundA (dflt : Nat) : Option Value → Option Nat
  | none => some dflt
  | some (.int _ n) => if 0 ≤ n then some n.toNat else none
  | _ => none
def sliceA (t : TypeId) (x : Value) (lo hi mx : Option Value) (h : Heap) : Option Value :=
  match P.underlying t, x with
  | some .string, .string s => (boundA 0 lo).bind fun l => (boundA s.size hi).bind fun r => if mx.isNone ∧ l ≤ r ∧ r ≤ s.size then some (.string (s.extract l r)) else none
  | some (.slice e), .slice none 0 0 => (boundA 0 lo).bind fun l => (boundA 0 hi).bind fun r => (boundA 0 mx).bind fun m => if (P.info? e).isSome ∧ l ≤ r ∧ r ≤ m ∧ m ≤ 0 ∧ (mx.isSome → hi.isSome) then some (.slice none 0 0) else none
  | some (.slice e), .slice (some ⟨b, o, none⟩) len cap => (boundA 0 lo).bind fun l => (boundA len hi).bind fun r => (boundA cap mx).bind fun m =>
    if (P.info? e).isSome ∧ l ≤ r ∧ r ≤ m ∧ m ≤ cap ∧ (mx.isSome → hi.isSome) then (match h.get b with
      | .cells _ s g _ => if s = sz P e ∨ g = false then some (.slice (some ⟨b, o + l * sz P e, none⟩) (r - l) (m - l)) else none
      | _ => none) else none
  | some (.array n e), .pointer (some ⟨b, o, none⟩) => (boundA 0 lo).bind fun l => (boundA n hi).bind fun r => (boundA n mx).bind fun m =>
    if (P.info? e).isSome ∧ l ≤ r ∧ r ≤ m ∧ m ≤ n ∧ (mx.isSome → hi.isSome) then some (.slice (some ⟨b, o + l * sz P e, none⟩) (r - l) (m - l)) else none
  | _, _ => none

/-! ### Operators -/
/-- '==' as the model reckons it, where no place is looked at. -/
def eqA : Nat → TypeId → Value → Value → Option Bool
  | 0, _, _, _ => none
  | d + 1, t, x, y => match P.underlying t, x, y with
    | some .bool, .bool a, .bool b => some (a == b)
    | some (.int _), .int k a, .int k' b => if k = k' then some (a == b) else none
    | some .string, .string a, .string b => some (a == b)
    | some (.pointer _), .pointer none, .pointer b => some b.isNone
    | some (.pointer _), .pointer (some _), .pointer none => some false
    | some (.interface _), .iface _ _, .nilIface => some false
    | some (.interface _), .nilIface, .iface _ _ => some false
    | some (.slice _), .slice a _ _, .slice none _ _ => some a.isNone
    | some (.map _ _), .map a, .map none => some a.isNone
    | some (.func _ _ _), .nilFunc, .nilFunc => some true
    | some (.func _ _ _), .func _ _ _, .nilFunc => some false
    | some (.struct fs), .agg xs, .agg ys => if P.stoodInHeld t then none else if P.eqGuardType P.depth t then none else eqFs (eqA d) fs.toList xs.toList ys.toList
    | _, _, _ => none
where
  eqFs (eq : TypeId → Value → Value → Option Bool) : List Field → List Value → List Value → Option Bool
    | [], _, _ => some true
    | f :: r, xs, ys => if f.name ≠ "_" then
        (partA P f.type xs f.offset).bind fun a => (partA P f.type ys f.offset).bind fun b => (eq f.type a b).bind fun c => if c then eqFs eq r xs ys else some false
      else eqFs eq r xs ys
def eqDepth : Nat := 4
end

def intOp (op : BinOp) (k : IntKind) (a b : Int) : Option Value := match op with
  | .add => some (.int k (k.wrap (a + b)))
  | .sub => some (.int k (k.wrap (a - b)))
  | .mul => some (.int k (k.wrap (a * b)))
  | .quo => if b = 0 then none else some (.int k (k.wrap (a.tdiv b)))
  | .rem => if b = 0 then none else some (.int k (a.tmod b))
  | .and => some (.int k (k.wrap (BitVec.ofInt k.bits a &&& BitVec.ofInt k.bits b).toNat))
  | .or => some (.int k (k.wrap (BitVec.ofInt k.bits a ||| BitVec.ofInt k.bits b).toNat))
  | .xor => some (.int k (k.wrap (BitVec.ofInt k.bits a ^^^ BitVec.ofInt k.bits b).toNat))
  | .andNot => some (.int k (k.wrap (BitVec.ofInt k.bits a &&& ~~~BitVec.ofInt k.bits b).toNat))
  | .eql => some (.bool (a == b))
  | .neq => some (.bool (a != b))
  | .lss => some (.bool (a < b))
  | .leq => some (.bool (a ≤ b))
  | .gtr => some (.bool (a > b))
  | .geq => some (.bool (a ≥ b))
  | _ => none
def shiftOp (op : BinOp) (k : IntKind) (a b : Int) : Option Value := if b < 0 then none else match op with
  | .shl => some (.int k (k.wrap (a * 2 ^ min b.toNat k.bits)))
  | .shr => some (.int k (a.fdiv (2 ^ min b.toNat k.bits)))
  | _ => none
def strOp (op : BinOp) (x y : ByteArray) : Option Value := match op with
  | .add => if x.size + y.size ≤ 70368744177664 then some (.string (x ++ y)) else none
  | .eql => some (.bool (x.toList == y.toList))
  | .neq => some (.bool !(x.toList == y.toList))
  | .lss => some (.bool (Op.bytesLess x.toList y.toList))
  | .leq => some (.bool (Op.bytesLess x.toList y.toList || x.toList == y.toList))
  | .gtr => some (.bool !(Op.bytesLess x.toList y.toList || x.toList == y.toList))
  | .geq => some (.bool !(Op.bytesLess x.toList y.toList))
  | _ => none
section
variable (P : Program)
def binA (op : BinOp) (t : TypeId) (x y : Value) : Option Value := match x, y with
  | .int k a, .int k' b => (match op with
    | .shl | .shr => shiftOp op k a b
    | _ => if k = k' then intOp op k a b else none)
  | .string a, .string b => strOp op a b
  | x, y => (match op with
    | .eql => (eqA P eqDepth t x y).map .bool
    | .neq => (eqA P eqDepth t x y).map fun b => .bool (!b)
    | _ => none)
def unA (op : UnOp) (x : Value) : Option Value := match op, x with
  | .neg, .int k n => some (.int k (k.wrap (0 - n)))
  | .xor, .int k n => intOp .xor k (if k.signed then -1 else k.max) n
  | .not, .bool b => some (.bool !b)
  | _, _ => none
def bytesOf : List Value → Option (List UInt8)
  | [] => some []
  | .int .u8 n :: r => (bytesOf r).map (UInt8.ofNat n.toNat :: ·)
  | _ => none
def byteCells (s : ByteArray) : List Value := s.data.toList.map fun b => .int .u8 b.toNat
def convA (src dst : TypeId) (x : Value) (h : Heap) : Option (Value × Heap) :=
  match P.underlying src, P.underlying dst, x with
  | some _, some (.int k), .int _ n => some (.int k (k.wrap n), h)
  | some _, some .string, .string s => some (.string s, h)
  | some _, some (.slice e), .string s => if isU8 P e then (if sz P e = 1 ∧ s.size ≤ 70368744177664 then
      some (.slice (some ⟨h.next, 0, none⟩) s.size s.size, h.push (.cells (byteCells s) 1 true false)) else none) else none
  | some (.slice e), some .string, .slice none _ _ => if isU8 P e then some (.string ⟨#[]⟩, h) else none
  | some (.slice e), some .string, .slice (some ⟨b, o, none⟩) len _ => if isU8 P e then
      (loadC h b o len).bind fun l => (bytesOf l).map fun s => (.string ⟨s.toArray⟩, h) else none
  | _, _, _ => none

/-! ### Built-in functions -/
def lenA (t : TypeId) (x : Value) (h : Heap) : Option Value := match P.underlying t, x with
  | some .string, .string s => some (.int .i64 s.size)
  | some (.slice _), .slice _ n _ => some (.int .i64 n)
  | some (.array n _), _ => some (.int .i64 n)
  | some (.map _ _), .map none => some (.int .i64 0)
  | some (.map _ _), .map (some r) => (match h.get r with
    | .map es => some (.int .i64 es.length)
    | _ => none)
  | _, _ => none
def srcCells (size : Nat) (x : Value) (h : Heap) : Option (List Value) := match x with
  | .slice none 0 _ => some []
  | .slice (some ⟨b, o, none⟩) n _ => loadC h b o (n * size)
  | .string s => if size = 1 then some (byteCells s) else none
  | _ => none
def srcLen : Value → Option Nat
  | .slice _ n _ => some n
  | .string s => some s.size
  | _ => none
/-- 'append': in place where the row is known to have room; else a new row, and the old one dies where the model may have gone on in it. -/
def appendA (t xt : TypeId) (s x : Value) (h : Heap) : Option (Value × Heap) :=
  if isIntT P xt then none else
  (elemT P t).bind fun e => (zeroT P e).bind fun z => if sz P e = 0 ∨ z.length ≠ sz P e ∨ 65536 < by_ P e then none else match s with
  | .slice none 0 0 => (srcLen x).bind fun n => (srcCells (sz P e) x h).bind fun new =>
      if n = 0 then some (.slice none 0 0, h) else
      if n * by_ P e ≤ 70368744177664 ∧ n ≤ 70368744177664 then some (.slice (some ⟨h.next, 0, none⟩) n n, h.push (.cells new (sz P e) true false)) else none
  | .slice (some ⟨b, o, none⟩) len cap => (srcLen x).bind fun n => (srcCells (sz P e) x h).bind fun new =>
      if n = 0 then some (.slice (some ⟨b, o, none⟩) len cap, h) else
      if len + n ≤ cap then (storeC h b (o + len * sz P e) new).map fun h' => (.slice (some ⟨b, o, none⟩) (len + n) cap, h') else
      if (len + n) * by_ P e ≤ 70368744177664 ∧ len + n ≤ 70368744177664 then
        match h.get b with
        | .cells cs es g ro => (rdCells cs o (len * sz P e)).bind fun old =>
          if g = false ∨ o + cap * sz P e < cs.length then (if es = sz P e ∨ g = false then some (.slice (some ⟨h.next, 0, none⟩) (len + n) (len + n), h.push (.cells (old ++ new) (sz P e) true false)) else none)
          else if es = sz P e ∧ ro = false ∧ new.all isOne = true then some (.slice (some ⟨h.next, 0, none⟩) (len + n) (len + n), (h.kill b).push (.cells (old ++ new) (sz P e) true false)) else none
        | _ => none
      else none
  | _ => none
/-- 'append(s, make([]T, n)...)' onto a nil slice. -/
def appendZA (t : TypeId) (s x : Value) (h : Heap) : Option (Value × Heap) :=
  (elemT P t).bind fun e => (zeroT P e).bind fun z => if sz P e = 0 ∨ z.length ≠ sz P e ∨ 65536 < by_ P e then none else match s, x with
  | .slice none 0 0, .int .i64 n => if 0 < n ∧ n * by_ P e ≤ 70368744177664 ∧ n ≤ 70368744177664 then
      some (.slice (some ⟨h.next, 0, none⟩) n.toNat n.toNat, h.push (.cells (reps n.toNat z) (sz P e) true false)) else none
  | _, _ => none
def capA (t : TypeId) (x : Value) : Option Value := match P.underlying t, x with
  | some (.slice _), .slice none 0 0 => some (.int .i64 0)
  | _, _ => none
def clearA (t : TypeId) (x : Value) (h : Heap) : Option (Value × Heap) := match P.underlying t, x with
  | some (.slice e), .slice a n _ => if n = 0 then some (.tuple #[], h) else (match a with
    | some ⟨b, o, none⟩ => (zeroT P e).bind fun z => if 0 < z.length then (storeC h b o (reps n z)).map fun h' => (.tuple #[], h') else none
    | _ => none)
  | _, _ => none
def minmaxA (mx : Bool) : List Value → Option Value
  | .int k a :: r => go k a r
  | _ => none
where
  go (k : IntKind) (a : Int) : List Value → Option Value
    | [] => some (.int k a)
    | .int k' b :: r => if k' = k then go k (if mx then (if b > a then b else a) else (if b < a then b else a)) r else none
    | _ => none

/-! ### Maps -/
def mapLook (eq : Value → Value → Option Bool) (k : Value) : List (Value × Value) → Option (Option Value)
  | [] => some none
  | (k', v) :: r => (eq k k').bind fun b => if b then some (some v) else mapLook eq k r
def mapPut (eq : Value → Value → Option Bool) (k v : Value) : List (Value × Value) → Option (List (Value × Value))
  | [] => some [(k, v)]
  | (k', v') :: r => (eq k k').bind fun b => if b then some ((k, v) :: r) else (mapPut eq k v r).map ((k', v') :: ·)
/-- The types of keys that are taken: whole numbers, strings, and structs of these. -/
def keyT : Nat → TypeId → Bool
  | 0, _ => false
  | d + 1, t => match P.underlying t with
    | some (.int _) | some .string => true
    | some (.struct fs) => !P.stoodInHeld t && fs.toList.all fun f => f.name ≠ "_" && keyT d f.type
    | _ => false
def lookupA (t : TypeId) (m k : Value) (ok : Bool) (h : Heap) : Option Value := match P.underlying t with
  | some (.map kt et) => if keyT P eqDepth kt then
      (match m with
        | .map none => some []
        | .map (some r) => (match h.get r with
          | .map es => some es
          | _ => none)
        | _ => none).bind fun es => (mapLook (eqA P eqDepth kt) k es).bind fun r => (match r with
          | some v => some (v, true)
          | none => (zeroV P et).map fun v => (v, false)).map fun (v, b) => if ok then .tuple #[v, .bool b] else v
    else none
  | _ => none
def mapUpdateA (t : TypeId) (m k v : Value) (h : Heap) : Option Heap := match P.underlying t, m with
  | some (.map kt _), .map (some r) => if keyT P eqDepth kt then (match h.get r with
      | .map es => (mapPut (eqA P eqDepth kt) k v es).map fun es' => h.set r (.map es')
      | _ => none) else none
  | _, _ => none
end
end Go.Proofs.YtlihmncbhaimkaaDoor.Am
/- The abstract machine, second part: operations, regions, code, calls; calls and loops as limits. -/
namespace Go.Proofs.YtlihmncbhaimkaaDoor.Am
open Go

abbrev Oracle := FuncId → List Value → Heap → Option (Value × Heap)
def callA (C : Oracle) (f : Value) (args : List Value) (h : Heap) : Option (Value × Heap) := match f with
  | .func (.func f) first captured => C f (first.toList ++ args ++ captured.toList) h
  | _ => none

section
variable (P : Program) (C : Oracle)
def builtinA (b : Builtin) (ts : List TypeId) (args : List Value) (h : Heap) : Option (Value × Heap) := match b, ts, args with
  | .append, t :: u :: _, [s, x] => (match x with
    | .int _ _ => if isIntT P u && (P.underlying u).isSome then appendZA P t s x h else none
    | _ => appendA P t u s x h)
  | .len, t :: _, [x] => (lenA P t x h).map (·, h)
  | .cap, t :: _, [x] => (capA P t x).map (·, h)
  | .clear, t :: _, [x] => clearA P t x h
  | .max, _, l => (minmaxA true l).map (·, h)
  | .min, _, l => (minmaxA false l).map (·, h)
  | _, _, _ => none
def partsE (e : Env) : List (Nat × Operand) → Option (List (Nat × Value))
  | [] => some []
  | p :: l => (ev P e p.2).bind fun v => (partsE e l).map ((p.1, v) :: ·)
def optE (e : Env) : Option Operand → Option (Option Value)
  | none => some none
  | some x => (ev P e x).map some
def nilCheckA : Value → Option Value
  | .pointer (some a) => some (.pointer (some a))
  | .func (.func f) xs ys => some (.func (.func f) xs ys)
  | _ => none
def extractA (v : Value) (i : Nat) : Option Value := match v with
  | .tuple vs => vs.toList[i]?
  | _ => none
def makeInterfaceA (t : TypeId) (v : Value) : Option Value := match P.underlying t with
  | some (.interface _) => none
  | some _ => some (.iface t v)
  | none => none

/-- One operation: what it yields (nothing: the variable is left undefined), and the heap. -/
def opA (o : Op) (e : Env) (h : Heap) : Option (Value × Heap) := match o with
  | .move x | .assign x => (ev P e x).map (·, h)
  | .pick c a b => (ev P e c).bind fun c => (match c with
    | .bool t => (if t then ev P e a else ev P e b).map (·, h)
    | _ => none)
  | .alloc t => (zeroT P t).map fun z => newA P t h z
  | .box t x => (ev P e x).bind fun v => (flatT P t v).map fun cs => newA P t h cs
  | .build t ps => (partsE P e ps.toList).bind fun ps => (buildA P t ps).map (·, h)
  | .buildSlice t n ps => (partsE P e ps.toList).bind fun ps => buildSliceA P t n ps h
  | .load t a => (ev P e a).bind fun a => (loadA P t h a).map (·, h)
  | .store t a x => (ev P e a).bind fun a => (ev P e x).bind fun x => (storeA P t h a x).map (undef, ·)
  | .nilCheck x => (ev P e x).bind fun v => (nilCheckA v).map (·, h)
  | .binOp op t x y _ => (ev P e x).bind fun a => (ev P e y).bind fun b => (binA P op t a b).map (·, h)
  | .unOp op _ x => (ev P e x).bind fun v => (unA op v).map (·, h)
  | .convert s d x => (ev P e x).bind fun v => convA P s d v h
  | .makeInterface t x => (ev P e x).bind fun v => (makeInterfaceA P t v).map (·, h)
  | .makeFunc (.func f) xs ys => (evs P e xs.toList).bind fun xs => (evs P e ys.toList).map fun ys => (.func (.func f) xs.toArray ys.toArray, h)
  | .makeSlice t l c => (ev P e l).bind fun l => (ev P e c).bind fun c => makeSliceA P t l c h
  | .slice t x lo hi mx => (ev P e x).bind fun x => (optE P e lo).bind fun lo => (optE P e hi).bind fun hi => (optE P e mx).bind fun mx => (sliceA P t x lo hi mx h).map (·, h)
  | .fieldAddr s x f => (ev P e x).bind fun v => (fieldAddrA P s v f).map (·, h)
  | .field s x f => (ev P e x).bind fun v => (fieldA P s v f).map (·, h)
  | .indexAddr t x i => (ev P e x).bind fun v => (ev P e i).bind fun i => (indexAddrA P t v i).map (·, h)
  | .index t x i => (ev P e x).bind fun v => (ev P e i).bind fun i => (indexA P t v i).map (·, h)
  | .extract x i => (ev P e x).bind fun v => (extractA v i).map (·, h)
  | .call { callee := .value f, args, .. } => (ev P e f).bind fun f => (evs P e args.toList).bind fun args => callA C f args h
  | .call { callee := .builtin b, args, argTypes } => (evs P e args.toList).bind fun args => builtinA P b argTypes.toList args h
  | _ => none

/-- Is the operation to be performed? -/
def wantA (ops : List Oper) (e : Env) (o : Oper) : Option Bool := match o.guard with
  | none => some true
  | some (j, w) => ((ops[j]?).bind (·.dst)).bind fun d => (e d).map fun v => match v with
    | .bool b => b == w
    | _ => false
def stepA (ops : List Oper) (o : Oper) (e : Env) (h : Heap) : Option (Value × Heap) :=
  (wantA ops e o).bind fun w => if w then opA P C o.op e h else some (undef, h)
def opsA (ops : List Oper) : List Oper → Env → Heap → Option (Env × Heap)
  | [], e, h => some (e, h)
  | o :: r, e, h => (stepA P C ops o e h).bind fun (v, h) => opsA ops r (upd e o.dst (some v)) h

/-! ### Operations that only make a block -/
def isFresh (o : Op) : Bool := match o with
  | .alloc _ | .box .. | .buildSlice .. | .makeSlice .. => true
  | _ => false
def freshBS (t : TypeId) (n : Nat) (ps : List (Nat × Value)) : Option (Option (Nat × Nat) × Nat × List Value) := (buildSliceA P t n ps ⟨0, fun _ => .dead⟩).bind fun (_, h) => match h.get 0 with
  | .cells cs s _ _ => some (some (n, n), s, cs)
  | _ => none
def freshMS (t : TypeId) (l c : Value) : Option (Option (Nat × Nat) × Nat × List Value) := (makeSliceA P t l c ⟨0, fun _ => .dead⟩).bind fun (v, h) => match v, h.get 0 with
  | .slice _ l c, .cells cs s _ _ => some (some (l, c), s, cs)
  | _, _ => none
/-- Is it a slice (length, capacity) or a variable; an element's cells; the cells. -/
def freshOp (o : Op) (e : Env) : Option (Option (Nat × Nat) × Nat × List Value) := match o with
  | .alloc t => (zeroT P t).map fun z => (none, sz P t, z)
  | .box t x => (ev P e x).bind fun v => (flatT P t v).map fun cs => (none, sz P t, cs)
  | .buildSlice t n ps => (partsE P e ps.toList).bind fun ps => freshBS P t n ps
  | .makeSlice t l c => (ev P e l).bind fun l => (ev P e c).bind fun c => freshMS P t l c
  | _ => none
def freshV (b : Nat) : Option (Nat × Nat) → Value
  | none => ptr b 0
  | some (l, c) => .slice (some ⟨b, 0, none⟩) l c
/-- A step in a region that draws its order: new blocks have numbers that were laid by. -/
def stepD (ops : List Oper) (n0 i : Nat) (o : Oper) (e : Env) (h : Heap) : Option (Value × Heap) :=
  (wantA ops e o).bind fun w => if w then (if isFresh o.op then (freshOp P o.op e).map fun (s, n, cs) => (freshV (n0 + i) s, h.set (n0 + i) (.cells cs n false false)) else opA P C o.op e h) else some (undef, h)
def Heap.reserve (h : Heap) (m : Nat) : Heap := { next := h.next + m, get := fun n => if n < h.next then h.get n else .dead }
def reserveD (ops : List Oper) (h : Heap) : Heap := match ops.any fun o => isFresh o.op with
  | true => h.reserve ops.length
  | false => h

/-! ### A region that draws its order -/
inductive Cls where
  | quiet | read | chain
def clsOf (o : Op) : Cls := match o with
  | .move _ | .assign _ | .pick .. | .nilCheck _ | .binOp .. | .unOp .. | .makeInterface .. | .makeFunc .. | .fieldAddr .. | .field .. | .indexAddr .. | .index .. | .extract .. | .build .. => .quiet
  | .load .. | .slice .. | .lookup .. => .read
  | .call { callee := .builtin b, .. } => (match b with
    | .len => .read
    | .min | .max => .quiet
    | _ => .chain)
  | _ => .chain
def isChain (o : Oper) : Bool := match clsOf o.op with
  | .chain => true
  | _ => false
def ordered (b : List Nat) (i j : Nat) : Bool := (b.getD j 0).testBit i
/-- Variables that one of two operations writes and the other one names: the two are ordered. -/
def drawOk (ops : List Oper) (b : List Nat) : Bool :=
  let l := ops.zipIdx
  l.all fun (o, j) =>
    (o.after.toList.all fun e => !Region.binds .any e || decide (e.on < j)) &&
    (match o.guard with
      | none => true
      | some (g, _) => ordered b g j) &&
    l.all fun (o', i) => i ≥ j || ordered b i j || (o'.apart ops.toArray o && !(isChain o && isChain o' && !isFresh o.op))
/-- The run in the text's order, with the looks at the reads beside: 'rs': the reads so far (place, operation, variables, value); 'hs': the heaps ahead of each link of the chain so far. -/
noncomputable def drawA (ops : List Oper) (b : List Nat) (n0 : Nat) : List (Oper × Nat) → Env → Heap → List (Nat × Oper × Env × Value) → List (Nat × Heap) → Option (Env × Heap)
  | [], e, h, _, _ => some (e, h)
  | (o, i) :: r, e, h, rs, hs => (stepD P C ops n0 i o e h).bind fun (v, h') => match clsOf o.op with
    | .quiet => drawA ops b n0 r (upd e o.dst (some v)) h rs hs
    | .read => open Classical in if (∀ x ∈ hs, ordered b x.1 i = false → stepA P C ops o e x.2 = some (v, x.2)) then drawA ops b n0 r (upd e o.dst (some v)) h ((i, o, e, v) :: rs) hs else none
    | .chain => open Classical in if (∀ x ∈ rs, ordered b x.1 i = false → stepA P C ops x.2.1 x.2.2.1 h' = some (x.2.2.2, h')) then drawA ops b n0 r (upd e o.dst (some v)) h' rs ((i, h) :: hs) else none
noncomputable def regionA (ops : List Oper) (draw : Bool) (e : Env) (h : Heap) : Option (Env × Heap) :=
  if draw then (let b := (Region.before ops.toArray).toList; if drawOk ops b then drawA P C ops b h.next ops.zipIdx e (reserveD ops h) [] [] else none)
  else opsA P C ops ops e h
end

/-! ### Code -/
inductive Ex where
  | normal | exit (id : Nat) | ret
  deriving DecidableEq
/-- What a loop's rounds hand on: the values of the variables that are listed. -/
abbrev Vs := List (Option Value)
def dstsOps (ops : List Oper) : List Nat := ops.filterMap (·.dst)
def asg : Code → List Nat
  | .region _ ops _ => dstsOps ops.toList
  | .seq a b => asg a ++ asg b
  | .cond _ a b => asg a ++ asg b
  | .block _ c | .loop c | .scope c => asg c
  | _ => []
def firstReg : Code → Option Nat
  | .region id _ _ => some id
  | .seq a b => (firstReg a).orElse fun _ => firstReg b
  | .cond _ a b => (firstReg a).orElse fun _ => firstReg b
  | .block _ c | .loop c | .scope c => firstReg c
  | _ => none
/-- The variables as a round finds them: the listed ones as handed on, the other ones that the body assigns unknown. -/
def headE (e : Env) (L K : List Nat) (vs : Vs) : Env := fun n => if K.contains n then (if L.contains n then vs.getD (L.idxOf n) none else none) else e n
def loopN {σ : Type} (F : σ → Option (Ex × σ)) : Nat → σ → Option (Ex × σ)
  | 0, _ => none
  | n + 1, s => (F s).bind fun (x, s') => match x with
    | .normal => loopN F n s'
    | _ => some (x, s')
open Classical in
noncomputable def loopW {σ : Type} (F : σ → Option (Ex × σ)) (s : σ) : Option (Ex × σ) :=
  if h : ∃ n r, loopN F n s = some r then loopN F h.choose s else none

section
variable (P : Program) (H : Nat → Option (List Nat)) (C : Oracle)
/-- Behind the first one of two parts: nothing is forgotten, or all that it assigns but for what is listed. -/
def joinE (e : Env) (K : List Nat) (L : Option (List Nat)) (e' : Env) : Env := match L with
  | none => e'
  | some L => headE e L K (L.map e')
/-- The table's keys: loops (even), joins (odd). -/
def loopH (c : Code) : List Nat := (H (2 * (firstReg c).getD 0)).getD []
def joinH (b : Code) : Option (List Nat) := H (2 * (firstReg b).getD 0 + 1)
noncomputable def den : Code → Env → Heap → Option (Ex × Env × Heap)
  | .skip, e, h => some (.normal, e, h)
  | .region _ ops d, e, h => (regionA P C ops.toList d e h).map fun (e, h) => (.normal, e, h)
  | .seq a b, e, h => (den a e h).bind fun (x, e', h') => match x with
    | .normal => den b (joinE e (asg a) (joinH H b) e') h'
    | _ => some (x, e', h')
  | .cond c a b, e, h => (ev P e c).bind fun v => match v with
    | .bool t => if t then den a e h else den b e h
    | _ => none
  | .block id c, e, h => (den c e h).map fun (x, e, h) => (if x = .exit id then .normal else x, e, h)
  | .loop c, e, h =>
    let L := loopH H c
    let K := asg c
    (loopW (fun (s : Vs × Heap) => (den c (headE e L K s.1) s.2).map fun (x, e', h') => (x, (L.map e', h'))) (L.map e, h)).map fun (x, s) => (x, headE e L K s.1, s.2)
  | .exit id, e, h => some (.exit id, e, h)
  | .ret, e, h => some (.ret, e, h)
  | .scope c, e, h => den c e h
  | .label _, e, h => some (.normal, e, h)
  | _, _, _ => none
def resA (P : Program) (e : Env) (h : Heap) : List ResultVar → Option (List Value)
  | [] => some []
  | .tmp t :: r => (e t).bind fun v => (resA P e h r).map (v :: ·)
  | .cell a t :: r => (e a).bind fun p => (loadA P t h p).bind fun v => (resA P e h r).map (v :: ·)
def packR : List Value → Value
  | [v] => v
  | l => .tuple l.toArray
def argE (args : List Value) (ntmps : Nat) : Env := fun n => if n < args.length then args[n]? else if n < ntmps then some undef else none
noncomputable def funA (fn : Func) (args : List Value) (h : Heap) : Option (Value × Heap) := if fn.name = "runtime.NumGoroutine" then none else match fn.body with
  | none => none
  | some c => if (asg c).all (· < fn.ntmps) then (den P H C c (argE args fn.ntmps) h).bind fun (x, e, h) => (match x with
    | .exit _ => none
    | _ => (resA P e h fn.results.toList).map fun l => (packR l, h)) else none
end
/-- The table of the loops' variables: function, first region of the body. -/
abbrev Hints := FuncId → Nat → Option (List Nat)
section
variable (P : Program) (H : Hints) (X : FuncId → Option (List Value → Heap → Option (Value × Heap)))
noncomputable def callN : Nat → Oracle
  | 0, _, _, _ => none
  | n + 1, f, args, h => match X f with
    | some g => g args h
    | none => match P.funcs[f]? with
      | none => none
      | some fn => funA P (H f) (callN n) fn args h
open Classical in
noncomputable def call (f : FuncId) (args : List Value) (h : Heap) : Option (Value × Heap) :=
  if k : ∃ n r, callN P H X n f args h = some r then callN P H X k.choose f args h else none
end
end Go.Proofs.YtlihmncbhaimkaaDoor.Am
/- The tie between the abstract machine's heap and the model's world: a renaming of blocks. -/
namespace Go.Proofs.YtlihmncbhaimkaaDoor.Am
open Go Go.RowKit

/-- Where a block lies in the model: its block there, where it begins in it, how many cells that one has; of the abstract block: an element's cells, its length, does it stem from an append. -/
structure RB where
  c : Nat
  o : Nat
  sz : Nat
  esz : Nat
  len : Nat
  grow : Bool
abbrev Ren := Nat → Option RB
def Ren.le (r r' : Ren) : Prop := ∀ b x, r b = some x → r' b = some x
theorem Ren.le.refl (r : Ren) : Ren.le r r := fun _ _ h => h
theorem Ren.le.trans {a b c : Ren} (h : Ren.le a b) (k : Ren.le b c) : Ren.le a c := fun x y hx => k x y (h x y hx)
def Ren.put (r : Ren) (b : Nat) (x : RB) : Ren := fun n => if n = b then some x else r n
theorem Ren.le_put {r : Ren} {b : Nat} (h : r b = none) (x : RB) : Ren.le r (r.put b x) := fun n y hy => by
  unfold Ren.put
  split
  · rename_i e; subst e; rw [h] at hy; cases hy
  · exact hy
theorem Ren.put_self (r : Ren) (b : Nat) (x : RB) : (r.put b x) b = some x := by simp [Ren.put]

inductive RV (r : Ren) : Value → Value → Prop
  | bool (b : Bool) : RV r (.bool b) (.bool b)
  | int (k : IntKind) (n : Int) : RV r (.int k n) (.int k n)
  | string (s : ByteArray) : RV r (.string s) (.string s)
  | nilPtr : RV r (.pointer none) (.pointer none)
  | ptr (b i : Nat) (x : RB) : r b = some x → RV r (.pointer (some ⟨b, i, none⟩)) (.pointer (some ⟨x.c, x.o + i, none⟩))
  | nilSlice : RV r (.slice none 0 0) (.slice none 0 0)
  | slice (b o n c1 c2 : Nat) (a : Addr) (x : RB) : r b = some x → n ≤ c1 → c1 ≤ c2 → (c2 ≠ 0 → a = ⟨x.c, x.o + o, none⟩) →
      (c1 = c2 ∨ (x.grow = true ∧ o + c1 * x.esz = x.len ∧ x.o + o + c2 * x.esz ≤ x.sz)) →
      RV r (.slice (some ⟨b, o, none⟩) n c1) (.slice (some a) n c2)
  | nilMap : RV r (.map none) (.map none)
  | map (b : Nat) (x : RB) : r b = some x → RV r (.map (some b)) (.map (some x.c))
  | func (fn : Fn) (xs ys xs' ys' : Array Value) : xs.size = xs'.size → ys.size = ys'.size → (∀ (i : Nat) v v', xs[i]? = some v → xs'[i]? = some v' → RV r v v') → (∀ (i : Nat) v v', ys[i]? = some v → ys'[i]? = some v' → RV r v v') →
      RV r (.func fn xs ys) (.func fn xs' ys')
  | nilFunc : RV r .nilFunc .nilFunc
  | iface (t : TypeId) (v v' : Value) : RV r v v' → RV r (.iface t v) (.iface t v')
  | nilIface : RV r .nilIface .nilIface
  | agg (xs ys : Array Value) : xs.size = ys.size → (∀ (i : Nat) v v', xs[i]? = some v → ys[i]? = some v' → RV r v v') → RV r (.agg xs) (.agg ys)
  | tuple (xs ys : Array Value) : xs.size = ys.size → (∀ (i : Nat) v v', xs[i]? = some v → ys[i]? = some v' → RV r v v') → RV r (.tuple xs) (.tuple ys)

/-- Lists of related values. -/
def RL (r : Ren) (l l' : List Value) : Prop := l.length = l'.length ∧ ∀ (i : Nat) v v', l[i]? = some v → l'[i]? = some v' → RV r v v'
theorem RL.nil (r : Ren) : RL r [] [] := ⟨rfl, by simp⟩
theorem RL.cons {r : Ren} {v v' : Value} {l l' : List Value} (h : RV r v v') (k : RL r l l') : RL r (v :: l) (v' :: l') := by
  refine ⟨by simp [k.1], fun i u u' hu hu' => ?_⟩
  cases i with
  | zero => simp at hu hu'; subst hu; subst hu'; exact h
  | succ i => simp at hu hu'; exact k.2 i u u' hu hu'
theorem RL.head {r : Ren} {v v' : Value} {l l' : List Value} (h : RL r (v :: l) (v' :: l')) : RV r v v' := h.2 0 _ _ rfl rfl
theorem RL.tail {r : Ren} {v v' : Value} {l l' : List Value} (h : RL r (v :: l) (v' :: l')) : RL r l l' := ⟨by simpa using h.1, fun i u u' hu hu' => h.2 (i + 1) u u' (by simpa using hu) (by simpa using hu')⟩
theorem RL.cons_inv {r : Ren} {v : Value} {l k : List Value} (h : RL r (v :: l) k) : ∃ v' l', k = v' :: l' ∧ RV r v v' ∧ RL r l l' := by
  cases k with
  | nil => have := h.1; simp at this
  | cons v' l' => exact ⟨v', l', rfl, h.head, h.tail⟩
theorem RL.nil_inv {r : Ren} {k : List Value} (h : RL r [] k) : k = [] := by
  have := h.1
  simp at this
  exact List.eq_nil_of_length_eq_zero this.symm
theorem RL.append {r : Ren} {l l' k k' : List Value} (h : RL r l l') (g : RL r k k') : RL r (l ++ k) (l' ++ k') := by
  refine ⟨by simp [h.1, g.1], fun i u u' hu hu' => ?_⟩
  rw [List.getElem?_append] at hu hu'
  rw [← h.1] at hu'
  split at hu
  · rename_i hi; rw [if_pos hi] at hu'; exact h.2 _ _ _ hu hu'
  · rename_i hi; rw [if_neg hi] at hu'; exact g.2 _ _ _ hu hu'
theorem RL.get {r : Ren} {l l' : List Value} (h : RL r l l') {i : Nat} {v : Value} (hv : l[i]? = some v) : ∃ v', l'[i]? = some v' ∧ RV r v v' := by
  have hi : i < l.length := (List.getElem?_eq_some_iff.1 hv).1
  refine ⟨l'[i]'(by rw [← h.1]; exact hi), by simp [h.1 ▸ hi], h.2 i v _ hv (by simp [h.1 ▸ hi])⟩
theorem RL.drop {r : Ren} {l l' : List Value} (h : RL r l l') (n : Nat) : RL r (l.drop n) (l'.drop n) :=
  ⟨by simp [h.1], fun i u u' hu hu' => h.2 (n + i) u u' (by simpa using hu) (by simpa using hu')⟩
theorem RL.take {r : Ren} {l l' : List Value} (h : RL r l l') (n : Nat) : RL r (l.take n) (l'.take n) := by
  refine ⟨by simp [h.1], fun i u u' hu hu' => ?_⟩
  rw [List.getElem?_take] at hu hu'
  split at hu
  · rename_i hi; rw [if_pos hi] at hu'; exact h.2 _ _ _ hu hu'
  · cases hu
theorem RL.set {r : Ren} {l l' : List Value} (h : RL r l l') (i : Nat) {v v' : Value} (hv : RV r v v') : RL r (l.set i v) (l'.set i v') := by
  refine ⟨by simp [h.1], fun j u u' hu hu' => ?_⟩
  rw [List.getElem?_set] at hu hu'
  split at hu
  · rename_i e
    rw [if_pos e] at hu'
    split at hu
    · split at hu'
      · cases hu; cases hu'; exact hv
      · cases hu'
    · cases hu
  · rename_i e
    rw [if_neg e] at hu'
    exact h.2 _ _ _ hu hu'
theorem RL.of_array {r : Ren} {xs ys : Array Value} (hs : xs.size = ys.size) (h : ∀ (i : Nat) v v', xs[i]? = some v → ys[i]? = some v' → RV r v v') : RL r xs.toList ys.toList :=
  ⟨by simpa using hs, fun i v v' hv hv' => h i v v' (by simpa using hv) (by simpa using hv')⟩
theorem RL.size {r : Ren} {xs ys : Array Value} (h : RL r xs.toList ys.toList) : xs.size = ys.size := by simpa using h.1
theorem RL.arr {r : Ren} {xs ys : Array Value} (h : RL r xs.toList ys.toList) (i : Nat) (v v' : Value) (hv : xs[i]? = some v) (hv' : ys[i]? = some v') : RV r v v' := h.2 i v v' (by simpa using hv) (by simpa using hv')
theorem RV.of_agg {r : Ren} {l l' : List Value} (h : RL r l l') : RV r (.agg l.toArray) (.agg l'.toArray) := .agg _ _ (by simpa using h.1) fun i v v' hv hv' => h.2 i v v' (by simpa using hv) (by simpa using hv')
theorem RV.of_tuple {r : Ren} {l l' : List Value} (h : RL r l l') : RV r (.tuple l.toArray) (.tuple l'.toArray) := .tuple _ _ (by simpa using h.1) fun i v v' hv hv' => h.2 i v v' (by simpa using hv) (by simpa using hv')

theorem RV.mono {r r' : Ren} (h : Ren.le r r') {v v' : Value} (k : RV r v v') : RV r' v v' := by
  induction k with
  | bool b => exact .bool b
  | int k n => exact .int k n
  | string s => exact .string s
  | nilPtr => exact .nilPtr
  | ptr b i x hx => exact .ptr b i x (h _ _ hx)
  | nilSlice => exact .nilSlice
  | slice b o n c1 c2 a x hx h1 h2 h3 h4 => exact .slice b o n c1 c2 a x (h _ _ hx) h1 h2 h3 h4
  | nilMap => exact .nilMap
  | map b x hx => exact .map b x (h _ _ hx)
  | func fn xs ys xs' ys' h1 h2 _ _ i1 i2 => exact .func fn xs ys xs' ys' h1 h2 i1 i2
  | nilFunc => exact .nilFunc
  | iface t v v' _ ih => exact .iface t v v' ih
  | nilIface => exact .nilIface
  | agg xs ys h1 _ ih => exact .agg xs ys h1 ih
  | tuple xs ys h1 _ ih => exact .tuple xs ys h1 ih
theorem RL.mono {r r' : Ren} (h : Ren.le r r') {l l' : List Value} (k : RL r l l') : RL r' l l' := ⟨k.1, fun i v v' hv hv' => (k.2 i v v' hv hv').mono h⟩

/-- A value that names no place is related to itself. -/
theorem RV.closed {r : Ren} : ∀ (n : Nat) (v : Value), closedV n v = true → RV r v v
  | n, v, h => by
    unfold closedV at h
    split at h
    · exact .bool _
    · exact .int _ _
    · exact .string _
    · exact .nilPtr
    · exact .nilSlice
    · exact .nilMap
    · exact .nilFunc
    · exact .nilIface
    · rename_i m cs
      refine .agg cs cs rfl fun i u u' hu hu' => ?_
      rw [hu] at hu'
      cases hu'
      rw [List.all_eq_true] at h
      exact RV.closed m u (h u (by rw [← Array.getElem?_toList] at hu; exact List.mem_of_getElem? hu))
    · rename_i f fs cs
      simp only [Bool.and_eq_true, List.isEmpty_iff] at h
      obtain ⟨h1, h2⟩ := h
      refine .func _ _ _ _ _ rfl rfl (fun i u u' hu _ => ?_) (fun i u u' hu _ => ?_)
      · rw [← Array.getElem?_toList, h1] at hu; cases hu
      · rw [← Array.getElem?_toList, h2] at hu; cases hu
    · cases h
theorem RV.agg_inv {r : Ren} {xs : Array Value} {v : Value} (h : RV r (.agg xs) v) : ∃ ys, v = .agg ys ∧ RL r xs.toList ys.toList := by
  cases h with
  | agg _ ys h1 h2 => exact ⟨ys, rfl, RL.of_array h1 h2⟩
theorem RL.closed {r : Ren} {v : Value} {n : Nat} (h : closedV n v = true) : RL r v.cells.toList v.cells.toList := by
  have hr := RV.closed (r := r) n v h
  cases v <;> first
    | (obtain ⟨ys, e, hl⟩ := RV.agg_inv hr; cases e; exact hl)
    | exact RL.cons hr (RL.nil r)

/-! ### The heap -/
def Blk.live : Blk → Bool
  | .dead => false
  | _ => true
def Blk.writable : Blk → Bool
  | .cells _ _ _ ro => !ro
  | .map _ => true
  | .dead => false

structure RH (P : Program) (base : Nat) (r : Ren) (h : Heap) (w : World) : Prop where
  base_le : base ≤ w.heap.size
  dom : ∀ b x, r b = some x → b < h.next
  tot : ∀ b, b < h.next → (h.get b).live = true → ∃ x, r b = some x
  cells : ∀ b x cs esz g ro, r b = some x → h.get b = .cells cs esz g ro → x.esz = esz ∧ x.len = cs.length ∧ x.grow = g ∧ x.o + x.len ≤ x.sz ∧
    ∃ Cs ty fz, w.heap[x.c]? = some (.cells Cs ty fz) ∧ Cs.size = x.sz ∧ (∀ i v, cs[i]? = some v → ∃ v', Cs[x.o + i]? = some v' ∧ RV r v v') ∧
      (ro = false → base ≤ x.c ∧ ∀ i, i < Cs.size → w.frozen? ⟨x.c, i, none⟩ = false)
  maps : ∀ b x es, r b = some x → h.get b = .map es → base ≤ x.c ∧ ∃ Es clock, w.heap[x.c]? = some (.map Es clock) ∧ Es.size = es.length ∧
    ∀ (i : Nat) (e : MapEntry) k v, Es[i]? = some e → es[i]? = some (k, v) → RV r k e.key ∧ RV r v e.val
  sep : ∀ b b' x x', r b = some x → r b' = some x' → b ≠ b' → (h.get b).live = true → (h.get b').live = true → (h.get b).writable = true → x.c ≠ x'.c
  globs : ∀ g, g < P.globals.size → ∃ x, r g = some x ∧ x.c = g ∧ x.o = 0 ∧ x.sz = x.len
end Go.Proofs.YtlihmncbhaimkaaDoor.Am
/- How the tie of the two heaps turns: a draw, a new block, a store, a row that grows in place. -/
namespace Go.Proofs.YtlihmncbhaimkaaDoor.Am
open Go Go.RowKit

section
variable {P : Program} {base : Nat} {r : Ren} {h : Heap} {w : World}
theorem frozen_heap {w w' : World} (e : w'.heap = w.heap) (a : Addr) : w'.frozen? a = w.frozen? a := by simp only [World.frozen?, e]
theorem RH.of_heap (hr : RH P base r h w) {w' : World} (e : w'.heap = w.heap) : RH P base r h w' where
  base_le := by rw [e]; exact hr.base_le
  dom := hr.dom
  tot := hr.tot
  cells b x cs esz g ro hx hb := by
    obtain ⟨h1, h2, h3, h4, Cs, ty, fz, h5, h6, h7, h8⟩ := hr.cells b x cs esz g ro hx hb
    exact ⟨h1, h2, h3, h4, Cs, ty, fz, by rw [e]; exact h5, h6, h7, fun k => ⟨(h8 k).1, fun i hi => by rw [frozen_heap e]; exact (h8 k).2 i hi⟩⟩
  maps b x es hx hb := by
    obtain ⟨h0, Es, clock, h1, h2⟩ := hr.maps b x es hx hb
    exact ⟨h0, Es, clock, by rw [e]; exact h1, h2⟩
  sep := hr.sep
  globs := hr.globs
theorem RH.none_next (hr : RH P base r h w) : r h.next = none := by
  cases hx : r h.next with
  | none => rfl
  | some x => exact absurd (hr.dom _ _ hx) (Nat.lt_irrefl _)

theorem push_get_self (h : Heap) (x : Blk) : (h.push x).get h.next = x := by simp [Heap.push]
theorem push_get_ne (h : Heap) (x : Blk) {n : Nat} (hn : n ≠ h.next) : (h.push x).get n = h.get n := by simp [Heap.push, hn]
theorem set_get_self (h : Heap) (b : Nat) (x : Blk) : (h.set b x).get b = x := by simp [Heap.set]
theorem set_get_ne (h : Heap) {b n : Nat} (x : Blk) (hn : n ≠ b) : (h.set b x).get n = h.get n := by simp [Heap.set, hn]
theorem put_ne (r : Ren) {b n : Nat} (x : RB) (hn : n ≠ b) : (r.put b x) n = r n := by simp [Ren.put, hn]

theorem alloc_old (w : World) (o : Obj) {k : Nat} {x : Obj} (hk : w.heap[k]? = some x) : (w.heap.push o)[k]? = some x := by
  have hlt : k < w.heap.size := (Array.getElem?_eq_some_iff.1 hk).1
  rw [Array.getElem?_push, if_neg (by omega)]
  exact hk
theorem frozen_block {w w' : World} {a : Addr} (e : w'.heap[a.block]? = w.heap[a.block]?) : w'.frozen? a = w.frozen? a := by simp only [World.frozen?, e]
def unfrozen (fz : Nat × Nat) (n : Nat) : Prop := ∀ i, i < n → (decide (fz.1 ≤ i) && decide (i < fz.2)) = false

/-- A new block on both sides. -/
theorem RH.new (hr : RH P base r h w) {cs : List Value} {Cs : Array Value} (esz : Nat) (grow : Bool) (ty : TypeId) {fz : Nat × Nat} (hl : cs.length ≤ Cs.size)
    (hcs : ∀ (i : Nat) v, cs[i]? = some v → ∃ v', Cs[i]? = some v' ∧ RV r v v') (hf : unfrozen fz Cs.size) :
    RH P base (r.put h.next ⟨w.heap.size, 0, Cs.size, esz, cs.length, grow⟩) (h.push (.cells cs esz grow false)) { w with heap := w.heap.push (.cells Cs ty fz) } := by
  have hle : Ren.le r (r.put h.next ⟨w.heap.size, 0, Cs.size, esz, cs.length, grow⟩) := Ren.le_put hr.none_next _
  have old : ∀ b x, b ≠ h.next → (r.put h.next ⟨w.heap.size, 0, Cs.size, esz, cs.length, grow⟩) b = some x → r b = some x := fun b x hb hx => by rwa [put_ne _ _ hb] at hx
  have lt : ∀ b x cs' e' g' ro', r b = some x → h.get b = .cells cs' e' g' ro' → x.c < w.heap.size := fun b x cs' e' g' ro' hx hb => by
    obtain ⟨_, _, _, _, Cs', ty', fz', h5, _⟩ := hr.cells b x cs' e' g' ro' hx hb
    exact (Array.getElem?_eq_some_iff.1 h5).1
  have ltm : ∀ b x es, r b = some x → h.get b = .map es → x.c < w.heap.size := fun b x es hx hb => by
    obtain ⟨_, Es, cl, h5, _⟩ := hr.maps b x es hx hb
    exact (Array.getElem?_eq_some_iff.1 h5).1
  have ltl : ∀ b x, r b = some x → (h.get b).live = true → x.c < w.heap.size := fun b x hx hb => by
    cases hg : h.get b with
    | dead => rw [hg] at hb; cases hb
    | cells cs' e' g' ro' => exact lt b x _ _ _ _ hx hg
    | map es => exact ltm b x _ hx hg
  refine ⟨by simp; exact Nat.le_trans hr.base_le (Nat.le_succ _), ?_, ?_, ?_, ?_, ?_, ?_⟩
  · intro b x hx
    by_cases hb : b = h.next
    · subst hb; simp [Heap.push]
    · have := hr.dom b x (old b x hb hx); simp [Heap.push]; omega
  · intro b hb hlv
    by_cases hn : b = h.next
    · subst hn; exact ⟨_, Ren.put_self _ _ _⟩
    · rw [push_get_ne _ _ hn] at hlv
      obtain ⟨x, hx⟩ := hr.tot b (by simp [Heap.push] at hb; omega) hlv
      exact ⟨x, by rw [put_ne _ _ hn]; exact hx⟩
  · intro b x cs' esz' g' ro' hx hb
    by_cases hn : b = h.next
    · subst hn
      rw [Ren.put_self] at hx; cases hx
      rw [push_get_self] at hb; cases hb
      refine ⟨rfl, rfl, rfl, by simpa using hl, Cs, ty, fz, by simp, rfl, fun i v hv => ?_, fun _ => ⟨hr.base_le, fun i hi => ?_⟩⟩
      · obtain ⟨v', h1, h2⟩ := hcs i v hv
        exact ⟨v', by simpa using h1, h2.mono hle⟩
      · simp only [World.frozen?, Array.getElem?_push_size]
        exact hf i hi
    · have hx' := old b x hn hx
      rw [push_get_ne _ _ hn] at hb
      obtain ⟨h1, h2, h3, h4, Cs', ty', fz', h5, h6, h7, h8⟩ := hr.cells b x cs' esz' g' ro' hx' hb
      refine ⟨h1, h2, h3, h4, Cs', ty', fz', alloc_old w _ h5, h6, fun i v hv => ?_, fun k => ⟨(h8 k).1, fun i hi => ?_⟩⟩
      · obtain ⟨v', k1, k2⟩ := h7 i v hv
        exact ⟨v', k1, k2.mono hle⟩
      · rw [frozen_block (w := w)]
        · exact (h8 k).2 i hi
        · exact (alloc_old w _ h5).trans h5.symm
  · intro b x es hx hb
    have hn : b ≠ h.next := by rintro rfl; rw [push_get_self] at hb; cases hb
    have hx' := old b x hn hx
    rw [push_get_ne _ _ hn] at hb
    obtain ⟨h0, Es, clock, h1, h2, h3⟩ := hr.maps b x es hx' hb
    exact ⟨h0, Es, clock, alloc_old w _ h1, h2, fun i e k v he hkv => ⟨(h3 i e k v he hkv).1.mono hle, (h3 i e k v he hkv).2.mono hle⟩⟩
  · intro b b' x x' hx hx' hne hl1 hl2 hw1
    by_cases hb : b = h.next
    · subst hb
      have hb' : b' ≠ h.next := Ne.symm hne
      rw [Ren.put_self] at hx; cases hx
      rw [push_get_ne _ _ hb'] at hl2
      have := ltl b' x' (old b' x' hb' hx') hl2
      show w.heap.size ≠ x'.c
      omega
    · rw [push_get_ne _ _ hb] at hl1 hw1
      by_cases hb' : b' = h.next
      · subst hb'
        rw [Ren.put_self] at hx'; cases hx'
        have := ltl b x (old b x hb hx) hl1
        show x.c ≠ w.heap.size
        omega
      · rw [push_get_ne _ _ hb'] at hl2
        exact hr.sep b b' x x' (old b x hb hx) (old b' x' hb' hx') hne hl1 hl2 hw1
  · intro g hg
    obtain ⟨x, hx, h1, h2⟩ := hr.globs g hg
    exact ⟨x, hle _ _ hx, h1, h2⟩

/-- Blocks are struck on the abstract side. -/
theorem RH.kill (hr : RH P base r h w) (b : Nat) : RH P base r (h.kill b) w := by
  have live_ne : ∀ n, ((h.kill b).get n).live = true → n ≠ b := fun n hn e => by subst e; simp [Heap.kill, set_get_self, Blk.live] at hn
  have get_ne : ∀ n, n ≠ b → (h.kill b).get n = h.get n := fun n hn => set_get_ne _ _ hn
  refine ⟨hr.base_le, hr.dom, fun n hn hl => ?_, fun n x cs e g ro hx hb => ?_, fun n x es hx hb => ?_, fun n n' x x' hx hx' hne h1 h2 h3 => ?_, hr.globs⟩
  · have := live_ne n hl; rw [get_ne n this] at hl; exact hr.tot n hn hl
  · have := live_ne n (by rw [hb]; rfl); rw [get_ne n this] at hb; exact hr.cells n x cs e g ro hx hb
  · have := live_ne n (by rw [hb]; rfl); rw [get_ne n this] at hb; exact hr.maps n x es hx hb
  · have e1 := live_ne n h1; have e2 := live_ne n' h2
    rw [get_ne n e1] at h1 h3; rw [get_ne n' e2] at h2
    exact hr.sep n n' x x' hx hx' hne h1 h2 h3

/-! ### Writing cells -/
theorem wrCells_length (vs : List Value) : ∀ (cs : List Value) (i : Nat), (wrCells cs i vs).length = cs.length := by
  induction vs with
  | nil => intro cs i; rfl
  | cons v vs ih => intro cs i; rw [wrCells, ih, List.length_set]
theorem wrCells_get (vs : List Value) : ∀ (cs : List Value) (i j : Nat), i + vs.length ≤ cs.length → (wrCells cs i vs)[j]? = if i ≤ j ∧ j < i + vs.length then vs[j - i]? else cs[j]? := by
  induction vs with
  | nil => intro cs i j _; rw [wrCells, if_neg (by rintro ⟨h1, h2⟩; simp at h2; omega)]
  | cons v vs ih =>
    intro cs i j hl
    simp only [List.length_cons] at hl
    rw [wrCells, ih _ _ _ (by rw [List.length_set]; omega)]
    simp only [List.length_cons]
    by_cases h1 : i + 1 ≤ j ∧ j < i + 1 + vs.length
    · rw [if_pos h1, if_pos (by omega)]
      obtain ⟨k, rfl⟩ : ∃ k, j = i + 1 + k := ⟨j - (i + 1), by omega⟩
      rw [show i + 1 + k - (i + 1) = k by omega, show i + 1 + k - i = k + 1 by omega]
      rfl
    · rw [if_neg h1, List.getElem?_set]
      by_cases h2 : i = j
      · subst h2
        rw [if_pos rfl, if_pos (by omega), if_pos (by omega)]
        simp
      · rw [if_neg h2, if_neg (by omega)]
theorem run_storeCells_free (P : Program) (g o : Nat) (t : TypeId) (fz : Nat × Nat) : ∀ (vs : List Value) (i : Nat) (cur : Array Value) (w : World), w.heap[g]? = some (.cells cur t fz) → unfrozen fz cur.size → o + i + vs.length ≤ cur.size → (∀ v ∈ vs, v.oneCell' = true) →
    (storeCells ⟨g, o, none⟩ vs i).run P w = .ok () (w.setRow g (wrCells cur.toList (o + i) vs).toArray)
  | [], i, cur, w, hg, _, _, _ => by
    simp only [storeCells, wrCells, Array.toArray_toList]
    rw [setRow_self w g cur t fz hg]
    rfl
  | v :: rest, i, cur, w, hg, hfz, hl, h1 => by
    have hi : o + i < cur.size := by simp at hl; omega
    have hadd : (⟨g, o, none⟩ : Addr).add i = ⟨g, o + i, none⟩ := by unfold Addr.add; split <;> simp_all
    have hcell : w.cell? ⟨g, o + i, none⟩ = some cur[o + i] := by simp [World.cell?, hg, hi]
    have hfro : w.frozen? ⟨g, o + i, none⟩ = false := by
      simp only [World.frozen?, hg]
      exact hfz _ hi
    have hst : (store ((⟨g, o, none⟩ : Addr).add i) v).run P w = .ok () (w.setRow g (cur.setIfInBounds (o + i) v)) := by
      rw [hadd, run_store P w _ v _ (h1 v (by simp)), hcell]
      simp [hfro, setCell_eq_setRow w g (o + i) cur t fz v hg]
    have ih := run_storeCells_free P g o t fz rest (i + 1) (cur.setIfInBounds (o + i) v) (w.setRow g (cur.setIfInBounds (o + i) v)) (setRow_heap w g cur _ t _ hg) (by simpa using hfz) (by simp at hl ⊢; omega) (fun x hx => h1 x (by simp [hx]))
    simp only [storeCells, Sem.run_bind, hst, Result.andThen_ok, ih, setRow_setRow, wrCells]
    congr 4
    simp
theorem unfrozen_of {w : World} {g : Nat} {cs : Array Value} {t : TypeId} {fz : Nat × Nat} (hg : w.heap[g]? = some (.cells cs t fz)) (h : ∀ i, i < cs.size → w.frozen? ⟨g, i, none⟩ = false) : unfrozen fz cs.size := fun i hi => by
  have := h i hi
  simpa only [World.frozen?, hg] using this

/-- A concrete row is written, an abstract one with it. -/
theorem RH.write (hr : RH P base r h w) {b : Nat} {x : RB} {cs cs' : List Value} {esz : Nat} {g : Bool} (hx : r b = some x) (hb : h.get b = .cells cs esz g false) {Cs Cs' : Array Value} {ty : TypeId} {fz : Nat × Nat}
    (hC : w.heap[x.c]? = some (.cells Cs ty fz)) (hs : Cs'.size = Cs.size) (hl : cs'.length = cs.length) (hcs : ∀ (i : Nat) v, cs'[i]? = some v → ∃ v', Cs'[x.o + i]? = some v' ∧ RV r v v') :
    RH P base r (h.set b (.cells cs' esz g false)) (w.setRow x.c Cs') := by
  obtain ⟨h1, h2, h3, h4, Cs0, ty0, fz0, h5, h6, h7, h8⟩ := hr.cells b x cs esz g false hx hb
  rw [h5] at hC; cases hC
  have other : ∀ n y, r n = some y → n ≠ b → (h.get n).live = true → y.c ≠ x.c := fun n y hy hn hlv => (hr.sep b n x y hx hy (Ne.symm hn) (by rw [hb]; rfl) hlv (by rw [hb]; rfl)).symm
  have lv : ∀ n, ((h.set b (.cells cs' esz g false)).get n).live = (h.get n).live := fun n => by
    by_cases hn : n = b
    · subst hn; rw [set_get_self, hb]; rfl
    · rw [set_get_ne _ _ hn]
  have wr : ∀ n, ((h.set b (.cells cs' esz g false)).get n).writable = (h.get n).writable := fun n => by
    by_cases hn : n = b
    · subst hn; rw [set_get_self, hb]; rfl
    · rw [set_get_ne _ _ hn]
  refine ⟨by rw [setRow_size]; exact hr.base_le, hr.dom, fun n hn hlv => hr.tot n hn (by rw [← lv]; exact hlv), fun n y ds e g' ro' hy hn => ?_, fun n y es hy hn => ?_, fun n n' y y' hy hy' hne k1 k2 k3 => ?_, hr.globs⟩
  · by_cases hnb : n = b
    · subst hnb
      rw [set_get_self] at hn; cases hn
      rw [hx] at hy; cases hy
      refine ⟨h1, by rw [hl]; exact h2, h3, h4, Cs', _, _, setRow_heap w _ _ _ _ _ h5, by rw [hs]; exact h6, hcs, fun k => ⟨(h8 rfl).1, fun i hi => ?_⟩⟩
      have := unfrozen_of h5 (h8 rfl).2 i (by omega)
      simpa only [World.frozen?, setRow_heap w _ _ _ _ _ h5] using this
    · rw [set_get_ne _ _ hnb] at hn
      obtain ⟨k1, k2, k3, k4, Cs1, ty1, fz1, k5, k6, k7, k8⟩ := hr.cells n y ds e g' ro' hy hn
      have hne := other n y hy hnb (by rw [hn]; rfl)
      refine ⟨k1, k2, k3, k4, Cs1, ty1, fz1, by rw [setRow_other _ _ _ _ hne]; exact k5, k6, k7, fun k => ⟨(k8 k).1, fun i hi => ?_⟩⟩
      rw [frozen_block (w := w) (setRow_other _ _ _ _ hne)]
      exact (k8 k).2 i hi
  · have hnb : n ≠ b := by rintro rfl; rw [set_get_self] at hn; cases hn
    rw [set_get_ne _ _ hnb] at hn
    obtain ⟨k0, Es, cl, k1, k2⟩ := hr.maps n y es hy hn
    exact ⟨k0, Es, cl, by rw [setRow_other _ _ _ _ (other n y hy hnb (by rw [hn]; rfl))]; exact k1, k2⟩
  · rw [lv] at k1 k2; rw [wr] at k3
    exact hr.sep n n' y y' hy hy' hne k1 k2 k3
end
end Go.Proofs.YtlihmncbhaimkaaDoor.Am
/- More of the heaps: a row that grows in place; maps. -/
namespace Go.Proofs.YtlihmncbhaimkaaDoor.Am
open Go Go.RowKit

section
variable {P : Program} {base : Nat} {r : Ren} {h : Heap} {w : World}
/-- The model goes on in a row where the abstract machine makes a new one and strikes the old one. -/
theorem RH.growIn (hr : RH P base r h w) {b : Nat} {x : RB} {cs ds : List Value} {esz : Nat} (hx : r b = some x) (hb : h.get b = .cells cs esz true false) {Cs Cs' : Array Value} {ty : TypeId} {fz : Nat × Nat}
    (hC : w.heap[x.c]? = some (.cells Cs ty fz)) (hs : Cs'.size = Cs.size) (o : Nat) (hl : x.o + o + ds.length ≤ x.sz) (hcs : ∀ (i : Nat) v, ds[i]? = some v → ∃ v', Cs'[x.o + o + i]? = some v' ∧ RV r v v') :
    RH P base (r.put h.next ⟨x.c, x.o + o, x.sz, esz, ds.length, true⟩) ((h.kill b).push (.cells ds esz true false)) (w.setRow x.c Cs') := by
  obtain ⟨h1, h2, h3, h4, Cs0, ty0, fz0, h5, h6, h7, h8⟩ := hr.cells b x cs esz true false hx hb
  rw [h5] at hC; cases hC
  have hbn : b ≠ h.next := fun e => by have := hr.dom b x hx; omega
  have hle : Ren.le r (r.put h.next ⟨x.c, x.o + o, x.sz, esz, ds.length, true⟩) := Ren.le_put hr.none_next _
  have old : ∀ n y, n ≠ h.next → (r.put h.next ⟨x.c, x.o + o, x.sz, esz, ds.length, true⟩) n = some y → r n = some y := fun n y hn hy => by rwa [put_ne _ _ hn] at hy
  have gself : ((h.kill b).push (.cells ds esz true false)).get h.next = .cells ds esz true false := push_get_self (h.kill b) _
  have gne : ∀ n, n ≠ h.next → n ≠ b → ((h.kill b).push (.cells ds esz true false)).get n = h.get n := fun n k1 k2 => (push_get_ne (h.kill b) _ k1).trans (set_get_ne _ _ k2)
  have gb : ((h.kill b).push (.cells ds esz true false)).get b = .dead := (push_get_ne (h.kill b) _ hbn).trans (set_get_self _ _ _)
  have other : ∀ n y, r n = some y → n ≠ b → (h.get n).live = true → y.c ≠ x.c := fun n y hy hn hlv => (hr.sep b n x y hx hy (Ne.symm hn) (by rw [hb]; rfl) hlv (by rw [hb]; rfl)).symm
  refine ⟨by rw [setRow_size]; exact hr.base_le, fun n y hy => ?_, fun n hn hlv => ?_, fun n y es e g' ro' hy hn => ?_, fun n y es hy hn => ?_, fun n n' y y' hy hy' hne k1 k2 k3 => ?_, fun g hg => ?_⟩
  · by_cases hn : n = h.next
    · subst hn; show h.next < h.next + 1; omega
    · have := hr.dom n y (old n y hn hy); show n < h.next + 1; omega
  · by_cases hn' : n = h.next
    · subst hn'; exact ⟨_, Ren.put_self _ _ _⟩
    · by_cases hnb : n = b
      · subst hnb; rw [gb] at hlv; cases hlv
      · rw [gne n hn' hnb] at hlv
        obtain ⟨y, hy⟩ := hr.tot n (by have : n < h.next + 1 := hn; omega) hlv
        exact ⟨y, hle _ _ hy⟩
  · by_cases hn' : n = h.next
    · subst hn'
      rw [Ren.put_self] at hy; cases hy
      rw [gself] at hn; cases hn
      refine ⟨rfl, rfl, rfl, hl, Cs', _, _, setRow_heap w _ _ _ _ _ h5, by rw [hs]; exact h6, fun i v hv => ?_, fun k => ⟨(h8 rfl).1, fun i hi => ?_⟩⟩
      · obtain ⟨v', k1, k2⟩ := hcs i v hv
        exact ⟨v', k1, k2.mono hle⟩
      · have := unfrozen_of h5 (h8 rfl).2 i (by omega)
        simpa only [World.frozen?, setRow_heap w _ _ _ _ _ h5] using this
    · have hnb : n ≠ b := by rintro rfl; rw [gb] at hn; cases hn
      rw [gne n hn' hnb] at hn
      have hy' := old n y hn' hy
      obtain ⟨k1, k2, k3, k4, Cs1, ty1, fz1, k5, k6, k7, k8⟩ := hr.cells n y es e g' ro' hy' hn
      have hne := other n y hy' hnb (by rw [hn]; rfl)
      refine ⟨k1, k2, k3, k4, Cs1, ty1, fz1, by rw [setRow_other _ _ _ _ hne]; exact k5, k6, fun i v hv => ?_, fun k => ⟨(k8 k).1, fun i hi => ?_⟩⟩
      · obtain ⟨v', m1, m2⟩ := k7 i v hv
        exact ⟨v', m1, m2.mono hle⟩
      · rw [frozen_block (w := w) (setRow_other _ _ _ _ hne)]
        exact (k8 k).2 i hi
  · have hn' : n ≠ h.next := by rintro rfl; rw [gself] at hn; cases hn
    have hnb : n ≠ b := by rintro rfl; rw [gb] at hn; cases hn
    rw [gne n hn' hnb] at hn
    have hy' := old n y hn' hy
    obtain ⟨k0, Es, cl, k1, k2, k3⟩ := hr.maps n y es hy' hn
    exact ⟨k0, Es, cl, by rw [setRow_other _ _ _ _ (other n y hy' hnb (by rw [hn]; rfl))]; exact k1, k2, fun i e k v he hkv => ⟨(k3 i e k v he hkv).1.mono hle, (k3 i e k v he hkv).2.mono hle⟩⟩
  · have nb : ∀ m, (((h.kill b).push (.cells ds esz true false)).get m).live = true → m ≠ b := fun m hm e => by subst e; rw [gb] at hm; cases hm
    by_cases hn1 : n = h.next
    · subst hn1
      have hn2 : n' ≠ h.next := Ne.symm hne
      have hb2 := nb n' k2
      rw [Ren.put_self] at hy; cases hy
      rw [gne n' hn2 hb2] at k2
      exact (other n' y' (old n' y' hn2 hy') hb2 k2).symm
    · have hb1 := nb n k1
      rw [gne n hn1 hb1] at k1 k3
      have hy1 := old n y hn1 hy
      by_cases hn2 : n' = h.next
      · subst hn2
        rw [Ren.put_self] at hy'; cases hy'
        exact other n y hy1 hb1 k1
      · have hb2 := nb n' k2
        rw [gne n' hn2 hb2] at k2
        exact hr.sep n n' y y' hy1 (old n' y' hn2 hy') hne k1 k2 k3
  · obtain ⟨y, hy, m1, m2⟩ := hr.globs g hg
    exact ⟨y, hle _ _ hy, m1, m2⟩

theorem RH.ltl (hr : RH P base r h w) : ∀ b x, r b = some x → (h.get b).live = true → x.c < w.heap.size := fun b x hx hb => by
  cases hg : h.get b with
  | dead => rw [hg] at hb; cases hb
  | cells cs' e' g' ro' =>
    obtain ⟨_, _, _, _, Cs', ty', fz', h5, _⟩ := hr.cells b x cs' e' g' ro' hx hg
    exact (Array.getElem?_eq_some_iff.1 h5).1
  | map es =>
    obtain ⟨_, Es, cl, h5, _⟩ := hr.maps b x es hx hg
    exact (Array.getElem?_eq_some_iff.1 h5).1
theorem RH.newMap (hr : RH P base r h w) : RH P base (r.put h.next ⟨w.heap.size, 0, 0, 0, 0, false⟩) (h.push (.map [])) { w with heap := w.heap.push (.map #[] 0) } := by
  have hle : Ren.le r (r.put h.next ⟨w.heap.size, 0, 0, 0, 0, false⟩) := Ren.le_put hr.none_next _
  have old : ∀ b x, b ≠ h.next → (r.put h.next ⟨w.heap.size, 0, 0, 0, 0, false⟩) b = some x → r b = some x := fun b x hb hx => by rwa [put_ne _ _ hb] at hx
  refine ⟨by simp; exact Nat.le_trans hr.base_le (Nat.le_succ _), ?_, ?_, ?_, ?_, ?_, ?_⟩
  · intro b x hx
    by_cases hb : b = h.next
    · subst hb; simp [Heap.push]
    · have := hr.dom b x (old b x hb hx); simp [Heap.push]; omega
  · intro b hb hlv
    by_cases hn : b = h.next
    · subst hn; exact ⟨_, Ren.put_self _ _ _⟩
    · rw [push_get_ne _ _ hn] at hlv
      obtain ⟨x, hx⟩ := hr.tot b (by simp [Heap.push] at hb; omega) hlv
      exact ⟨x, hle _ _ hx⟩
  · intro b x cs' esz' g' ro' hx hb
    have hn : b ≠ h.next := by rintro rfl; rw [push_get_self] at hb; cases hb
    have hx' := old b x hn hx
    rw [push_get_ne _ _ hn] at hb
    obtain ⟨h1, h2, h3, h4, Cs', ty', fz', h5, h6, h7, h8⟩ := hr.cells b x cs' esz' g' ro' hx' hb
    refine ⟨h1, h2, h3, h4, Cs', ty', fz', alloc_old w _ h5, h6, fun i v hv => ?_, fun k => ⟨(h8 k).1, fun i hi => ?_⟩⟩
    · obtain ⟨v', k1, k2⟩ := h7 i v hv
      exact ⟨v', k1, k2.mono hle⟩
    · rw [frozen_block (w := w)]
      · exact (h8 k).2 i hi
      · exact (alloc_old w _ h5).trans h5.symm
  · intro b x es hx hb
    by_cases hn : b = h.next
    · subst hn
      rw [Ren.put_self] at hx; cases hx
      rw [push_get_self] at hb; cases hb
      exact ⟨hr.base_le, #[], 0, by simp, rfl, fun i e k v he => by simp at he⟩
    · have hx' := old b x hn hx
      rw [push_get_ne _ _ hn] at hb
      obtain ⟨h0, Es, clock, h1, h2, h3⟩ := hr.maps b x es hx' hb
      exact ⟨h0, Es, clock, alloc_old w _ h1, h2, fun i e k v he hkv => ⟨(h3 i e k v he hkv).1.mono hle, (h3 i e k v he hkv).2.mono hle⟩⟩
  · intro b b' x x' hx hx' hne hl1 hl2 hw1
    by_cases hb : b = h.next
    · subst hb
      have hb' : b' ≠ h.next := Ne.symm hne
      rw [Ren.put_self] at hx; cases hx
      rw [push_get_ne _ _ hb'] at hl2
      have := hr.ltl b' x' (old b' x' hb' hx') hl2
      show w.heap.size ≠ x'.c
      omega
    · rw [push_get_ne _ _ hb] at hl1 hw1
      by_cases hb' : b' = h.next
      · subst hb'
        rw [Ren.put_self] at hx'; cases hx'
        have := hr.ltl b x (old b x hb hx) hl1
        show x.c ≠ w.heap.size
        omega
      · rw [push_get_ne _ _ hb'] at hl2
        exact hr.sep b b' x x' (old b x hb hx) (old b' x' hb' hx') hne hl1 hl2 hw1
  · intro g hg
    obtain ⟨x, hx, h1, h2⟩ := hr.globs g hg
    exact ⟨x, hle _ _ hx, h1, h2⟩
theorem RH.mapSet (hr : RH P base r h w) {b : Nat} {x : RB} {es es' : List (Value × Value)} (hx : r b = some x) (hb : h.get b = .map es) (Es' : Array MapEntry) (clock' : Nat) (hl : Es'.size = es'.length)
    (hes : ∀ (i : Nat) (e : MapEntry) k v, Es'[i]? = some e → es'[i]? = some (k, v) → RV r k e.key ∧ RV r v e.val) :
    RH P base r (h.set b (.map es')) { w with heap := w.heap.setIfInBounds x.c (.map Es' clock') } := by
  obtain ⟨h0, Es, clock, h1, h2, h3⟩ := hr.maps b x es hx hb
  have hlt : x.c < w.heap.size := (Array.getElem?_eq_some_iff.1 h1).1
  have other : ∀ n y, r n = some y → n ≠ b → (h.get n).live = true → y.c ≠ x.c := fun n y hy hn hlv => (hr.sep b n x y hx hy (Ne.symm hn) (by rw [hb]; rfl) hlv (by rw [hb]; rfl)).symm
  have at_ne : ∀ k, k ≠ x.c → (w.heap.setIfInBounds x.c (.map Es' clock'))[k]? = w.heap[k]? := fun k hk => by rw [Array.getElem?_setIfInBounds, if_neg (Ne.symm hk)]
  have lv : ∀ n, ((h.set b (.map es')).get n).live = (h.get n).live := fun n => by
    by_cases hn : n = b
    · subst hn; rw [set_get_self, hb]; rfl
    · rw [set_get_ne _ _ hn]
  have wr : ∀ n, ((h.set b (.map es')).get n).writable = (h.get n).writable := fun n => by
    by_cases hn : n = b
    · subst hn; rw [set_get_self, hb]; rfl
    · rw [set_get_ne _ _ hn]
  refine ⟨by simpa using hr.base_le, hr.dom, fun n hn hlv => hr.tot n hn (by rw [← lv]; exact hlv), fun n y ds e g' ro' hy hn => ?_, fun n y ds hy hn => ?_, fun n n' y y' hy hy' hne k1 k2 k3 => ?_, hr.globs⟩
  · have hnb : n ≠ b := by rintro rfl; rw [set_get_self] at hn; cases hn
    rw [set_get_ne _ _ hnb] at hn
    obtain ⟨k1, k2, k3, k4, Cs1, ty1, fz1, k5, k6, k7, k8⟩ := hr.cells n y ds e g' ro' hy hn
    have hne := other n y hy hnb (by rw [hn]; rfl)
    refine ⟨k1, k2, k3, k4, Cs1, ty1, fz1, (at_ne _ hne).trans k5, k6, k7, fun k => ⟨(k8 k).1, fun i hi => ?_⟩⟩
    rw [frozen_block (w := w) (at_ne _ hne)]
    exact (k8 k).2 i hi
  · by_cases hnb : n = b
    · subst hnb
      rw [set_get_self] at hn; cases hn
      rw [hx] at hy; cases hy
      exact ⟨h0, Es', clock', by rw [Array.getElem?_setIfInBounds, if_pos rfl, if_pos hlt], hl, hes⟩
    · rw [set_get_ne _ _ hnb] at hn
      obtain ⟨k0, Es1, cl, k1, k2⟩ := hr.maps n y ds hy hn
      exact ⟨k0, Es1, cl, (at_ne _ (other n y hy hnb (by rw [hn]; rfl))).trans k1, k2⟩
  · rw [lv] at k1 k2; rw [wr] at k3
    exact hr.sep n n' y y' hy hy' hne k1 k2 k3
end
end Go.Proofs.YtlihmncbhaimkaaDoor.Am
/- Operations of the abstract machine are those of the model: loads, stores, new variables, parts, places. -/
namespace Go.Proofs.YtlihmncbhaimkaaDoor.Am
open Go Go.RowKit

section
variable {P : Program} {base : Nat} {r : Ren} {h h' : Heap} {w : World}
theorem RV.isOne {v v' : Value} (k : RV r v v') : isOne v = v'.oneCell' := by cases k <;> rfl
theorem isOne_cells {v : Value} (k : Am.isOne v = true) : v.cells = #[v] := by cases v <;> first | rfl | (simp [Am.isOne] at k)
theorem oneCell_cells {v : Value} (k : v.oneCell' = true) : v.cells = #[v] := by cases v <;> first | rfl | (simp [Value.oneCell'] at k)
theorem RV.agg_inv' {l : List Value} {v : Value} (k : RV r (.agg l.toArray) v) : ∃ ys, v = .agg ys ∧ RL r l ys.toList := by
  obtain ⟨ys, e, hl⟩ := RV.agg_inv k
  exact ⟨ys, e, by simpa using hl⟩

/-! ### Types -/
theorem info_of_under {t : TypeId} {d : TypeDesc} (k : P.underlying t = some d) : ∃ i, P.info? t = some i := by
  unfold Program.underlying at k
  split at k
  · rename_i hi; exact ⟨_, hi⟩
  · rename_i i hi; exact ⟨_, hi⟩
  · cases k
theorem run_under {t : TypeId} {d : TypeDesc} (k : P.underlying t = some d) (w : World) : (underlying t).run P w = .ok d w := by simp [underlying, k]
theorem run_typeInfo {t : TypeId} {i : TypeInfo} (k : P.info? t = some i) (w : World) : (typeInfo t).run P w = .ok i w := by simp [typeInfo, k]
theorem run_sz {t : TypeId} {d : TypeDesc} (k : P.underlying t = some d) (w : World) : (sizeOf t).run P w = .ok (sz P t) w := by
  obtain ⟨i, hi⟩ := info_of_under k
  simp [sizeOf, typeInfo, hi, sz, Program.cellsOf]
theorem run_sz' {t : TypeId} {i : TypeInfo} (hi : P.info? t = some i) (w : World) : (sizeOf t).run P w = .ok (sz P t) w := by
  simp [sizeOf, typeInfo, hi, sz, Program.cellsOf]
theorem run_agg {t : TypeId} {g : Bool} (k : aggT P t = some g) (w : World) : (isAgg t).run P w = .ok g w := by
  unfold aggT at k
  cases hu : P.underlying t with
  | none => rw [hu] at k; cases k
  | some d =>
    rw [hu] at k
    cases k
    simp only [isAgg, Sem.run_bind, run_under hu, Result.andThen_ok]
    cases d <;> rfl
theorem aggT_under {t : TypeId} {g : Bool} (k : aggT P t = some g) : ∃ d, P.underlying t = some d := by
  unfold aggT at k
  cases hu : P.underlying t with
  | none => rw [hu] at k; cases k
  | some d => exact ⟨d, rfl⟩
theorem zeroV_run {t : TypeId} {z : Value} (k : zeroV P t = some z) (w : World) : (zeroValue t).run P w = .ok z w ∧ closedV 3 z = true := by
  unfold zeroV at k
  cases hi : P.info? t with
  | none => rw [hi] at k; cases k
  | some i =>
    rw [hi] at k
    cases hz : i.zero with
    | none => simp [hz] at k
    | some v =>
      simp only [Option.bind_some, hz] at k
      split at k
      · rename_i hc; cases k; exact ⟨by simp [zeroValue, typeInfo, hi, hz], hc⟩
      · cases k

/-! ### Reading -/
theorem addr_add (c o n : Nat) : (⟨c, o, none⟩ : Addr).add n = ⟨c, o + n, none⟩ := by unfold Addr.add; split <;> simp_all
theorem cell_at {w : World} {c o : Nat} {Cs : Array Value} {ty : TypeId} {fz : Nat × Nat} (k : w.heap[c]? = some (.cells Cs ty fz)) : w.cell? ⟨c, o, none⟩ = Cs[o]? := by simp [World.cell?, k]
/-- The model's cells from a place on. -/
theorem RH.read (hr : RH P base r h w) {b : Nat} {x : RB} (hx : r b = some x) {i n : Nat} {l : List Value} (k : loadC h b i n = some l) :
    ∃ l', l'.length = n ∧ RL r l l' ∧ ∀ (j : Nat) v, l'[j]? = some v → w.cell? ⟨x.c, x.o + i + j, none⟩ = some v := by
  unfold loadC at k
  split at k
  · rename_i cs esz g ro hb
    obtain ⟨h1, h2, h3, h4, Cs, ty, fz, h5, h6, h7, h8⟩ := hr.cells b x cs esz g ro hx hb
    unfold rdCells at k
    split at k
    · rename_i hle
      cases k
      refine ⟨(Cs.toList.drop (x.o + i)).take n, by simp; omega, ⟨by simp; omega, fun j v v' hv hv' => ?_⟩, fun j v hv => ?_⟩
      · rw [List.getElem?_take] at hv hv'
        split at hv
        · rename_i hj
          rw [if_pos hj, List.getElem?_drop] at hv'
          rw [List.getElem?_drop] at hv
          obtain ⟨u, hu, hru⟩ := h7 _ _ hv
          rw [Array.getElem?_toList, Nat.add_assoc, hu] at hv'
          cases hv'
          exact hru
        · cases hv
      · rw [List.getElem?_take] at hv
        split at hv
        · rw [List.getElem?_drop, Array.getElem?_toList] at hv
          rw [cell_at h5, hv]
        · cases hv
    · cases k
  · cases k
theorem loadCells_run {c o n : Nat} {l : List Value} (hl : l.length = n) (k : ∀ (j : Nat) v, l[j]? = some v → w.cell? ⟨c, o + j, none⟩ = some v) : (loadCells ⟨c, o, none⟩ n).run P w = .ok l.toArray w := by
  subst hl
  exact run_loadCells_list w _ l fun j v hv => by rw [addr_add]; exact k j v hv
theorem load1_sim (hr : RH P base r h w) {b i : Nat} {x : RB} {v : Value} (hx : r b = some x) (k : load1 h b i = some v) : ∃ v', w.cell? ⟨x.c, x.o + i, none⟩ = some v' ∧ RV r v v' := by
  unfold load1 at k
  split at k
  · rename_i cs esz g ro hb
    obtain ⟨h1, h2, h3, h4, Cs, ty, fz, h5, h6, h7, h8⟩ := hr.cells b x cs esz g ro hx hb
    obtain ⟨v', h9, h10⟩ := h7 i v k
    exact ⟨v', by rw [cell_at h5]; exact h9, h10⟩
  · cases k
theorem loadA_sim (hr : RH P base r h w) {t : TypeId} {p p' v : Value} (hp : RV r p p') (k : loadA P t h p = some v) : ∃ v', (Instr.loadAt t p').run P w = .ok v' w ∧ RV r v v' := by
  unfold loadA at k
  split at k
  · rename_i b i
    cases hp with
    | ptr _ _ x hx =>
      cases hg : aggT P t with
      | none => rw [hg] at k; cases k
      | some g =>
        rw [hg] at k
        simp only [Option.bind_some] at k
        obtain ⟨d, hd⟩ := aggT_under hg
        simp only [Instr.loadAt, Instr.sureAddr, loadVar, Sem.run_bind, Sem.run_pure, Result.andThen_ok, run_agg hg, Sem.run_ite, run_sz hd]
        cases g with
        | true =>
          simp only [if_true] at k ⊢
          cases hl : loadC h b i (sz P t) with
          | none => rw [hl] at k; cases k
          | some l =>
            rw [hl] at k
            cases k
            obtain ⟨l', e1, e2, e3⟩ := hr.read hx hl
            rw [loadCells_run e1 e3]
            exact ⟨_, rfl, RV.of_agg e2⟩
        | false =>
          simp only [if_false, Bool.false_eq_true] at k ⊢
          obtain ⟨v', e1, e2⟩ := load1_sim hr hx k
          refine ⟨v', ?_, e2⟩
          rw [run_load, e1]
  · cases k

/-! ### The cells of a value -/
theorem flatT_sim {t : TypeId} {v v' : Value} {cs : List Value} (hv : RV r v v') (k : flatT P t v = some cs) : RL r cs v'.cells.toList ∧ v'.cells.size = sz P t ∧ (∃ d, P.underlying t = some d) := by
  unfold flatT at k
  cases hg : aggT P t with
  | none => rw [hg] at k; cases k
  | some g =>
    rw [hg] at k
    simp only [Option.bind_some] at k
    cases g with
    | true =>
      simp only [if_true] at k
      split at k
      · rename_i xs
        split at k
        · rename_i hs
          cases k
          obtain ⟨ys, e, hl⟩ := RV.agg_inv hv
          subst e
          exact ⟨hl, by rw [← hs]; simpa [Value.cells] using hl.1.symm, aggT_under hg⟩
        · cases k
      · cases k
    | false =>
      simp only [if_false, Bool.false_eq_true] at k
      split at k
      · rename_i h1
        cases k
        have := h1.1
        rw [hv.isOne] at this
        rw [oneCell_cells this]
        exact ⟨RL.cons hv (RL.nil r), by simp [h1.2], aggT_under hg⟩
      · cases k
theorem RL.ones {l l' : List Value} (k : RL r l l') (h1 : l.all Am.isOne = true) : ∀ v ∈ l', v.oneCell' = true := fun v hv => by
  obtain ⟨i, hi⟩ := List.mem_iff_getElem?.1 hv
  have hlt : i < l.length := by have := (List.getElem?_eq_some_iff.1 hi).1; rw [k.1]; exact this
  have := k.2 i l[i] v (by simp [hlt]) hi
  rw [← this.isOne]
  exact List.all_eq_true.1 h1 _ (List.getElem_mem hlt)

/-! ### Steps -/
/-- The model's blocks that stand for living ones. -/
def Img (r : Ren) (h : Heap) (k : Nat) : Prop := ∃ b x, r b = some x ∧ (h.get b).live = true ∧ x.c = k
/-- What a step leaves alone. -/
structure Fr (r : Ren) (h : Heap) (w : World) (r' : Ren) (h' : Heap) (w' : World) : Prop where
  size : w.heap.size ≤ w'.heap.size
  keep : ∀ k, k < w.heap.size → ¬Img r h k → w'.heap[k]? = w.heap[k]?
  img : ∀ k, Img r' h' k → Img r h k ∨ w.heap.size ≤ k
  nx : h.next ≤ h'.next
  old : ∀ b, b < h.next → (h'.get b).live = true → (h.get b).live = true
  new : ∀ b x, r' b = some x → r b = some x ∨ h.next ≤ b
theorem Fr.refl (r : Ren) (h : Heap) (w : World) : Fr r h w r h w := ⟨Nat.le_refl _, fun _ _ _ => rfl, fun _ h => .inl h, Nat.le_refl _, fun _ _ h => h, fun _ _ h => .inl h⟩
theorem Fr.trans {r r1 r2 : Ren} {w w1 w2 : World} {h h1 h2 : Heap} (a : Fr r h w r1 h1 w1) (b : Fr r1 h1 w1 r2 h2 w2) : Fr r h w r2 h2 w2 where
  size := Nat.le_trans a.size b.size
  keep := fun k hk hn => by
    have hs := a.size
    rw [b.keep k (by omega) (fun hi => by
      rcases a.img k hi with h1 | h1
      · exact hn h1
      · omega), a.keep k hk hn]
  img := fun k hi => by
    have hs := a.size
    rcases b.img k hi with h1 | h1
    · exact a.img k h1
    · exact .inr (by omega)
  nx := Nat.le_trans a.nx b.nx
  old := fun n hn hl => a.old n hn (b.old n (Nat.lt_of_lt_of_le hn a.nx) hl)
  new := fun n x hx => by
    have := a.nx
    rcases b.new n x hx with h1 | h1
    · exact a.new n x h1
    · exact .inr (by omega)
structure Step (P : Program) (base : Nat) (r : Ren) (h : Heap) (w : World) (r' : Ren) (h' : Heap) (w' : World) : Prop where
  le : Ren.le r r'
  rh : RH P base r' h' w'
  below : Below base w w'
  fr : Fr r h w r' h' w'
theorem Step.refl (hr : RH P base r h w) : Step P base r h w r h w := ⟨Ren.le.refl r, hr, Below.refl _ _, Fr.refl _ _ _⟩
theorem Step.trans {r1 r2 : Ren} {w1 w2 : World} {h1 h2 : Heap} (a : Step P base r h w r1 h1 w1) (b : Step P base r1 h1 w1 r2 h2 w2) : Step P base r h w r2 h2 w2 :=
  ⟨a.le.trans b.le, b.rh, a.below.trans b.below, a.fr.trans b.fr⟩
theorem fr_push {w' : World} {o : Obj} {x : RB} {blk : Blk} {h0 : Heap} {m : Nat} (e : w'.heap = w.heap.push o) (hm : h0.next = m) (hn : m = h.next) (hx : x.c = w.heap.size) (hw : ∀ b, (h0.get b).live = true → (h.get b).live = true) :
    Fr r h w (r.put m x) (h0.push blk) w' := by
  subst hm
  have e2 : ∀ b, b ≠ h0.next → (h0.push blk).get b = h0.get b := fun b hb => by
    show (if b = h0.next then blk else h0.get b) = _
    rw [if_neg hb]
  have e1 : ∀ b y, b ≠ h0.next → (r.put h0.next x) b = some y → r b = some y := fun b y hb h1 => by
    unfold Ren.put at h1
    rwa [if_neg hb] at h1
  refine ⟨by rw [e]; simp, fun k hk _ => by rw [e, Array.getElem?_push, if_neg (by omega)], ?_, ?_, fun b hb hl => ?_, fun b y hy => ?_⟩
  · rintro k ⟨b, y, h1, h2, rfl⟩
    by_cases hb : b = h0.next
    · subst hb
      rw [Ren.put_self] at h1
      cases h1
      exact .inr (by omega)
    · rw [e2 b hb] at h2
      exact .inl ⟨b, y, e1 b y hb h1, hw b h2, rfl⟩
  · show h.next ≤ h0.next + 1
    omega
  · rw [e2 b (by omega)] at hl
    exact hw b hl
  · by_cases hb : b = h0.next
    · exact .inr (by omega)
    · exact .inl (e1 b y hb hy)
theorem fr_set {b : Nat} {x : RB} {blk : Blk} (hx : r b = some x) (hw : (h.get b).live = true) (cs : Array Value) : Fr r h w r (h.set b blk) (w.setRow x.c cs) := by
  have e2 : ∀ n, n ≠ b → (h.set b blk).get n = h.get n := fun n hn => by
    show (if n = b then blk else h.get n) = _
    rw [if_neg hn]
  refine ⟨by rw [setRow_size]; exact Nat.le_refl _, fun k _ hn => setRow_other _ _ _ _ (fun e => hn ⟨b, x, hx, hw, e.symm⟩), ?_, Nat.le_refl _, fun n _ hl => ?_, fun _ _ h => .inl h⟩
  · rintro k ⟨n, y, h1, h2, rfl⟩
    by_cases hn : n = b
    · subst hn; exact .inl ⟨n, y, h1, hw, rfl⟩
    · rw [e2 n hn] at h2; exact .inl ⟨n, y, h1, h2, rfl⟩
  · by_cases hn : n = b
    · subst hn; exact hw
    · rwa [e2 n hn] at hl
theorem kill_live {b : Nat} : ∀ n, ((h.kill b).get n).live = true → (h.get n).live = true := fun n hw => by
  have e : (h.kill b).get n = if n = b then .dead else h.get n := rfl
  rw [e] at hw
  split at hw
  · cases hw
  · exact hw
theorem fr_grow {b : Nat} {x y : RB} {blk : Blk} (hx : r b = some x) (hw : (h.get b).live = true) (hy : y.c = x.c) (cs : Array Value) : Fr r h w (r.put h.next y) ((h.kill b).push blk) (w.setRow x.c cs) := by
  have e2 : ∀ n, n ≠ h.next → ((h.kill b).push blk).get n = (h.kill b).get n := fun n hn => by
    show (if n = h.next then blk else (h.kill b).get n) = _
    rw [if_neg hn]
  have e1 : ∀ n z, n ≠ h.next → (r.put h.next y) n = some z → r n = some z := fun n z hn h1 => by
    unfold Ren.put at h1
    rwa [if_neg hn] at h1
  refine ⟨by rw [setRow_size]; exact Nat.le_refl _, fun k _ hn => setRow_other _ _ _ _ (fun e => hn ⟨b, x, hx, hw, e.symm⟩), ?_, ?_, fun n hn hl => ?_, fun n z hz => ?_⟩
  · rintro k ⟨n, z, h1, h2, rfl⟩
    by_cases hn : n = h.next
    · subst hn
      rw [Ren.put_self] at h1
      cases h1
      exact .inl ⟨b, x, hx, hw, hy.symm⟩
    · rw [e2 n hn] at h2
      exact .inl ⟨n, z, e1 n z hn h1, kill_live n h2, rfl⟩
  · show h.next ≤ h.next + 1
    omega
  · rw [e2 n (by omega)] at hl
    exact kill_live n hl
  · by_cases hn : n = h.next
    · exact .inr (by omega)
    · exact .inl (e1 n z hn hz)
theorem below_push (hb : base ≤ w.heap.size) (o : Obj) : Below base w { w with heap := w.heap.push o } := (Below.refl base w).alloc hb o
theorem below_setRow {c : Nat} (hb : base ≤ c) (cs : Array Value) : Below base w (w.setRow c cs) := ⟨rfl, rfl, rfl, by simp, fun k hk => setRow_other _ _ _ _ (by omega)⟩
theorem below_drawn : Below base w { w with drawn := w.drawn + 1 } := ⟨rfl, rfl, rfl, Nat.le_refl _, fun _ _ => rfl⟩

/-! ### Stores -/
theorem storeC_sim (hr : RH P base r h w) {b i : Nat} {x : RB} (hx : r b = some x) {vs vs' : List Value} (hv : RL r vs vs') (k : storeC h b i vs = some h') (f : Nat) (hf : x.o + i = f) :
    ∃ w', (storeCells ⟨x.c, f, none⟩ vs').run P w = .ok () w' ∧ Step P base r h w r h' w' := by
  subst hf
  unfold storeC at k
  split at k
  · rename_i cs esz g ro hb
    split at k
    · cases k
    · rename_i hro
      have : ro = false := by simpa using hro
      subst this
      split at k
      · rename_i hle
        split at k
        · rename_i hone
          cases k
          obtain ⟨h1, h2, h3, h4, Cs, ty, fz, h5, h6, h7, h8⟩ := hr.cells b x cs esz g false hx hb
          have hlen := hv.1
          have hstore := run_storeCells_free P x.c (x.o + i) ty fz vs' 0 Cs w h5 (unfrozen_of h5 (h8 rfl).2) (by omega) (hv.ones hone)
          refine ⟨_, hstore, Ren.le.refl r, hr.write hx hb h5 (by simp [wrCells_length]) (wrCells_length _ _ _) (fun j v hj => ?_), below_setRow (h8 rfl).1 _, fr_set hx (by rw [hb]; rfl) _⟩
          rw [wrCells_get _ _ _ _ hle] at hj
          rw [List.getElem?_toArray, wrCells_get _ _ _ _ (by simp; omega)]
          by_cases hin : i ≤ j ∧ j < i + vs.length
          · rw [if_pos hin] at hj
            rw [if_pos (by omega)]
            obtain ⟨v', e1, e2⟩ := hv.get hj
            exact ⟨v', by rw [← e1]; congr 1; omega, e2⟩
          · rw [if_neg hin] at hj
            rw [if_neg (by omega)]
            obtain ⟨v', e1, e2⟩ := h7 j v hj
            exact ⟨v', by simpa using e1, e2⟩
        · cases k
      · cases k
  · cases k
theorem storeA_sim (hr : RH P base r h w) {t : TypeId} {p p' v v' : Value} (hp : RV r p p') (hv : RV r v v') (k : storeA P t h p v = some h') :
    ∃ w', (Instr.storeAt t p' v').run P w = .ok () w' ∧ Step P base r h w r h' w' := by
  unfold storeA at k
  split at k
  · rename_i b i
    cases hp with
    | ptr _ _ x hx =>
      cases hf : flatT P t v with
      | none => rw [hf] at k; cases k
      | some cs =>
        rw [hf] at k
        obtain ⟨e1, e2, d, hd⟩ := flatT_sim hv hf
        obtain ⟨w', e3, e4⟩ := storeC_sim hr hx e1 k _ rfl
        refine ⟨w', ?_, e4⟩
        simp only [Instr.storeAt, Instr.sureAddr, storeVar, Sem.run_bind, Sem.run_pure, Result.andThen_ok, run_sz hd, e2, ne_eq, not_true_eq_false, if_false]
        exact e3
  · cases k

/-! ### New variables -/
theorem newRow_run (t : TypeId) (Cs : Array Value) (w : World) : (newRow t Cs).run P w = .ok ⟨w.heap.size, 0, none⟩ { w with heap := w.heap.push (.cells Cs t) } := by simp [newRow]
theorem newRow_sim (hr : RH P base r h w) (t : TypeId) {cs : List Value} {Cs : Array Value} (hc : RL r cs Cs.toList) (esz : Nat) (grow : Bool) :
    ∃ w', (newRow t Cs).run P w = .ok ⟨w.heap.size, 0, none⟩ w' ∧ Step P base r h w (r.put h.next ⟨w.heap.size, 0, Cs.size, esz, cs.length, grow⟩) (h.push (.cells cs esz grow false)) w' := by
  refine ⟨{ w with heap := w.heap.push (.cells Cs t) }, by simp [newRow], Ren.le_put hr.none_next _, ?_, below_push hr.base_le _, fr_push rfl rfl rfl rfl fun _ h => h⟩
  have hlen := hc.1
  refine hr.new esz grow t (by simp at hlen; omega) (fun i v hv => ?_) (fun i hi => by simp)
  obtain ⟨v', e1, e2⟩ := hc.get hv
  exact ⟨v', by simpa using e1, e2⟩
theorem newA_sim (hr : RH P base r h w) (t : TypeId) {v' : Value} {cs : List Value} (hc : RL r cs v'.cells.toList) :
    ∃ r' w' u', (newVar t v').run P w = .ok u' w' ∧ RV r' (newA P t h cs).1 (.pointer (some u')) ∧ Step P base r h w r' (newA P t h cs).2 w' := by
  obtain ⟨w', e1, e2⟩ := newRow_sim hr t hc (sz P t) false
  refine ⟨_, w', _, e1, ?_, e2⟩
  exact .ptr h.next 0 _ (Ren.put_self _ _ _)
end
end Go.Proofs.YtlihmncbhaimkaaDoor.Am
/- Operations of the abstract machine are those of the model: building, parts, places, cuts. -/
namespace Go.Proofs.YtlihmncbhaimkaaDoor.Am
open Go Go.RowKit

section
variable {P : Program} {base : Nat} {r : Ren} {h h' : Heap} {w : World}

/-! ### Building -/
/-- Parts that are related: the same places, related values. -/
def RP (r : Ren) (ps : List (Nat × Value)) (qs : List (Nat × Value)) : Prop := ps.map (·.1) = qs.map (·.1) ∧ RL r (ps.map (·.2)) (qs.map (·.2))
theorem RP.cons_inv {p : Nat × Value} {ps qs : List (Nat × Value)} (k : RP r (p :: ps) qs) : ∃ q qs', qs = q :: qs' ∧ q.1 = p.1 ∧ RV r p.2 q.2 ∧ RP r ps qs' := by
  cases qs with
  | nil => have := k.1; simp at this
  | cons q qs' =>
    have h1 := k.1
    simp only [List.map_cons, List.cons.injEq] at h1
    exact ⟨q, qs', rfl, h1.1.symm, k.2.head, h1.2, k.2.tail⟩
theorem fold_wr (u : List Value) : ∀ (cs : Array Value) (off : Nat), (u.zipIdx.foldl (fun (cs : Array Value) (c, j) => cs.setIfInBounds (off + j) c) cs).toList = wrCells cs.toList off u := by
  have key : ∀ (u : List Value) (cs : Array Value) (off n : Nat), ((u.zipIdx n).foldl (fun (cs : Array Value) (c, j) => cs.setIfInBounds (off + j) c) cs).toList = wrCells cs.toList (off + n) u := by
    intro u
    induction u with
    | nil => intro cs off n; rfl
    | cons v u ih =>
      intro cs off n
      simp only [List.zipIdx_cons, List.foldl_cons, wrCells]
      rw [ih]
      simp [Nat.add_assoc]
  intro cs off
  exact key u cs off 0
theorem RL.wr {cs cs' vs vs' : List Value} (hc : RL r cs cs') (hv : RL r vs vs') (i : Nat) : RL r (wrCells cs i vs) (wrCells cs' i vs') := by
  induction vs generalizing cs cs' vs' i with
  | nil => obtain rfl := hv.nil_inv; exact hc
  | cons v vs ih =>
    obtain ⟨v', l', rfl, h1, h2⟩ := hv.cons_inv
    exact ih (hc.set i h1) h2 (i + 1)
theorem fillA_sim {place : Nat → Option (Nat × TypeId)} {place' : Nat → Option (Nat × Nat)} (hp : ∀ i o t, place i = some (o, t) → place' i = some (o, sz P t)) : ∀ (ps qs : List (Nat × Value)) (cs cs2 : List Value) (Cs : Array Value),
    RP r ps qs → RL r cs Cs.toList → fillA P place cs ps = some cs2 → ∃ Cs2, Instr.fill place' Cs qs = some Cs2 ∧ RL r cs2 Cs2.toList
  | [], qs, cs, cs2, Cs, h1, h2, k => by
    have : qs = [] := by have := h1.1; simpa using this.symm
    subst this
    simp only [fillA] at k
    cases k
    exact ⟨Cs, rfl, h2⟩
  | p :: ps, qs, cs, cs2, Cs, h1, h2, k => by
    obtain ⟨q, qs', rfl, e1, e2, e3⟩ := h1.cons_inv
    obtain ⟨i, v⟩ := p
    obtain ⟨i', v'⟩ := q
    simp only at e1 e2
    subst e1
    simp only [fillA] at k
    cases hpl : place i' with
    | none => simp [hpl] at k
    | some ot =>
      obtain ⟨off, t⟩ := ot
      simp only [hpl] at k
      cases hf : flatT P t v with
      | none => rw [hf] at k; cases k
      | some vs =>
        rw [hf] at k
        simp only [Option.bind_some] at k
        split at k
        · rename_i hsz
          split at k
          · rename_i hle
            obtain ⟨f1, f2, _⟩ := flatT_sim e2 hf
            have hlen := f1.1
            have hlen2 := h2.1
            simp only [Array.length_toList] at hlen hlen2
            have hsize : v'.cells.size = sz P t := f2
            have hcond : (decide (v'.cells.size ≠ sz P t) || decide (off + v'.cells.size > Cs.size)) = false := by
              simp only [Bool.or_eq_false_iff, decide_eq_false_iff_not]
              omega
            obtain ⟨Cs2, g1, g2⟩ := fillA_sim hp ps qs' _ cs2 (v'.cells.zipIdx.foldl (fun cs (c, j) => cs.setIfInBounds (off + j) c) Cs) e3 (by
              rw [← Array.foldl_toList, Array.toList_zipIdx, fold_wr]
              exact h2.wr f1 off) k
            refine ⟨Cs2, ?_, g2⟩
            simp only [Instr.fill, hp _ _ _ hpl, hcond, Bool.false_eq_true, if_false]
            exact g1
          · cases k
        · cases k
theorem zeroT_run {t : TypeId} {z : List Value} (k : zeroT P t = some z) (w : World) : ∃ zv, (zeroValue t).run P w = .ok zv w ∧ z = zv.cells.toList ∧ RL r z zv.cells.toList := by
  unfold zeroT at k
  cases hz : zeroV P t with
  | none => rw [hz] at k; cases k
  | some zv =>
    rw [hz] at k
    cases k
    obtain ⟨h1, h2⟩ := zeroV_run hz w
    exact ⟨zv, h1, rfl, RL.closed h2⟩
theorem run_mapM_arr {α β : Type} (f : α → Sem β) (g : α → β) (w : World) : ∀ (l : List α), (∀ x ∈ l, (f x).run P w = .ok (g x) w) → (l.mapM f).run P w = .ok (l.map g) w
  | [], _ => by simp
  | x :: l, hx => by
    have ih := run_mapM_arr f g w l (fun y hy => hx y (by simp [hy]))
    simp only [List.mapM_cons, Sem.run_bind, hx x (by simp), Result.andThen_ok, ih, Sem.run_pure, List.map_cons]
theorem buildA_sim {t : TypeId} {ps qs : Array (Nat × Value)} {v : Value} (hps : RP r ps.toList qs.toList) (k : buildA P t ps.toList = some v) :
    ∃ v', (Instr.build t qs).run P w = .ok v' w ∧ RV r v v' := by
  unfold buildA at k
  cases hz : zeroT P t with
  | none => rw [hz] at k; cases k
  | some z =>
    rw [hz] at k
    simp only [Option.bind_some] at k
    obtain ⟨zv, z1, z2, z3⟩ := zeroT_run (r := r) hz w
    split at k
    · rename_i fs hu
      split at k
      case isFalse => cases k
      rename_i hinfo
      rw [List.all_eq_true] at hinfo
      cases hf : fillA P (fun i => (fs[i]?).map fun f => (f.offset, f.type)) z ps.toList with
      | none => rw [hf] at k; cases k
      | some cs =>
        rw [hf] at k
        cases k
        have hplace : ∀ (i : Nat) (o : Nat) (t' : TypeId), ((fs[i]?).map fun f : Field => (f.offset, f.type)) = some (o, t') → (fs.map fun f : Field => (f.offset, sz P f.type))[i]? = some (o, sz P t') := fun i o t' e => by
          cases hfi : fs[i]? with
          | none => rw [hfi] at e; cases e
          | some f => rw [hfi] at e; cases e; simp [hfi]
        obtain ⟨Cs2, g1, g2⟩ := fillA_sim (place' := fun i => (fs.map fun f : Field => (f.offset, sz P f.type))[i]?) hplace ps.toList qs.toList z cs zv.cells hps z3 hf
        refine ⟨.agg Cs2, ?_, RV.agg _ _ (by simpa using g2.1) fun i u u' hu' hu2 => g2.2 i u u' (by simpa using hu') (by simpa using hu2)⟩
        have hmap : (fs.mapM fun f : Field => (do pure (f.offset, ← sizeOf f.type) : Sem (Nat × Nat))).run P w = .ok (fs.map fun f : Field => (f.offset, sz P f.type)) w := by
          rw [Array.mapM_eq_mapM_toList, Sem.run_map, run_mapM_arr (g := fun f : Field => (f.offset, sz P f.type)) _ w fs.toList (fun f hfm => by
            obtain ⟨i, hi⟩ := Option.isSome_iff_exists.1 (hinfo f hfm)
            simp [run_sz' hi])]
          simp only [Result.andThen_ok]
          congr 1
          apply Array.ext'
          simp
        simp only [Instr.build, Sem.run_bind, z1, Result.andThen_ok, run_under hu, hmap]
        rw [g1]
        rfl
    · rename_i n e hu
      split at k
      case isFalse => cases k
      rename_i hinfo
      obtain ⟨ie, hie⟩ := Option.isSome_iff_exists.1 hinfo
      cases hf : fillA P (fun i => some (i * sz P e, e)) z ps.toList with
      | none => rw [hf] at k; cases k
      | some cs =>
        rw [hf] at k
        cases k
        obtain ⟨Cs2, g1, g2⟩ := fillA_sim (place' := fun i => some (i * sz P e, sz P e)) (fun i o t' e => by cases e; rfl) ps.toList qs.toList z cs zv.cells hps z3 hf
        refine ⟨.agg Cs2, ?_, RV.agg _ _ (by simpa using g2.1) fun i u u' hu' hu2 => g2.2 i u u' (by simpa using hu') (by simpa using hu2)⟩
        simp only [Instr.build, Sem.run_bind, z1, Result.andThen_ok, run_under hu, run_sz' hie]
        rw [g1]
        rfl
    · cases k

theorem reps_length (n : Nat) (z : List Value) : (reps n z).length = n * z.length := by
  unfold reps
  induction n with
  | zero => simp
  | succ n ih => rw [List.replicate_succ, List.flatten_cons, List.length_append, ih, Nat.succ_mul]; omega
theorem reps_succ (n : Nat) (z : List Value) : reps (n + 1) z = z ++ reps n z := by simp [reps, List.replicate_succ]
theorem reps_get (z : List Value) (hz : 0 < z.length) : ∀ (n i : Nat), i < n * z.length → (reps n z)[i]? = z[i % z.length]?
  | 0, i, hi => by simp at hi
  | n + 1, i, hi => by
    rw [reps_succ, List.getElem?_append]
    split
    · rename_i h; rw [Nat.mod_eq_of_lt h]
    · rename_i h
      rw [reps_get z hz n _ (by rw [Nat.succ_mul] at hi; omega), ← Nat.mod_eq_sub_mod (by omega)]
theorem RL.reps {z : List Value} {zc : Array Value} (k : RL r z zc.toList) (hz : 0 < z.length) (n : Nat) (m : Nat) (hm : m = n * zc.size) : RL r (Am.reps n z) ((Array.range m).map fun i => zc[i % zc.size]!).toList := by
  subst hm
  have hl := k.1
  simp only [Array.length_toList] at hl
  refine ⟨by simp [reps_length, hl], fun i v v' hv hv' => ?_⟩
  have hi : i < n * z.length := by have := (List.getElem?_eq_some_iff.1 hv).1; rwa [reps_length] at this
  rw [reps_get z hz n i hi] at hv
  have hi2 : i < n * zc.size := by rw [← hl]; exact hi
  simp only [Array.getElem?_toList, Array.getElem?_map, Array.getElem?_range, hi2, if_true, Option.map_some, Option.some.injEq] at hv'
  subst hv'
  have hmod : i % zc.size < zc.size := Nat.mod_lt _ (by omega)
  refine k.2 (i % z.length) v _ hv ?_
  rw [hl, Array.getElem?_toList]
  simp [hmod]
theorem elemT_under {t e : TypeId} (k : elemT P t = some e) : P.underlying t = some (.slice e) := by
  unfold elemT at k
  split at k
  · rename_i e' hu; cases k; exact hu
  · cases k
theorem zeroT_info {t : TypeId} {z : List Value} (k : zeroT P t = some z) : ∃ i, P.info? t = some i := by
  unfold zeroT zeroV at k
  cases hi : P.info? t with
  | none => rw [hi] at k; cases k
  | some i => exact ⟨i, rfl⟩
theorem RV.new_slice {r : Ren} {b c sz esz len : Nat} {g : Bool} (m cap : Nat) (h1 : m ≤ cap) : RV (r.put b ⟨c, 0, sz, esz, len, g⟩) (.slice (some ⟨b, 0, none⟩) m cap) (.slice (some ⟨c, 0, none⟩) m cap) :=
  .slice b 0 m cap cap _ _ (Ren.put_self _ _ _) h1 (Nat.le_refl _) (fun _ => rfl) (.inl rfl)
theorem buildSliceA_run {t : TypeId} {n : Nat} {ps qs : Array (Nat × Value)} {v : Value} (hps : RP r ps.toList qs.toList) (k : buildSliceA P t n ps.toList h = some (v, h')) :
    ∃ cs m Cs ty, v = .slice (some ⟨h.next, 0, none⟩) n n ∧ h' = h.push (.cells cs m false false) ∧ RL r cs Cs.toList ∧ (Instr.buildSlice t n qs).run P w = .ok (.slice (some ⟨w.heap.size, 0, none⟩) n n) { w with heap := w.heap.push (.cells Cs ty) } := by
  unfold buildSliceA at k
  cases he : elemT P t with
  | none => rw [he] at k; cases k
  | some e =>
    rw [he] at k
    simp only [Option.bind_some] at k
    cases hz : zeroT P e with
    | none => rw [hz] at k; cases k
    | some z =>
      rw [hz] at k
      simp only [Option.bind_some] at k
      split at k
      case isFalse => cases k
      rename_i hzl
      split at k
      case isFalse => cases k
      rename_i hb
      obtain ⟨hpos, hb⟩ := hb
      cases hf : fillA P (fun i => some (i * sz P e, e)) (reps n z) ps.toList with
      | none => rw [hf] at k; cases k
      | some cs =>
        rw [hf] at k
        cases k
        obtain ⟨zv, z1, z2, z3⟩ := zeroT_run (r := r) hz w
        obtain ⟨ie, hie⟩ := zeroT_info hz
        have hzs : zv.cells.size = sz P e := by rw [← hzl, z2]; simp
        have hrange := z3.reps (by omega) n (n * sz P e) (by rw [hzs])
        have hbig : ¬ (n * sz P e > 2 ^ 24) := by
          have : (2 : Nat) ^ 24 = 16777216 := by decide
          omega
        obtain ⟨Cs2, g1, g2⟩ := fillA_sim (place' := fun i => some (i * sz P e, sz P e)) (fun i o t' e => by cases e; rfl) ps.toList qs.toList (reps n z) cs ((Array.range (n * sz P e)).map fun i => (if n * sz P e = 0 then #[] else zv.cells)[i % (if n * sz P e = 0 then #[] else zv.cells).size]!) hps (by
          by_cases h0 : n * sz P e = 0
          · have hn : n = 0 := by
              rcases Nat.mul_eq_zero.1 h0 with h | h
              · exact h
              · omega
            subst hn
            simpa using hrange
          · simp only [h0, if_false]
            exact hrange) hf
        have e1 := newRow_run (P := P) e Cs2 w
        refine ⟨cs, sz P e, Cs2, e, rfl, rfl, g2, ?_⟩
        by_cases h0 : n * sz P e = 0
        · simp only [h0, if_true] at g1
          simp only [Instr.buildSlice, Sem.run_bind, run_under (elemT_under he), Result.andThen_ok, run_sz' hie, h0, if_true, if_false, show ¬ (0 > 2 ^ 24) from by decide, Sem.run_pure, g1, e1]
        · simp only [h0, if_false] at g1
          simp only [Instr.buildSlice, Sem.run_bind, run_under (elemT_under he), Result.andThen_ok, run_sz' hie, hbig, if_false, h0, z1, Sem.run_pure, g1, e1]
theorem buildSliceA_sim (hr : RH P base r h w) {t : TypeId} {n : Nat} {ps qs : Array (Nat × Value)} {v : Value} (hps : RP r ps.toList qs.toList) (k : buildSliceA P t n ps.toList h = some (v, h')) :
    ∃ r' v' w', (Instr.buildSlice t n qs).run P w = .ok v' w' ∧ RV r' v v' ∧ Step P base r h w r' h' w' := by
  obtain ⟨cs, m, Cs, ty, rfl, rfl, g2, e3⟩ := buildSliceA_run (w := w) hps k
  obtain ⟨w', e1, e2⟩ := newRow_sim hr ty g2 m false
  rw [newRow_run] at e1
  cases e1
  exact ⟨_, _, _, e3, RV.new_slice n n (Nat.le_refl _), e2⟩
end
end Go.Proofs.YtlihmncbhaimkaaDoor.Am
/- Operations of the abstract machine are those of the model: makes, places, cuts. -/
namespace Go.Proofs.YtlihmncbhaimkaaDoor.Am
open Go Go.RowKit

section
variable {P : Program} {base : Nat} {r : Ren} {h h' : Heap} {w : World}
theorem RV.int_inv {k : IntKind} {n : Int} {v : Value} (hv : RV r (.int k n) v) : v = .int k n := by cases hv; rfl
theorem RV.bool_inv {b : Bool} {v : Value} (hv : RV r (.bool b) v) : v = .bool b := by cases hv; rfl
theorem RV.string_inv {s : ByteArray} {v : Value} (hv : RV r (.string s) v) : v = .string s := by cases hv; rfl

theorem wrap64_id {n : Int} (h0 : 0 ≤ n) (h1 : n ≤ 70368744177664) : IntKind.i64.wrap n = n := by
  have e : (2 : Int) ^ (64 : Nat) = 18446744073709551616 := by decide
  have e2 : (2 : Int) ^ (63 : Nat) = 9223372036854775808 := by decide
  simp only [IntKind.wrap, IntKind.bits, IntKind.signed, Bool.true_and, decide_eq_true_eq, e, e2, show 64 - 1 = 63 from rfl]
  rw [Int.emod_eq_of_lt h0 (by omega), if_neg (by omega)]
theorem makeSliceA_run {t : TypeId} {l c l' c' v : Value} (hl : RV r l l') (hc : RV r c c') (k : makeSliceA P t l c h = some (v, h')) :
    ∃ cs m Cs ty l2 c2, l2 ≤ c2 ∧ v = .slice (some ⟨h.next, 0, none⟩) l2 c2 ∧ h' = h.push (.cells cs m false false) ∧ RL r cs Cs.toList ∧ (Instr.makeSlice t l' c').run P w = .ok (.slice (some ⟨w.heap.size, 0, none⟩) l2 c2) { w with heap := w.heap.push (.cells Cs ty) } := by
  unfold makeSliceA at k
  split at k
  · rename_i l c
    obtain rfl := hl.int_inv
    obtain rfl := hc.int_inv
    cases he : elemT P t with
    | none => rw [he] at k; cases k
    | some e =>
      rw [he] at k
      simp only [Option.bind_some] at k
      cases hz : zeroT P e with
      | none => rw [hz] at k; cases k
      | some z =>
        rw [hz] at k
        simp only [Option.bind_some] at k
        split at k
        case isFalse => cases k
        rename_i hb
        obtain ⟨b1, b2, b3, b4, b5, b6⟩ := hb
        cases k
        obtain ⟨zv, z1, z2, z3⟩ := zeroT_run (r := r) hz w
        obtain ⟨ie, hie⟩ := zeroT_info hz
        have hzs : zv.cells.size = sz P e := by rw [← b5, z2]; simp
        have hby : by_ P e = ie.bytes := by simp [by_, Program.bytesOf, hie]
        have hrange := z3.reps (by omega) c.toNat (c.toNat * sz P e) (by rw [hzs])
        have hc0 : (0 : Int) ≤ c := by omega
        have hbig : ¬ ((ie.bytes : Int) * c > 2 ^ 48) := by
          rw [hby] at b3
          have : (2 : Int) ^ 48 = 281474976710656 := by decide
          rw [Int.mul_comm]
          omega
        have e1 := newRow_run (P := P) e ((Array.range (c.toNat * sz P e)).map fun i => zv.cells[i % zv.cells.size]!) w
        refine ⟨_, sz P e, _, e, l.toNat, c.toNat, by omega, rfl, rfl, hrange, ?_⟩
        have hcond : ((c < 0 || decide ((ie.bytes : Int) * c > 2 ^ 48)) || decide (l < 0) || decide (l > c)) = false := by
          simp only [Bool.or_eq_false_iff, decide_eq_false_iff_not]
          exact ⟨⟨⟨by omega, hbig⟩, by omega⟩, by omega⟩
        generalize ({ w with heap := w.heap.push (.cells ((Array.range (c.toNat * sz P e)).map fun i => zv.cells[i % zv.cells.size]!) e) } : World) = w' at e1 ⊢
        by_cases h0 : c.toNat * sz P e = 0
        · rw [h0] at e1
          simp only [Instr.makeSlice, asInt, asIntOf, Sem.run_bind, Sem.run_pure, run_under (elemT_under he), Result.andThen_ok, run_typeInfo hie, wrap64_id hc0 b4, wrap64_id b1 (by omega : l ≤ 70368744177664), hcond, Bool.false_eq_true, if_false, run_askRoom, run_sz' hie, h0, if_true]
          have e3 : (newRow e ((Array.range 0).map fun i => (#[] : Array Value)[i % (#[] : Array Value).size]!)).run P w = .ok ⟨w.heap.size, 0, none⟩ w' := by
            rw [← e1]
            exact congrArg (fun a => (newRow e a).run P w) (show (Array.range 0).map _ = (Array.range 0).map _ from by rw [show Array.range 0 = #[] from rfl, Array.map_empty, Array.map_empty])
          rw [e3]
          rfl
        · simp only [Instr.makeSlice, asInt, asIntOf, Sem.run_bind, Sem.run_pure, run_under (elemT_under he), Result.andThen_ok, run_typeInfo hie, wrap64_id hc0 b4, wrap64_id b1 (by omega : l ≤ 70368744177664), hcond, Bool.false_eq_true, if_false, run_askRoom, run_sz' hie, h0, z1, e1]
  · cases k

/-! ### Places -/
theorem makeSliceA_sim (hr : RH P base r h w) {t : TypeId} {l c l' c' v : Value} (hl : RV r l l') (hc : RV r c c') (k : makeSliceA P t l c h = some (v, h')) :
    ∃ r' v' w', (Instr.makeSlice t l' c').run P w = .ok v' w' ∧ RV r' v v' ∧ Step P base r h w r' h' w' := by
  obtain ⟨cs, m, Cs, ty, l2, c2, hle, rfl, rfl, g2, e3⟩ := makeSliceA_run (w := w) hl hc k
  obtain ⟨w', e1, e2⟩ := newRow_sim hr ty g2 m false
  rw [newRow_run] at e1
  cases e1
  exact ⟨_, _, _, e3, RV.new_slice l2 c2 hle, e2⟩
theorem fieldAddrA_sim {s : TypeId} {x x' v : Value} {f : Nat} (hx : RV r x x') (k : fieldAddrA P s x f = some v) : ∃ v', (Instr.fieldAt s x' f).run P w = .ok v' w ∧ RV r v v' := by
  unfold fieldAddrA at k
  split at k
  · rename_i b i
    cases hx with
    | ptr _ _ y hy =>
      split at k
      · rename_i fs hu
        cases hf : fs[f]? with
        | none => rw [hf] at k; cases k
        | some fd =>
          rw [hf] at k
          simp only [Option.bind_some] at k
          split at k
          · cases k
          · rename_i hsz
            cases k
            have hi : ∃ i, P.info? fd.type = some i := by
              cases hi : P.info? fd.type with
              | none => simp [sz, Program.cellsOf, hi] at hsz
              | some i => exact ⟨i, rfl⟩
            obtain ⟨ii, hi⟩ := hi
            refine ⟨.pointer (some ⟨y.c, y.o + (i + fd.offset), none⟩), ?_, .ptr _ _ _ hy⟩
            simp only [Instr.fieldAt, Sem.run_bind, run_under hu, Result.andThen_ok, hf, Instr.sureAddr, Sem.run_pure, fieldPlace, run_sz' hi, hsz, if_false, addr_add, Nat.add_assoc]
      · cases k
  · cases k
theorem rdCells_rel {cs l : List Value} {Cs : Array Value} (hc : RL r cs Cs.toList) {i n : Nat} (k : rdCells cs i n = some l) : RL r l (Cs.extract i (i + n)).toList := by
  unfold rdCells at k
  split at k
  · cases k
    have : (Cs.extract i (i + n)).toList = (Cs.toList.drop i).take n := by
      simp [Array.toList_extract, List.extract_eq_take_drop]
    rw [this]
    exact (hc.drop i).take n
  · cases k
theorem partA_sim {t : TypeId} {cs : List Value} {Cs : Array Value} {off : Nat} {v : Value} (hc : RL r cs Cs.toList) (k : partA P t cs off = some v) : ∃ v', (part t Cs off).run P w = .ok v' w ∧ RV r v v' := by
  unfold partA at k
  cases hg : aggT P t with
  | none => rw [hg] at k; cases k
  | some g =>
    rw [hg] at k
    simp only [Option.bind_some] at k
    obtain ⟨d, hd⟩ := aggT_under hg
    simp only [part, Sem.run_bind, run_agg hg, Result.andThen_ok, Sem.run_ite]
    cases g with
    | true =>
      simp only [if_true] at k ⊢
      cases hl : rdCells cs off (sz P t) with
      | none => rw [hl] at k; cases k
      | some l =>
        rw [hl] at k
        cases k
        refine ⟨.agg (Cs.extract off (off + sz P t)), by simp [run_sz hd], ?_⟩
        have := RV.of_agg (rdCells_rel hc hl)
        rwa [Array.toArray_toList] at this
    | false =>
      simp only [if_false, Bool.false_eq_true] at k ⊢
      obtain ⟨v', e1, e2⟩ := hc.get k
      rw [Array.getElem?_toList] at e1
      exact ⟨v', by simp [e1], e2⟩
theorem fieldA_sim {s : TypeId} {x x' v : Value} {f : Nat} (hx : RV r x x') (k : fieldA P s x f = some v) : ∃ v', (Instr.field s x' f).run P w = .ok v' w ∧ RV r v v' := by
  unfold fieldA at k
  split at k
  · rename_i cs
    obtain ⟨ys, rfl, hl⟩ := hx.agg_inv
    split at k
    · rename_i fs hu
      cases hf : fs[f]? with
      | none => rw [hf] at k; cases k
      | some fd =>
        rw [hf] at k
        simp only [Option.bind_some] at k
        obtain ⟨v', e1, e2⟩ := partA_sim (w := w) hl k
        refine ⟨v', ?_, e2⟩
        simp only [Instr.field, Sem.run_bind, run_under hu, Result.andThen_ok, hf, asAgg, Sem.run_pure, e1]
    · cases k
  · cases k
theorem indexAddrA_sim {t : TypeId} {x x' i i' v : Value} (hx : RV r x x') (hi : RV r i i') (k : indexAddrA P t x i = some v) : ∃ v', (Instr.indexAt t x' i').run P w = .ok v' w ∧ RV r v v' := by
  unfold indexAddrA at k
  split at k
  · rename_i kd n
    obtain rfl := hi.int_inv
    split at k
    · rename_i e b o len cap hu
      cases hx with
      | slice _ _ _ _ c2 a y hy h1 h2 h3 h4 =>
        split at k
        · rename_i hn
          cases k
          have hne : c2 ≠ 0 := by omega
          have ha := h3 hne
          subst ha
          refine ⟨.pointer (some ⟨y.c, y.o + (o + n.toNat * sz P e), none⟩), ?_, .ptr _ _ _ hy⟩
          obtain ⟨ie, hie⟩ := Option.isSome_iff_exists.1 hn.1
          have hm := run_sz' hie w
          have hn := hn.2
          simp only [Instr.indexAt, asIntOf, Sem.run_bind, Sem.run_pure, Result.andThen_ok, run_under hu, hn, and_self, if_true, hm, addr_add, Nat.add_assoc]
        · cases k
    · rename_i len e b o hu
      cases hx with
      | ptr _ _ y hy =>
        split at k
        · rename_i hn
          cases k
          refine ⟨.pointer (some ⟨y.c, y.o + (o + n.toNat * sz P e), none⟩), ?_, .ptr _ _ _ hy⟩
          obtain ⟨ie, hie⟩ := Option.isSome_iff_exists.1 hn.1
          have hm := run_sz' hie w
          have hn := hn.2
          simp only [Instr.indexAt, asIntOf, Instr.sureAddr, Sem.run_bind, Sem.run_pure, Result.andThen_ok, run_under hu, hn, and_self, if_true, hm, addr_add, Nat.add_assoc]
        · cases k
    · cases k
  · cases k
end
end Go.Proofs.YtlihmncbhaimkaaDoor.Am
/- Operations of the abstract machine are those of the model: cuts, indices into values, small ones, operators. -/
namespace Go.Proofs.YtlihmncbhaimkaaDoor.Am
open Go Go.RowKit

section
variable {P : Program} {base : Nat} {r : Ren} {h h' : Heap} {w : World}
/-- An optional operand. -/
def RO (r : Ren) : Option Value → Option Value → Prop
  | none, none => True
  | some v, some v' => RV r v v'
  | _, _ => False
theorem RO.bound {d n : Nat} {x x' : Option Value} (hx : RO r x x') (k : boundA d x = some n) : x' = x := by
  cases x with
  | none => cases x' with
    | none => rfl
    | some _ => cases hx
  | some v => cases x' with
    | none => cases hx
    | some v' =>
      unfold boundA at k
      split at k
      · rename_i e; cases e
      · rename_i kd m e
        cases e
        rw [RV.int_inv hx]
      · cases k
theorem boundA_some (d d' : Nat) (v : Value) : boundA d (some v) = boundA d' (some v) := by cases v <;> rfl
theorem sliceBound_run {v : Value} {y n : Nat} {d : Nat} (code : BoundsCode) (k : boundA d (some v) = some n) (hn : n ≤ y) : (Instr.sliceBound v y code).run P w = .ok n w := by
  unfold boundA at k
  split at k
  · rename_i e; cases e
  · rename_i kd m e
    cases e
    split at k
    · rename_i h0
      cases k
      simp only [Instr.sliceBound, asIntOf, Sem.run_bind, Sem.run_pure, Result.andThen_ok]
      rw [if_pos ⟨h0, by omega⟩]
      rfl
    · cases k
  · cases k
theorem sliceBounds_run (isSlice : Bool) {len cap : Nat} {lo hi mx : Option Value} {l rr m : Nat} (h1 : boundA 0 lo = some l) (h2 : boundA len hi = some rr) (h3 : mx = none → m = cap) (h4 : mx.isSome = true → boundA cap mx = some m)
    (h5 : l ≤ rr) (h6 : rr ≤ m) (h7 : m ≤ cap) (h8 : mx.isSome = true → hi.isSome = true) : (Instr.sliceBounds isSlice len cap lo hi mx).run P w = .ok (l, rr, m) w := by
  unfold Instr.sliceBounds
  cases mx with
  | none =>
    obtain rfl := h3 rfl
    cases hi with
    | none =>
      simp only [boundA] at h2
      cases h2
      cases lo with
      | none => simp only [boundA] at h1; cases h1; rfl
      | some v => simp only [Sem.run_bind, Sem.run_pure, Result.andThen_ok, sliceBound_run _ h1 h5]
    | some u =>
      cases lo with
      | none => simp only [boundA] at h1; cases h1; simp only [Sem.run_bind, Sem.run_pure, Result.andThen_ok, sliceBound_run _ h2 h6]
      | some v => simp only [Sem.run_bind, Sem.run_pure, Result.andThen_ok, sliceBound_run _ h2 h6, sliceBound_run _ h1 h5]
  | some vm =>
    have hm := h4 rfl
    cases hi with
    | none => exact absurd (h8 rfl) (by simp)
    | some u =>
      cases lo with
      | none => simp only [boundA] at h1; cases h1; simp only [Sem.run_bind, Sem.run_pure, Result.andThen_ok, sliceBound_run _ hm h7, sliceBound_run _ h2 h6]
      | some v => simp only [Sem.run_bind, Sem.run_pure, Result.andThen_ok, sliceBound_run _ hm h7, sliceBound_run _ h2 h6, sliceBound_run _ h1 h5]
theorem sliceA_sim (hr : RH P base r h w) {t : TypeId} {x x' v : Value} {lo hi mx lo' hi' mx' : Option Value} (hx : RV r x x') (hlo : RO r lo lo') (hhi : RO r hi hi') (hmx : RO r mx mx') (k : sliceA P t x lo hi mx h = some v) :
    ∃ v', (Instr.sliceAt t x' lo' hi' mx').run P w = .ok v' w ∧ RV r v v' := by
  unfold sliceA at k
  split at k
  · rename_i s hu
    obtain rfl := hx.string_inv
    cases h1 : boundA 0 lo with
    | none => rw [h1] at k; cases k
    | some l =>
      cases h2 : boundA s.size hi with
      | none => rw [h1, h2] at k; cases k
      | some rr =>
        rw [h1, h2] at k
        simp only [Option.bind_some] at k
        split at k
        case isFalse => cases k
        rename_i hc
        obtain ⟨c1, c2, c3⟩ := hc
        cases k
        obtain rfl := hlo.bound h1
        obtain rfl := hhi.bound h2
        have hm : mx = none := by simpa using c1
        subst hm
        cases mx' with
        | some _ => cases hmx
        | none =>
          refine ⟨.string (s.extract l rr), ?_, .string _⟩
          have := sliceBounds_run (P := P) (w := w) false (cap := s.size) (mx := none) h1 h2 (fun _ => rfl) (fun e => by cases e) c2 c3 (Nat.le_refl _) (fun e => by cases e)
          simp only [Instr.sliceAt, Instr.slice, Sem.run_bind, run_under hu, Result.andThen_ok, Option.isSome_none, Bool.false_eq_true, if_false, this, Sem.run_pure]
  · rename_i e hu
    cases hx
    cases h1 : boundA 0 lo with
    | none => rw [h1] at k; cases k
    | some l =>
      cases h2 : boundA 0 hi with
      | none => rw [h1, h2] at k; cases k
      | some rr =>
        cases h3 : boundA 0 mx with
        | none => rw [h1, h2, h3] at k; cases k
        | some m =>
          rw [h1, h2, h3] at k
          simp only [Option.bind_some] at k
          split at k
          case isFalse => cases k
          rename_i hc
          obtain ⟨c0, c1, c2, c3, c4⟩ := hc
          cases k
          obtain ⟨ie, hie⟩ := Option.isSome_iff_exists.1 c0
          obtain rfl := hlo.bound h1
          obtain rfl := hhi.bound h2
          obtain rfl := hmx.bound h3
          obtain rfl : m = 0 := by omega
          obtain rfl : rr = 0 := by omega
          obtain rfl : l = 0 := by omega
          have := sliceBounds_run (P := P) (w := w) true (cap := 0) h1 h2 (fun _ => rfl) (fun _ => h3) (Nat.le_refl _) (Nat.le_refl _) (Nat.le_refl _) (fun e => by simpa using c4 e)
          refine ⟨.slice none 0 0, ?_, .nilSlice⟩
          simp only [Instr.sliceAt, Instr.slice, Sem.run_bind, run_under hu, Result.andThen_ok, this, run_sz' hie, Sem.run_pure, if_true]
  · rename_i e b o len cap hu
    cases hx with
    | slice _ _ _ _ cap2 a y hy q1 q2 q3 q4 =>
    cases h1 : boundA 0 lo with
    | none => rw [h1] at k; cases k
    | some l =>
      cases h2 : boundA len hi with
      | none => rw [h1, h2] at k; cases k
      | some rr =>
        cases h3 : boundA cap mx with
        | none => rw [h1, h2, h3] at k; cases k
        | some m =>
          rw [h1, h2, h3] at k
          simp only [Option.bind_some] at k
          split at k
          case isFalse => cases k
          rename_i hc
          obtain ⟨c0, c1, c2, c3, c4⟩ := hc
          split at k
          case h_2 => cases k
          rename_i cs s g ro hb
          split at k
          case isFalse => cases k
          rename_i hsg
          cases k
          obtain ⟨ie, hie⟩ := Option.isSome_iff_exists.1 c0
          obtain rfl := hlo.bound h1
          obtain rfl := hhi.bound h2
          obtain rfl := hmx.bound h3
          obtain ⟨y1, y2, y3, y4, Cs, ty, fz, y5, y6, y7, y8⟩ := hr.cells b y cs s g ro hy hb
          -- the capacity behind the cut, in the model
          obtain ⟨m2, e1, e2, e3⟩ : ∃ m2, (Instr.sliceBounds true len cap2 lo' hi' mx').run P w = .ok (l, rr, m2) w ∧ m ≤ m2 ∧ (m = m2 ∨ (mx' = none ∧ m = cap ∧ m2 = cap2)) := by
            cases mx' with
            | none =>
              simp only [boundA] at h3
              cases h3
              exact ⟨cap2, sliceBounds_run true h1 h2 (fun _ => rfl) (fun e => by cases e) c1 (Nat.le_trans c2 q2) (Nat.le_refl _) (fun e => by cases e), q2, .inr ⟨rfl, rfl, rfl⟩⟩
            | some vm =>
              refine ⟨m, sliceBounds_run true h1 h2 (fun e => by cases e) (fun _ => ?_) c1 c2 (Nat.le_trans c3 q2) (fun e => by simpa using c4 e), Nat.le_refl _, .inl rfl⟩
              rw [boundA_some _ cap]
              exact h3
          refine ⟨.slice (some (if m2 = l then a else a.add (l * sz P e))) (rr - l) (m2 - l), ?_, ?_⟩
          · simp only [Instr.sliceAt, Instr.slice, Sem.run_bind, run_under hu, Result.andThen_ok, e1, run_sz' hie, Sem.run_pure]
            split <;> simp
          · refine .slice b _ _ _ _ _ y hy (by omega) (by omega) (fun hne => ?_) ?_
            · rw [if_neg (by omega), q3 (by omega), addr_add, Nat.add_assoc]
            · rcases e3 with e3 | ⟨_, e4, e5⟩
              · exact .inl (by omega)
              · subst e4; subst e5
                rcases q4 with q4 | ⟨q5, q6, q7⟩
                · exact .inl (by omega)
                · have hg : g = true := by rw [← y3]; exact q5
                  have hs : s = sz P e := hsg.resolve_right (by rw [hg]; simp)
                  rw [y1, hs] at q6 q7
                  have hle : l ≤ m := by omega
                  have hle2 : l ≤ m2 := by omega
                  refine .inr ⟨q5, ?_, ?_⟩
                  · rw [y1, hs, Nat.sub_mul]
                    have : l * sz P e ≤ m * sz P e := Nat.mul_le_mul_right _ hle
                    omega
                  · rw [y1, hs, Nat.sub_mul]
                    have : l * sz P e ≤ m2 * sz P e := Nat.mul_le_mul_right _ hle2
                    omega
  · rename_i n e b o hu
    cases hx with
    | ptr _ _ y hy =>
    cases h1 : boundA 0 lo with
    | none => rw [h1] at k; cases k
    | some l =>
      cases h2 : boundA n hi with
      | none => rw [h1, h2] at k; cases k
      | some rr =>
        cases h3 : boundA n mx with
        | none => rw [h1, h2, h3] at k; cases k
        | some m =>
          rw [h1, h2, h3] at k
          simp only [Option.bind_some] at k
          split at k
          case isFalse => cases k
          rename_i hc
          obtain ⟨c0, c1, c2, c3, c4⟩ := hc
          cases k
          obtain ⟨ie, hie⟩ := Option.isSome_iff_exists.1 c0
          obtain rfl := hlo.bound h1
          obtain rfl := hhi.bound h2
          obtain rfl := hmx.bound h3
          have := sliceBounds_run (P := P) (w := w) false (cap := n) (m := m) h1 h2 (fun e => by subst e; simp only [boundA] at h3; cases h3; rfl) (fun _ => h3) c1 c2 c3 (fun e => by simpa using c4 e)
          refine ⟨.slice (some (if m = l then ⟨y.c, y.o + o, none⟩ else (⟨y.c, y.o + o, none⟩ : Addr).add (l * sz P e))) (rr - l) (m - l), ?_, ?_⟩
          · simp only [Instr.sliceAt, Instr.sureAddr, Sem.run_bind, run_under hu, Result.andThen_ok, this, run_sz' hie, Sem.run_pure]
          · refine .slice b _ _ _ _ _ y hy (by omega) (Nat.le_refl _) (fun hne => ?_) (.inl rfl)
            rw [if_neg (by omega), addr_add, Nat.add_assoc]
  · cases k
theorem indexA_sim {t : TypeId} {x x' i i' v : Value} (hx : RV r x x') (hi : RV r i i') (k : indexA P t x i = some v) : ∃ v', (Instr.index t x' i').run P w = .ok v' w ∧ RV r v v' := by
  unfold indexA at k
  split at k
  · rename_i kd n
    obtain rfl := hi.int_inv
    split at k
    · rename_i len e cs hu
      obtain ⟨ys, rfl, hl⟩ := hx.agg_inv
      split at k
      case isFalse => cases k
      rename_i hn
      obtain ⟨ie, hie⟩ := Option.isSome_iff_exists.1 hn.1
      obtain ⟨v', e1, e2⟩ := partA_sim (w := w) hl k
      refine ⟨v', ?_, e2⟩
      have hn := hn.2
      simp only [Instr.index, asIntOf, Sem.run_bind, Sem.run_pure, Result.andThen_ok, run_under hu, hn, and_self, if_true, run_sz' hie, e1]
    · rename_i s hu
      obtain rfl := hx.string_inv
      split at k
      case isFalse => cases k
      rename_i hn
      cases hs : s[n.toNat]? with
      | none => rw [hs] at k; cases k
      | some b =>
        rw [hs] at k
        cases k
        refine ⟨_, ?_, .int _ _⟩
        simp only [Instr.index, asIntOf, Sem.run_bind, Sem.run_pure, Result.andThen_ok, run_under hu, hn, if_true, hs]
    · cases k
  · cases k
theorem nilCheckA_sim {ρ : Operand → Value} {o : Oper} {x : Operand} {v u : Value} (ho : o.op = .nilCheck x) (hx : RV r v (ρ x)) (k : nilCheckA v = some u) : ∃ v', (execOp ρ o).run P w = .ok (.value v') w ∧ RV r u v' := by
  unfold nilCheckA at k
  split at k
  · cases k
    cases hr : ρ x with
    | pointer a =>
      rw [hr] at hx
      cases a with
      | none => cases hx
      | some a => exact ⟨.pointer (some a), by simp [execOp, ho, hr], hx⟩
    | _ => rw [hr] at hx; cases hx
  · cases k
    cases hr : ρ x with
    | func fn xs ys =>
      rw [hr] at hx
      cases hx with
      | func _ _ _ _ _ h1 h2 h3 h4 => exact ⟨_, by simp [execOp, ho, hr], .func _ _ _ _ _ h1 h2 h3 h4⟩
    | _ => rw [hr] at hx; cases hx
  · cases k
theorem extractA_sim {x x' v : Value} {i : Nat} (hx : RV r x x') (k : extractA x i = some v) : ∃ v', (Instr.extract x' i).run P w = .ok v' w ∧ RV r v v' := by
  unfold extractA at k
  split at k
  · rename_i vs
    cases hx with
    | tuple _ ys h1 h2 =>
      obtain ⟨v', e1, e2⟩ := (RL.of_array h1 h2).get k
      rw [Array.getElem?_toList] at e1
      exact ⟨v', by simp [Instr.extract, e1], e2⟩
  · cases k
theorem makeInterfaceA_sim {t : TypeId} {x x' v : Value} (hx : RV r x x') (k : makeInterfaceA P t x = some v) : ∃ v', (Instr.makeInterface t x').run P w = .ok v' w ∧ RV r v v' := by
  unfold makeInterfaceA at k
  split at k
  · cases k
  · rename_i d hd hu
    cases k
    refine ⟨.iface t x', ?_, .iface _ _ _ hx⟩
    simp only [Instr.makeInterface, Sem.run_bind, run_under hu, Result.andThen_ok]
    cases d <;> first | rfl | exact absurd rfl (hd _)
  · cases k
end
end Go.Proofs.YtlihmncbhaimkaaDoor.Am
/- Operations of the abstract machine are those of the model: comparisons, operators, conversions. -/
namespace Go.Proofs.YtlihmncbhaimkaaDoor.Am
open Go Go.RowKit

section
variable {P : Program} {base : Nat} {r : Ren} {h h' : Heap} {w : World}
theorem eqA_sim : ∀ (d m : Nat) (t : TypeId) (x y x' y' : Value) (b : Bool), RV r x x' → RV r y y' → eqA P d t x y = some b → (Op.equalIn (d + m) t x' y').run P w = .ok b w
  | 0, _, _, _, _, _, _, _, _, _, k => by cases k
  | d + 1, m, t, x, y, x', y', b, hx, hy, k => by
    rw [show d + 1 + m = (d + m) + 1 by omega]
    unfold eqA at k
    split at k
    · rename_i p q hu; obtain rfl := hx.bool_inv; obtain rfl := hy.bool_inv; cases k; exact run_equalIn_bool w _ _ _ _ hu
    · rename_i kd kd1 p kd2 q hu
      obtain rfl := hx.int_inv; obtain rfl := hy.int_inv
      split at k
      · rename_i e; subst e; cases k; exact run_equalIn_int w _ _ _ _ _ _ hu
      · cases k
    · rename_i p q hu; obtain rfl := hx.string_inv; obtain rfl := hy.string_inv; cases k
      rw [run_equalIn_string w _ _ _ _ hu, beq_toListBytes]
    · rename_i e q hu; cases hx; cases k
      cases hy <;> (unfold Op.equalIn; simp [run_under hu])
    · rename_i e p hu; cases hx; cases hy; cases k
      unfold Op.equalIn; simp [run_under hu]
    · rename_i e tt p hu; cases hx; cases hy; cases k
      unfold Op.equalIn; simp [run_under hu]
    · rename_i e tt p hu; cases hx; cases hy; cases k
      unfold Op.equalIn; simp [run_under hu]
    · rename_i e a n1 c1 n2 c2 hu
      cases hy; cases k
      cases hx <;> (unfold Op.equalIn; simp [run_under hu])
    · rename_i e1 e2 a hu
      cases hy; cases k
      cases hx <;> (unfold Op.equalIn; simp [run_under hu])
    · rename_i e1 e2 a hu; cases hx; cases hy; cases k
      unfold Op.equalIn; simp [run_under hu]
    · rename_i e1 e2 a hu; cases hx; cases hy; cases k
      unfold Op.equalIn; simp [run_under hu]
    · rename_i fs xs ys hu
      obtain ⟨xs', rfl, hlx⟩ := hx.agg_inv
      obtain ⟨ys', rfl, hly⟩ := hy.agg_inv
      split at k
      · cases k
      · rename_i hs
        split at k
        · cases k
        · have hf : P.fieldsOf t = fs := by simp [Program.fieldsOf, hu]
          rw [run_equalIn_struct (P := P) w (d + m) t xs' ys' (by rw [hf]; exact hu) (by simpa using hs), hf]
          -- field by field
          have key : ∀ (l : List Field) (b : Bool), eqA.eqFs P (eqA P d) l xs.toList ys.toList = some b → (Op.eqFields (d + m) xs' ys' l).run P w = .ok b w := by
            intro l
            induction l with
            | nil => intro b k; cases k; simp [Op.eqFields]
            | cons f l ih =>
              intro b k
              simp only [eqA.eqFs] at k
              split at k
              · rename_i hn
                cases ha : partA P f.type xs.toList f.offset with
                | none => rw [ha] at k; cases k
                | some a =>
                  rw [ha] at k
                  simp only [Option.bind_some] at k
                  cases hb : partA P f.type ys.toList f.offset with
                  | none => rw [hb] at k; cases k
                  | some c =>
                    rw [hb] at k
                    simp only [Option.bind_some] at k
                    cases he : eqA P d f.type a c with
                    | none => rw [he] at k; cases k
                    | some e =>
                      rw [he] at k
                      simp only [Option.bind_some] at k
                      obtain ⟨a', a1, a2⟩ := partA_sim (w := w) hlx ha
                      obtain ⟨c', c1, c2⟩ := partA_sim (w := w) hly hb
                      have hee := eqA_sim d m f.type a c a' c' e a2 c2 he
                      simp only [Op.eqFields, if_pos hn, Sem.run_bind, a1, c1, hee, Result.andThen_ok]
                      cases e with
                      | true => simp only [if_true] at k; simpa using ih b k
                      | false => simp only [Bool.false_eq_true, if_false] at k; cases k; simp
              · rename_i hn
                rw [Op.eqFields, if_neg hn]
                exact ih b k
          exact key fs.toList b k
    · cases k
/-- Values between which the guard of '==' has nothing to say. -/
theorem eqGuard_run {op : BinOp} {t : TypeId} {x y : Operand} {a b a' b' : Value} {c : Bool} {d : Nat} (ha : RV r a a') (hb : RV r b b') (k : eqA P d t a b = some c) : (eqGuard op t x y a' b').run P w = .ok () w := by
  cases d with
  | zero => cases k
  | succ d =>
    unfold eqA at k
    split at k
    all_goals first
      | (rename_i fs xs ys hu
         obtain ⟨xs', rfl, _⟩ := ha.agg_inv
         obtain ⟨ys', rfl, _⟩ := hb.agg_inv
         split at k
         · cases k
         · split at k
           · cases k
           · rename_i hg; exact run_eqGuard_agg w op t x y xs' ys' (by simpa using hg))
      | (cases k; done)
      | (cases ha <;> cases hb <;> (unfold eqGuard; cases op <;> rfl))
theorem intOp_run {op : BinOp} {kd : IntKind} {a b : Int} {v : Value} {t : TypeId} (hs : op ≠ .shl ∧ op ≠ .shr) (k : intOp op kd a b = some v) : (binOp op t (.int kd a) (.int kd b)).run P w = .ok v w := by
  cases op <;> first
    | exact absurd rfl hs.1
    | exact absurd rfl hs.2
    | (simp only [intOp] at k; cases k; simp [binOp, Op.intArith, Op.intBits, Op.intCmp]; done)
    | (simp only [intOp] at k
       split at k
       · cases k
       · rename_i hb; cases k; simp [binOp, Op.intDiv, hb])
theorem binOp_eql (t : TypeId) (a b : Value) (g1 : ∀ kd p kd' q, a = .int kd p → b = .int kd' q → False) (g2 : ∀ p q, a = .string p → b = .string q → False) (g3 : ∀ kd p, a = .float kd p → False) (g4 : ∀ kd p q, a = .complex kd p q → False) :
    binOp .eql t a b = (do pure (.bool (← Op.equal t a b))) := by
  cases a <;> cases b <;> first
    | rfl
    | exact absurd rfl fun e => g1 _ _ _ _ e rfl
    | exact absurd rfl fun e => g2 _ _ e rfl
    | exact absurd rfl fun e => g3 _ _ e
    | exact absurd rfl fun e => g4 _ _ _ e
theorem binOp_neq (t : TypeId) (a b : Value) (g1 : ∀ kd p kd' q, a = .int kd p → b = .int kd' q → False) (g2 : ∀ p q, a = .string p → b = .string q → False) (g3 : ∀ kd p, a = .float kd p → False) (g4 : ∀ kd p q, a = .complex kd p q → False) :
    binOp .neq t a b = (do pure (.bool (!(← Op.equal t a b)))) := by
  cases a <;> cases b <;> first
    | rfl
    | exact absurd rfl fun e => g1 _ _ _ _ e rfl
    | exact absurd rfl fun e => g2 _ _ e rfl
    | exact absurd rfl fun e => g3 _ _ e
    | exact absurd rfl fun e => g4 _ _ _ e
theorem binA_sim {ρ : Operand → Value} {o : Oper} {op : BinOp} {t t' : TypeId} {x y : Operand} {a b v : Value} (ho : o.op = .binOp op t x y t') (ha : RV r a (ρ x)) (hb : RV r b (ρ y)) (k : binA P op t a b = some v) :
    ∃ v', (execOp ρ o).run P w = .ok (.value v') w ∧ RV r v v' := by
  unfold binA at k
  split at k
  · rename_i kd p kd' q
    have e1 := ha.int_inv
    have e2 := hb.int_inv
    have hg : ∀ op, (eqGuard op t x y (.int kd p) (.int kd' q)).run P w = .ok () w := fun op => by unfold eqGuard; cases op <;> rfl
    split at k
    · unfold shiftOp at k
      split at k
      · cases k
      · rename_i hq
        cases k
        refine ⟨_, ?_, .int _ _⟩
        simp only [execOp, ho, e1, e2, Sem.run_bind, hg, Result.andThen_ok, binOp, Op.shift, hq, if_false, Sem.run_pure]
    · unfold shiftOp at k
      split at k
      · cases k
      · rename_i hq
        cases k
        refine ⟨_, ?_, .int _ _⟩
        simp only [execOp, ho, e1, e2, Sem.run_bind, hg, Result.andThen_ok, binOp, Op.shift, hq, if_false, Sem.run_pure]
    · rename_i hs1 hs2
      split at k
      case isFalse => cases k
      rename_i e
      subst e
      have hrun := intOp_run (P := P) (w := w) (t := t) ⟨hs1, hs2⟩ k
      refine ⟨v, ?_, ?_⟩
      · simp only [execOp, ho, e1, e2, Sem.run_bind, hg, Result.andThen_ok, hrun, Sem.run_pure]
      · unfold intOp at k
        cases op <;> simp only [] at k <;> first
          | (cases k; first | exact .int _ _ | exact .bool _)
          | (split at k <;> first | (cases k; done) | (cases k; exact .int _ _))
          | cases k
  · rename_i p q
    have e1 := ha.string_inv
    have e2 := hb.string_inv
    have hg : ∀ op, (eqGuard op t x y (.string p) (.string q)).run P w = .ok () w := fun op => by unfold eqGuard; cases op <;> rfl
    have hmax : IntKind.i64.max = 9223372036854775807 := by decide
    have hbin : (binOp op t (.string p) (.string q)).run P w = .ok v w := by
      unfold strOp at k
      cases op <;> first
        | (cases k; simp [binOp, Op.stringOp]; done)
        | (simp only at k
           split at k
           · rename_i hsz
             cases k
             have : ¬ (((p.size + q.size : Nat) : Int) > IntKind.i64.max) := by rw [hmax]; omega
             simp only [binOp, Op.stringOp, this, if_false, Sem.run_pure]
           · cases k)
        | (cases k; done)
    refine ⟨v, by simp only [execOp, ho, e1, e2, Sem.run_bind, hg, Result.andThen_ok, hbin, Sem.run_pure], ?_⟩
    unfold strOp at k
    cases op <;> simp only [] at k <;> first
      | (cases k; first | exact .string _ | exact .bool _)
      | (split at k <;> first | (cases k; done) | (cases k; exact .string _))
      | cases k
  · rename_i hni hns
    have g1 : ∀ kd p kd' q, ρ x = .int kd p → ρ y = .int kd' q → False := fun kd p kd' q e1 e2 => by
      rw [e1] at ha; rw [e2] at hb
      cases ha; cases hb
      exact hni _ _ _ _ rfl rfl
    have g2 : ∀ p q, ρ x = .string p → ρ y = .string q → False := fun p q e1 e2 => by
      rw [e1] at ha; rw [e2] at hb
      cases ha; cases hb
      exact hns _ _ rfl rfl
    have g3 : ∀ kd p, ρ x = .float kd p → False := fun kd p e1 => by rw [e1] at ha; cases ha
    have g4 : ∀ kd p q, ρ x = .complex kd p q → False := fun kd p q e1 => by rw [e1] at ha; cases ha
    split at k
    · cases he : eqA P eqDepth t a b with
      | none => rw [he] at k; cases k
      | some c =>
        rw [he] at k
        cases k
        have h1 : (Op.equal t (ρ x) (ρ y)).run P w = .ok c w := eqA_sim (w := w) eqDepth 9996 t a b _ _ c ha hb he
        have h2 := eqGuard_run (w := w) (op := .eql) (x := x) (y := y) ha hb he
        refine ⟨.bool c, ?_, .bool c⟩
        simp only [execOp, ho, Sem.run_bind, h2, Result.andThen_ok, binOp_eql t _ _ g1 g2 g3 g4, h1, Sem.run_pure]
    · cases he : eqA P eqDepth t a b with
      | none => rw [he] at k; cases k
      | some c =>
        rw [he] at k
        cases k
        have h1 : (Op.equal t (ρ x) (ρ y)).run P w = .ok c w := eqA_sim (w := w) eqDepth 9996 t a b _ _ c ha hb he
        have h2 := eqGuard_run (w := w) (op := .neq) (x := x) (y := y) ha hb he
        refine ⟨.bool (!c), ?_, .bool _⟩
        simp only [execOp, ho, Sem.run_bind, h2, Result.andThen_ok, binOp_neq t _ _ g1 g2 g3 g4, h1, Sem.run_pure]
    · cases k
theorem unA_sim {op : UnOp} {x x' v : Value} (hx : RV r x x') (k : unA op x = some v) : (Op.unary op x').run P w = .ok v w ∧ RV r v v := by
  unfold unA at k
  split at k
  · rename_i kd n; cases hx; cases k; exact ⟨rfl, .int _ _⟩
  · rename_i kd n; cases hx; simp only [intOp] at k; cases k; exact ⟨rfl, .int _ _⟩
  · rename_i b; cases hx; cases k; exact ⟨rfl, .bool _⟩
  · cases k

/-! ### Conversions -/
theorem RL.self_bytes (s : ByteArray) : RL r (byteCells s) (s.data.map fun b => Value.int .u8 b.toNat).toList := by
  refine ⟨by simp [byteCells], fun i v v' hv hv' => ?_⟩
  simp only [byteCells, List.getElem?_map, Array.getElem?_toList, Array.getElem?_map] at hv hv'
  rw [hv] at hv'
  cases hv'
  cases hs : s.data[i]? with
  | none => rw [hs] at hv; cases hv
  | some b => rw [hs] at hv; cases hv; exact .int _ _
theorem bytesOf_rel : ∀ {l l' : List Value} {s : List UInt8}, RL r l l' → bytesOf l = some s → l' = l
  | [], l', s, hl, _ => hl.nil_inv
  | v :: l, l', s, hl, k => by
    obtain ⟨v', k', rfl, h1, h2⟩ := hl.cons_inv
    unfold bytesOf at k
    split at k
    · rename_i e; cases e
    · rename_i n rest e
      cases e
      obtain rfl := h1.int_inv
      cases hb : bytesOf l with
      | none => rw [hb] at k; cases k
      | some s' => rw [bytesOf_rel h2 hb]
    · cases k
theorem freeze_push (w : World) (Cs : Array Value) (t : TypeId) (n : Nat) : World.freeze { w with heap := w.heap.push (.cells Cs t) } ⟨w.heap.size, n, none⟩ 1 = { w with heap := w.heap.push (.cells Cs t (n, n + 1)) } := by
  unfold World.freeze
  rw [if_neg (by decide)]
  congr 1
  apply Array.ext
  · simp
  · intro i h1 h2
    simp only [Array.getElem_modify, Array.getElem_push]
    by_cases hi : w.heap.size = i
    · subst hi; simp
    · have : i < w.heap.size := by simp at h2; omega
      rw [if_neg hi, dif_pos this, dif_pos this]
theorem loadBytes_run {f : Value → ByteArray → Sem (ForInStep ByteArray)} (hf : ∀ n s, f (.int .u8 n) s = pure (.yield (s.push (UInt8.ofNat n.toNat)))) {l : List Value} {s : List UInt8} (k : bytesOf l = some s) (acc : ByteArray) (w : World) :
    (forIn l acc f).run P w = .ok ⟨acc.data ++ s.toArray⟩ w := by
  induction l generalizing s acc with
  | nil => cases k; simp
  | cons v l ih =>
    unfold bytesOf at k
    split at k
    · rename_i e; cases e
    · rename_i n rest e
      cases e
      cases hb : bytesOf l with
      | none => rw [hb] at k; cases k
      | some s' =>
        rw [hb] at k
        cases k
        simp only [List.forIn_cons, Sem.run_bind, hf, Sem.run_pure, Result.andThen_ok, ih hb]
        congr 2
        apply Array.ext'
        simp [ByteArray.push]
    · cases k
theorem choose_cap (need old : Nat) (e : TypeId) (w : World) : ∃ t, (choose (.appendCap need old e)).run P w = .ok (need + t) { w with drawn := w.drawn + 1 } := by
  refine ⟨w.tape w.drawn (.appendCap need old e) % (2 ^ 63 - need), ?_⟩
  rw [run_choose]
  rfl
theorem isU8_under {e : TypeId} (k : isU8 P e = true) : P.underlying e = some (.int .u8) := by
  unfold isU8 at k
  split at k
  · rename_i hu; exact hu
  · cases k
theorem markStringish_run {W : World} {c : Nat} {Cs : Array Value} {e : TypeId} {fz : Nat × Nat} (k : W.heap[c]? = some (.cells Cs e fz)) : (markStringish ⟨c, 0, none⟩).run P W = .ok () (W.freeze ⟨c, Cs.size, none⟩ 1) := by
  have hs : W.shape? c = some (e, Cs.size) := by simp [World.shape?, k]
  simp only [markStringish, Sem.run_bind, run_shape, Result.andThen_ok, hs, run_freeze]
theorem convA_sim (hr : RH P base r h w) {s d : TypeId} {x x' v : Value} (hx : RV r x x') (k : convA P s d x h = some (v, h')) : ∃ r' v' w', (convert s d x').run P w = .ok v' w' ∧ RV r' v v' ∧ Step P base r h w r' h' w' := by
  unfold convA at k
  split at k
  · rename_i ds kd kd' n hs hd
    cases k
    obtain rfl := hx.int_inv
    exact ⟨r, _, w, by simp [convert, run_under hs, run_under hd, Conv.intToInt], .int _ _, Step.refl hr⟩
  · rename_i ds s hs hd
    cases k
    obtain rfl := hx.string_inv
    exact ⟨r, _, w, by simp [convert, run_under hs, run_under hd], .string _, Step.refl hr⟩
  · rename_i ds e str hs hd
    obtain rfl := hx.string_inv
    split at k
    case isFalse => cases k
    rename_i he
    split at k
    case isFalse => cases k
    rename_i hsz
    cases k
    have he' := isU8_under he
    obtain ⟨t, ht⟩ := choose_cap (P := P) str.size 0 e w
    have hrel : RL r (byteCells str) (str.data.map fun b => Value.int .u8 b.toNat).toList := RL.self_bytes str
    have hr2 : RH P base r h { w with drawn := w.drawn + 1 } := hr.of_heap rfl
    let Cs : Array Value := (str.data.map fun b => Value.int .u8 b.toNat) ++ Array.replicate (str.size + t - str.size) (Value.int .u8 0)
    have hCs : Cs.size = str.size + t := by simp [Cs]
    have hlen : (byteCells str).length = str.size := by simp [byteCells]
    have hnew := hr2.new (cs := byteCells str) (Cs := Cs) 1 true e (fz := (Cs.size, Cs.size + 1)) (by rw [hlen, hCs]; omega) (fun i u hu => by
      obtain ⟨u', e1, e2⟩ := hrel.get hu
      refine ⟨u', ?_, e2⟩
      have hi : i < (str.data.map fun b => Value.int .u8 b.toNat).size := by
        have := (List.getElem?_eq_some_iff.1 e1).1
        simpa using this
      rw [Array.getElem?_append, if_pos hi]
      simpa using e1) (fun i hi => by simp; omega)
    refine ⟨_, .slice (some ⟨w.heap.size, 0, none⟩) str.size (str.size + t), _, ?_, ?_, Ren.le_put hr2.none_next _, hnew, below_drawn.trans (below_push hr2.base_le _), fr_push rfl rfl rfl rfl fun _ h => h⟩
    · have hm := markStringish_run (P := P) (W := { w with heap := w.heap.push (.cells Cs e), drawn := w.drawn + 1 }) (c := w.heap.size) (Cs := Cs) (e := e) (fz := (0, 0)) (by simp)
      rw [freeze_push { w with drawn := w.drawn + 1 } Cs e Cs.size] at hm
      simp only [convert, Sem.run_bind, run_under hs, run_under hd, run_under he', Result.andThen_ok, Conv.stringToBytes, ht, newRow, run_newObj, Sem.run_pure]
      rw [hm]
      rfl
    · refine .slice h.next 0 _ _ _ _ _ (Ren.put_self _ _ _) (Nat.le_refl _) (by omega) (fun _ => rfl) (.inr ⟨rfl, ?_, ?_⟩)
      · show 0 + str.size * 1 = (byteCells str).length
        rw [hlen]; simp
      · show 0 + 0 + (str.size + t) * 1 ≤ Cs.size
        rw [hCs]; simp
  · rename_i e a b hs hd
    split at k
    case isFalse => cases k
    rename_i he
    cases k
    have he' := isU8_under he
    cases hx
    exact ⟨r, .string .empty, w, by simp [convert, run_under hs, run_under hd, run_under he', Conv.bytesToString], .string _, Step.refl hr⟩
  · rename_i e b o len c hs hd
    split at k
    case isFalse => cases k
    rename_i he
    have he' := isU8_under he
    cases hl : loadC h b o len with
    | none => rw [hl] at k; cases k
    | some l =>
      rw [hl] at k
      simp only [Option.bind_some] at k
      cases hb : bytesOf l with
      | none => rw [hb] at k; cases k
      | some s =>
        rw [hb] at k
        cases k
        cases hx with
        | slice _ _ _ _ c2 a y hy q1 q2 q3 q4 =>
          obtain ⟨l', e1, e2, e3⟩ := hr.read hy hl
          obtain rfl := bytesOf_rel e2 hb
          have hload : (loadCells a len).run P w = .ok l'.toArray w := by
            by_cases h0 : c2 = 0
            · have : len = 0 := by omega
              subst this
              have : l' = [] := List.eq_nil_of_length_eq_zero e1
              subst this
              rfl
            · rw [q3 h0]; exact loadCells_run e1 e3
          refine ⟨r, .string ⟨s.toArray⟩, w, ?_, .string _, Step.refl hr⟩
          simp only [convert, Sem.run_bind, run_under hs, run_under hd, run_under he', Result.andThen_ok, Conv.bytesToString, hload, ← Array.forIn_toList]
          rw [loadBytes_run (fun _ _ => rfl) hb]
          simp only [Result.andThen_ok, Sem.run_pure]
          congr 3
          show (#[] : Array UInt8) ++ s.toArray = s.toArray
          simp
  · cases k
end
end Go.Proofs.YtlihmncbhaimkaaDoor.Am
/- Operations of the abstract machine are those of the model: lengths, append, copy, clear. -/
namespace Go.Proofs.YtlihmncbhaimkaaDoor.Am
open Go Go.RowKit

section
variable {P : Program} {base : Nat} {r : Ren} {h h' : Heap} {w : World}
theorem lenA_sim (hr : RH P base r h w) {t : TypeId} {x x' v : Value} {ts : Array TypeId} {ty : TypeId} (ht : ts[0]? = some t) (hx : RV r x x') (k : lenA P t x h = some v) : (Builtin.len_ ts ty #[x']).run P w = .ok v w ∧ RV r v v := by
  unfold lenA at k
  split at k
  · rename_i s hu; cases hx; cases k
    exact ⟨by simp [Builtin.len_, ht, run_under hu, goInt], .int _ _⟩
  · rename_i e a n c hu; cases k
    cases hx <;> exact ⟨by simp [Builtin.len_, ht, run_under hu, goInt], .int _ _⟩
  · rename_i n e hu; cases k
    exact ⟨by simp [Builtin.len_, ht, run_under hu, goInt], .int _ _⟩
  · rename_i e1 e2 hu; cases hx; cases k
    exact ⟨by simp [Builtin.len_, ht, run_under hu, goInt], .int _ _⟩
  · rename_i e1 e2 b hu
    split at k
    · rename_i es hb
      cases k
      cases hx with
      | map _ y hy =>
        obtain ⟨_, Es, cl, h1, h2, _⟩ := hr.maps b y es hy hb
        have hg : (getObj y.c).run P w = .ok (.map Es cl) w := by simp [getObj, Sem.run, h1]
        exact ⟨by simp [Builtin.len_, ht, run_under hu, goInt, hg, h2], .int _ _⟩
    · cases k
  · cases k

/-! ### Sources of cells -/
theorem srcCells_sim (hr : RH P base r h w) {x x' : Value} {size n : Nat} {l : List Value} (hx : RV r x x') (k1 : srcLen x = some n) (k2 : srcCells size x h = some l) :
    ∃ A : Array Value, (Builtin.firstCells size n x').run P w = .ok A w ∧ RL r l A.toList ∧ (Builtin.lenOf x').run P w = .ok n w ∧ l.length = n * size := by
  unfold srcCells at k2
  split at k2
  · rename_i c
    cases hx
    cases k1; cases k2
    exact ⟨#[], rfl, RL.nil r, rfl, by simp⟩
  · rename_i b o m c
    cases k1
    cases hx with
    | slice _ _ _ _ c2 a y hy q1 q2 q3 q4 =>
      obtain ⟨l', e1, e2, e3⟩ := hr.read hy k2
      refine ⟨l'.toArray, ?_, by simpa using e2, rfl, by rw [e2.1]; exact e1⟩
      by_cases h0 : c2 = 0
      · have : n = 0 := by omega
        subst this
        have : l' = [] := List.eq_nil_of_length_eq_zero (by rw [e1]; simp)
        subst this
        simp only [Builtin.firstCells, Nat.zero_mul]
        rfl
      · rw [q3 h0]
        exact loadCells_run e1 e3
  · rename_i s
    obtain rfl := hx.string_inv
    split at k2
    case isFalse => cases k2
    rename_i h1
    cases k1; cases k2
    refine ⟨s.data.map fun b => .int .u8 b.toNat, ?_, RL.self_bytes s, rfl, ?_⟩
    · have : s.extract 0 s.size = s := by
        apply ByteArray.ext
        simp
      simp only [Builtin.firstCells, this, Sem.run_pure]
    · rw [h1]; simp [byteCells]
  · cases k2
theorem growBy_le (n : Nat) : ∀ (k c : Nat), Builtin.growBy n k c ≤ max c (n + (n + 768) / 4)
  | 0, c => by simp [Builtin.growBy]; omega
  | k + 1, c => by
    unfold Builtin.growBy
    split
    · omega
    · rename_i hc
      have := growBy_le n k (c + (c + 768) / 4)
      omega
theorem nextcap_le {need cap : Nat} (h : cap < need) : Builtin.nextslicecap need cap ≤ 2 * need + 200 := by
  unfold Builtin.nextslicecap
  split
  · omega
  · split
    · omega
    · have := growBy_le need 4 cap
      omega
/-- What 'append' looks at first. -/
structure AppT (P : Program) (ts : Array TypeId) (sT xT e : TypeId) (z : List Value) : Prop where
  h1 : ts[0]? = some sT
  h2 : ts[1]? = some xT
  hi : isIntT P xT = false
  he : elemT P sT = some e
  hz : zeroT P e = some z
  pos : 0 < sz P e
  hzl : z.length = sz P e
  hby : by_ P e ≤ 65536
theorem notInt {t : TypeId} (k : isIntT P t = false) : ∃ d, P.underlying t = some d ∧ (match d with
  | .int _ => true
  | _ => false) = false := by
  unfold isIntT at k
  split at k
  · cases k
  · rename_i d hd hu; exact ⟨d, hu, by cases d <;> first | rfl | exact absurd rfl (hd _)⟩
  · cases k
/-- The model's append where it makes a new row. -/
theorem append_new (hr : RH P base r h w) {sT xT e : TypeId} {ts : Array TypeId} {ty : TypeId} {z : List Value} (T : AppT P ts sT xT e z) {bs : Option Addr} {len cap n : Nat} {x x' : Value} {old new : List Value} (hx : RV r x x') (k1 : srcLen x = some n) (k2 : srcCells (sz P e) x h = some new)
    (hold : ∀ W : World, RH P base r h W → ∃ Old : Array Value, (Builtin.firstCells (sz P e) len (.slice bs len cap)).run P W = .ok Old W ∧ RL r old Old.toList) (hlen : old.length = len * sz P e)
    (hcap : cap < len + n) (hb1 : (len + n) * by_ P e ≤ 70368744177664) (hb2 : len + n ≤ 70368744177664) :
    ∃ c2 Cs, (Builtin.append_ ts ty #[.slice bs len cap, x']).run P w = .ok (.slice (some ⟨w.heap.size, 0, none⟩) (len + n) c2) { w with drawn := w.drawn + 1, heap := w.heap.push (.cells Cs e) } ∧ len + n ≤ c2 ∧ Cs.size = c2 * sz P e ∧
      (∀ (i : Nat) v, (old ++ new)[i]? = some v → ∃ v', Cs[i]? = some v' ∧ RV r v v') ∧ (old ++ new).length = (len + n) * sz P e := by
  have hr1 : RH P base r h { w with drawn := w.drawn + 1 } := hr.of_heap rfl
  obtain ⟨Old, o1, o2⟩ := hold _ hr1
  obtain ⟨_, _, _, n0, _⟩ := srcCells_sim hr hx k1 k2
  obtain ⟨New, n1, n2, _, n3⟩ := srcCells_sim hr1 hx k1 k2
  obtain ⟨t, ht⟩ := choose_cap (P := P) (len + n) cap e w
  obtain ⟨zv, z1, z2, _⟩ := zeroT_run (r := r) T.hz { w with drawn := w.drawn + 1 }
  obtain ⟨ie, hie⟩ := zeroT_info T.hz
  obtain ⟨d, hd1, hd2⟩ := notInt T.hi
  have hzs : zv.cells.size = sz P e := by rw [← T.hzl, z2]; simp
  have hby : by_ P e = ie.bytes := by simp [by_, Program.bytesOf, hie]
  have hbig1 : ¬ (((len + n : Nat) : Int) > IntKind.i64.max ∧ (False ∨ ie.bytes = 0)) := by
    have : IntKind.i64.max = 9223372036854775807 := by decide
    rw [this]; omega
  have hbig2 : ¬ (Builtin.nextslicecap (len + n) cap * ie.bytes > 2 ^ 48) := by
    have h48 : (2 : Nat) ^ 48 = 281474976710656 := by decide
    have h1 := Nat.mul_le_mul_right ie.bytes (nextcap_le hcap)
    rw [Nat.add_mul, Nat.mul_assoc] at h1
    have h2 := T.hby
    rw [hby] at hb1 h2
    omega
  refine ⟨len + n + t, Old ++ New ++ Builtin.zeroCells zv.cells (len + n + t - (len + n)), ?_, by omega, ?_, fun i v hv => ?_, ?_⟩
  · have hnc : ¬ (len + n ≤ cap) := by omega
    unfold Builtin.append_
    simp only [T.h1, T.h2, List.getElem?_toArray, List.getElem?_cons_zero, List.getElem?_cons_succ, Sem.run_bind, run_under (elemT_under T.he), Result.andThen_ok, run_sz' hie, run_under hd1, Sem.run_pure]
    cases d <;> first
      | (cases hd2; done)
      | (simp only [Bool.false_eq_true, if_false, Sem.run_bind, n0, Result.andThen_ok, hnc, run_typeInfo hie, hbig1, hbig2, ht, run_askRoom, o1, Bool.not_false, if_true, n1, z1, newRow, run_newObj, Sem.run_pure]
         done)
  · have h1 := o2.1; have h2 := n2.1
    simp only [Array.length_toList] at h1 h2
    simp only [Array.size_append, Builtin.zeroCells, Array.size_map, Array.size_range, hzs, ← h1, ← h2, hlen, n3, ← Nat.add_mul]
    congr 1
    omega
  · have hl := (o2.append n2)
    obtain ⟨v', e1, e2⟩ := hl.get hv
    have hi : i < (Old ++ New).size := by
      have := (List.getElem?_eq_some_iff.1 e1).1
      simpa using this
    refine ⟨v', ?_, e2⟩
    rw [Array.getElem?_append, if_pos hi, ← Array.getElem?_toList, Array.toList_append]
    exact e1
  · rw [List.length_append, hlen, n3, Nat.add_mul]
end
end Go.Proofs.YtlihmncbhaimkaaDoor.Am
/- Operations of the abstract machine are those of the model: append, copy, clear, least and greatest. -/
namespace Go.Proofs.YtlihmncbhaimkaaDoor.Am
open Go Go.RowKit

section
variable {P : Program} {base : Nat} {r : Ren} {h h' : Heap} {w w' : World}
/-- The model's append where the row has room. -/
theorem append_in {sT xT e : TypeId} {ts : Array TypeId} {ty : TypeId} {z : List Value} (T : AppT P ts sT xT e z) {bs : Option Addr} {len cap n : Nat} {x' : Value} {New : Array Value}
    (n0 : (Builtin.lenOf x').run P w = .ok n w) (n1 : (Builtin.firstCells (sz P e) n x').run P w = .ok New w) (hcap : len + n ≤ cap)
    (hst : ∀ a, bs = some a → (storeCells (a.add (len * sz P e)) New.toList).run P w = .ok () w') (hno : bs = none → w' = w) :
    (Builtin.append_ ts ty #[.slice bs len cap, x']).run P w = .ok (.slice bs (len + n) cap) w' := by
  obtain ⟨ie, hie⟩ := zeroT_info T.hz
  obtain ⟨d, hd1, hd2⟩ := notInt T.hi
  unfold Builtin.append_
  simp only [T.h1, T.h2, List.getElem?_toArray, List.getElem?_cons_zero, List.getElem?_cons_succ, Sem.run_bind, run_under (elemT_under T.he), Result.andThen_ok, run_sz' hie, run_under hd1, Sem.run_pure]
  cases bs with
  | none =>
    obtain rfl := hno rfl
    cases d <;> first
      | (cases hd2; done)
      | (simp only [Bool.false_eq_true, if_false, Sem.run_bind, n0, Result.andThen_ok, hcap, if_true, Bool.not_false, n1, Sem.run_pure]
         done)
  | some a =>
    have := hst a rfl
    cases d <;> first
      | (cases hd2; done)
      | (simp only [Bool.false_eq_true, if_false, Sem.run_bind, n0, Result.andThen_ok, hcap, if_true, Bool.not_false, n1, this, Sem.run_pure]
         done)
theorem appendA_sim (hr : RH P base r h w) {sT xT : TypeId} {ts : Array TypeId} {ty : TypeId} {s s' x x' v : Value} (h1 : ts[0]? = some sT) (h2 : ts[1]? = some xT) (hs : RV r s s') (hx : RV r x x') (k : appendA P sT xT s x h = some (v, h')) :
    ∃ r' v' w', (Builtin.append_ ts ty #[s', x']).run P w = .ok v' w' ∧ RV r' v v' ∧ Step P base r h w r' h' w' := by
  unfold appendA at k
  split at k
  · cases k
  rename_i hi
  cases he : elemT P sT with
  | none => rw [he] at k; cases k
  | some e =>
  rw [he] at k
  simp only [Option.bind_some] at k
  cases hz : zeroT P e with
  | none => rw [hz] at k; cases k
  | some z =>
  rw [hz] at k
  simp only [Option.bind_some] at k
  split at k
  · cases k
  rename_i hc
  have T : AppT P ts sT xT e z := ⟨h1, h2, by simpa using hi, he, hz, by omega, by omega, by omega⟩
  clear hc hi
  split at k
  · -- a nil slice
    cases hs
    cases k1 : srcLen x with
    | none => rw [k1] at k; cases k
    | some n =>
    rw [k1] at k
    simp only [Option.bind_some] at k
    cases k2 : srcCells (sz P e) x h with
    | none => rw [k2] at k; cases k
    | some new =>
    rw [k2] at k
    simp only [Option.bind_some] at k
    obtain ⟨New, n1, n2, n0, n3⟩ := srcCells_sim hr hx k1 k2
    split at k
    · rename_i hn
      subst hn
      cases k
      exact ⟨r, .slice none 0 0, w, append_in T n0 n1 (Nat.le_refl _) (fun a ha => by cases ha) (fun _ => rfl), .nilSlice, Step.refl hr⟩
    · rename_i hn
      split at k
      case isFalse => cases k
      rename_i hb
      cases k
      obtain ⟨c2, Cs, e1, e2, e3, e4, e5⟩ := append_new (ty := ty) hr T (bs := none) (len := 0) (cap := 0) (old := []) hx k1 k2 (fun W _ => ⟨#[], rfl, RL.nil r⟩) (by simp) (by omega) (by simpa using hb.1) (by simpa using hb.2)
      have hr1 : RH P base r h { w with drawn := w.drawn + 1 } := hr.of_heap rfl
      simp only [List.nil_append] at e4 e5
      have hsz : new.length ≤ Cs.size := by rw [e5, e3]; exact Nat.mul_le_mul_right _ e2
      have hnew := hr1.new (cs := new) (Cs := Cs) (sz P e) true e (fz := (0, 0)) hsz e4 (fun i _ => by simp)
      refine ⟨_, _, _, e1, ?_, Ren.le_put hr.none_next _, hnew, below_drawn.trans (below_push hr1.base_le _), fr_push rfl rfl rfl rfl fun _ h => h⟩
      rw [Nat.zero_add] at e2 ⊢
      refine .slice h.next 0 n n c2 _ _ (Ren.put_self _ _ _) (Nat.le_refl _) e2 (fun _ => rfl) (.inr ⟨rfl, ?_, ?_⟩)
      · show 0 + n * sz P e = new.length; rw [e5]; simp
      · show 0 + 0 + c2 * sz P e ≤ Cs.size; rw [e3]; simp
  · -- a row
    rename_i b o len cap
    cases hs with
    | slice _ _ _ _ cap2 a y hy q1 q2 q3 q4 =>
    cases k1 : srcLen x with
    | none => rw [k1] at k; cases k
    | some n =>
    rw [k1] at k
    simp only [Option.bind_some] at k
    cases k2 : srcCells (sz P e) x h with
    | none => rw [k2] at k; cases k
    | some new =>
    rw [k2] at k
    simp only [Option.bind_some] at k
    obtain ⟨New, n1, n2, n0, n3⟩ := srcCells_sim hr hx k1 k2
    split at k
    · rename_i hn
      subst hn
      cases k
      have hnil : New.toList = [] := List.eq_nil_of_length_eq_zero (by rw [← n2.1, n3]; simp)
      exact ⟨r, .slice (some a) len cap2, w, append_in T n0 n1 (by omega) (fun a' ha => by rw [hnil]; rfl) (fun ha => by cases ha), .slice b o len cap cap2 a y hy q1 q2 q3 q4, Step.refl hr⟩
    rename_i hn
    split at k
    · rename_i hroom
      cases hst : storeC h b (o + len * sz P e) new with
      | none => rw [hst] at k; cases k
      | some h2 =>
        rw [hst] at k
        cases k
        have ha := q3 (by omega)
        obtain ⟨w', e1, e2⟩ := storeC_sim hr hy n2 hst (y.o + o + len * sz P e) (by omega)
        refine ⟨r, .slice (some a) (len + n) cap2, w', append_in T n0 n1 (by omega) (fun a' ha' => ?_) (fun ha => by cases ha), .slice b o (len + n) cap cap2 a y hy (by omega) q2 q3 q4, e2⟩
        cases ha'
        rw [ha, addr_add]
        exact e1
    rename_i hroom
    split at k
    case isFalse => cases k
    rename_i hb
    split at k
    case h_2 => cases k
    rename_i cs es g ro hbl
    obtain ⟨y1, y2, y3, y4, Cs0, ty0, fz0, y5, y6, y7, y8⟩ := hr.cells b y cs es g ro hy hbl
    cases hold : rdCells cs o (len * sz P e) with
    | none => rw [hold] at k; cases k
    | some old =>
    rw [hold] at k
    simp only [Option.bind_some] at k
    have holdC : loadC h b o (len * sz P e) = some old := by unfold loadC; rw [hbl]; exact hold
    have holdlen : old.length = len * sz P e := by
      unfold rdCells at hold
      split at hold
      · cases hold; simp; omega
      · cases hold
    have hfirst : ∀ W : World, RH P base r h W → ∃ Old : Array Value, (Builtin.firstCells (sz P e) len (.slice (some a) len cap2)).run P W = .ok Old W ∧ RL r old Old.toList := fun W hW => by
      obtain ⟨A, f1, f2, _, _⟩ := srcCells_sim (x := .slice (some ⟨b, o, none⟩) len cap) (size := sz P e) hW (.slice b o len cap cap2 a y hy q1 q2 q3 q4) rfl (show srcCells (sz P e) (.slice (some ⟨b, o, none⟩) len cap) h = some old from holdC)
      exact ⟨A, f1, f2⟩
    -- a new row in the model
    have fresh : cap2 < len + n → ∀ h0 : Heap, RH P base r h0 { w with drawn := w.drawn + 1 } → h0.next = h.next → (∀ b, (h0.get b).live = true → (h.get b).live = true) → ∃ r' v' w', (Builtin.append_ ts ty #[.slice (some a) len cap2, x']).run P w = .ok v' w' ∧
        RV r' (.slice (some ⟨h.next, 0, none⟩) (len + n) (len + n)) v' ∧ Step P base r h w r' (h0.push (.cells (old ++ new) (sz P e) true false)) w' := by
      intro hlt h0 hr0 hnx hwr
      obtain ⟨c2, Cs, e1, e2, e3, e4, e5⟩ := append_new (ty := ty) hr T (bs := some a) (len := len) (cap := cap2) (old := old) hx k1 k2 hfirst holdlen hlt hb.1 hb.2
      have hsz : (old ++ new).length ≤ Cs.size := by rw [e5, e3]; exact Nat.mul_le_mul_right _ e2
      have hnew := hr0.new (cs := old ++ new) (Cs := Cs) (sz P e) true e (fz := (0, 0)) hsz e4 (fun i _ => by simp)
      refine ⟨_, _, _, e1, ?_, Ren.le_put hr0.none_next _, hnew, below_drawn.trans (below_push hr0.base_le _), fr_push rfl rfl hnx rfl hwr⟩
      rw [← hnx]
      refine .slice h0.next 0 _ _ c2 _ _ (Ren.put_self _ _ _) (Nat.le_refl _) e2 (fun _ => rfl) (.inr ⟨rfl, ?_, ?_⟩)
      · show 0 + (len + n) * sz P e = (old ++ new).length; rw [e5]; simp
      · show 0 + 0 + c2 * sz P e ≤ Cs.size; rw [e3]; simp
    have hr1 : RH P base r h { w with drawn := w.drawn + 1 } := hr.of_heap rfl
    split at k
    · rename_i hg
      split at k
      case isFalse => cases k
      rename_i hes
      cases k
      have hcap : cap = cap2 := by
        rcases q4 with q4 | ⟨q5, q6, q7⟩
        · exact q4
        · rcases hg with hg | hg
          · rw [hg] at y3; rw [y3] at q5; cases q5
          · have hge : g = true := by rw [← y3]; exact q5
            have : es = sz P e := hes.resolve_right (by rw [hge]; simp)
            rw [y1, this, y2] at q6
            omega
      exact fresh (by omega) h hr1 rfl fun _ h => h
    · rename_i hg
      split at k
      case isFalse => cases k
      rename_i hes
      obtain ⟨hes, hro, hnone⟩ := hes
      subst hro
      cases k
      have hg2 : g = true := by
        cases g with
        | true => rfl
        | false => exact absurd (.inl rfl) hg
      subst hg2
      by_cases hlt : cap2 < len + n
      · exact fresh hlt (h.kill b) (hr1.kill b) rfl kill_live
      · -- the model goes on in the row
        have hne : cap2 ≠ 0 := by omega
        have ha := q3 hne
        obtain ⟨q5, q6, q7⟩ : y.grow = true ∧ o + cap * y.esz = y.len ∧ y.o + o + cap2 * y.esz ≤ y.sz := by
          rcases q4 with q4 | q4
          · omega
          · exact q4
        have hlen2 : (len + n) * sz P e ≤ cap2 * sz P e := Nat.mul_le_mul_right _ (by omega)
        have hall : (old ++ new).length = (len + n) * sz P e := by rw [List.length_append, holdlen, n3, Nat.add_mul]
        rw [y1, hes] at q7
        have hNl : New.toList.length = n * sz P e := by rw [← n2.1, n3]
        have hNs : New.size = n * sz P e := by simpa using hNl
        have hone : ∀ v ∈ New.toList, v.oneCell' = true := n2.ones hnone
        have hmul := Nat.add_mul len n (sz P e)
        have hst := run_storeCells_free P y.c (y.o + o + len * sz P e) ty0 fz0 New.toList 0 Cs0 w y5 (unfrozen_of y5 (y8 rfl).2) (by omega) hone
        have hgrow := hr.growIn hy hbl y5 (Cs' := (wrCells Cs0.toList (y.o + o + len * sz P e) New.toList).toArray) (ds := old ++ new) (by simp [wrCells_length]) o (by omega) (fun i u hu => by
          rw [List.getElem?_toArray, wrCells_get _ _ _ _ (by simp only [Array.length_toList]; omega)]
          rw [List.getElem?_append] at hu
          split at hu
          · rename_i hi
            rw [if_neg (by omega)]
            unfold rdCells at hold
            split at hold
            · cases hold
              rw [List.getElem?_take] at hu
              split at hu
              · rw [List.getElem?_drop] at hu
                obtain ⟨u', g1, g2⟩ := y7 _ _ hu
                exact ⟨u', by rw [Array.getElem?_toList, ← g1]; congr 1; omega, g2⟩
              · cases hu
            · cases hold
          · rename_i hi
            have hi2 := (List.getElem?_eq_some_iff.1 hu).1
            rw [if_pos (by omega)]
            obtain ⟨u', g1, g2⟩ := n2.get hu
            exact ⟨u', by rw [← g1]; congr 1; omega, g2⟩)
        rw [hes] at hgrow
        refine ⟨_, .slice (some a) (len + n) cap2, _, append_in T n0 n1 (by omega) (fun a' ha' => ?_) (fun ha => by cases ha), ?_, Ren.le_put hr.none_next _, hgrow, below_setRow (y8 rfl).1 _, fr_grow (y := ⟨y.c, y.o + o, y.sz, sz P e, (old ++ new).length, true⟩) hy (by rw [hbl]; rfl) rfl _⟩
        · cases ha'
          rw [ha, addr_add]
          exact hst
        · refine .slice h.next 0 _ _ cap2 _ _ (Ren.put_self _ _ _) (Nat.le_refl _) (by omega) (fun _ => ha) (.inr ⟨rfl, ?_, ?_⟩)
          · show 0 + (len + n) * sz P e = (old ++ new).length; rw [hall]; simp
          · show y.o + o + 0 + cap2 * sz P e ≤ y.sz; omega
  · cases k
end
end Go.Proofs.YtlihmncbhaimkaaDoor.Am
/- Operations of the abstract machine are those of the model: append of zeros, cap, clear, least and greatest, maps. -/
namespace Go.Proofs.YtlihmncbhaimkaaDoor.Am
open Go Go.RowKit

section
variable {P : Program} {base : Nat} {r : Ren} {h h' : Heap} {w w' : World}
theorem capA_sim {t : TypeId} {x x' v : Value} {ts : Array TypeId} {ty : TypeId} (ht : ts[0]? = some t) (hx : RV r x x') (k : capA P t x = some v) : (Builtin.cap_ ts ty #[x']).run P w = .ok v w ∧ RV r v v := by
  unfold capA at k
  split at k
  · rename_i e hu; cases hx; cases k
    exact ⟨by simp [Builtin.cap_, ht, run_under hu, goInt], .int _ _⟩
  · cases k
theorem zeroCells_reps (z : Value) (n : Nat) (hz : 0 < z.cells.size) : RL r (reps n z.cells.toList) (reps n z.cells.toList) → (Builtin.zeroCells z.cells n).toList = reps n z.cells.toList := fun _ => by
  apply List.ext_getElem?
  intro i
  by_cases hi : i < n * z.cells.toList.length
  · rw [reps_get _ (by simpa using hz) n i hi]
    simp only [Builtin.zeroCells, Array.length_toList] at hi ⊢
    simp only [Array.getElem?_toList, Array.getElem?_map, Array.getElem?_range, hi, if_true, Option.map_some]
    have hmod : i % z.cells.size < z.cells.size := Nat.mod_lt _ hz
    simp [hmod]
  · rw [List.getElem?_eq_none (l := reps n z.cells.toList) (by rw [reps_length]; omega), List.getElem?_eq_none (by simp [Builtin.zeroCells]; simp at hi; omega)]
theorem RL.repsSelf {z : List Value} (k : RL r z z) : ∀ n, RL r (Am.reps n z) (Am.reps n z)
  | 0 => RL.nil r
  | n + 1 => by rw [reps_succ]; exact k.append (RL.repsSelf k n)
theorem appendZA_sim (hr : RH P base r h w) {sT xT : TypeId} {ts : Array TypeId} {ty : TypeId} {s s' x x' v : Value} (h1 : ts[0]? = some sT) (h2 : ts[1]? = some xT) (hi : isIntT P xT = true) (hu : (P.underlying xT).isSome = true) (hs : RV r s s') (hx : RV r x x')
    (k : appendZA P sT s x h = some (v, h')) : ∃ r' v' w', (Builtin.append_ ts ty #[s', x']).run P w = .ok v' w' ∧ RV r' v v' ∧ Step P base r h w r' h' w' := by
  unfold appendZA at k
  cases he : elemT P sT with
  | none => rw [he] at k; cases k
  | some e =>
  rw [he] at k
  simp only [Option.bind_some] at k
  cases hz : zeroT P e with
  | none => rw [hz] at k; cases k
  | some z =>
  rw [hz] at k
  simp only [Option.bind_some] at k
  split at k
  · cases k
  rename_i hc
  split at k
  case h_2 => cases k
  rename_i n
  split at k
  case isFalse => cases k
  rename_i hb
  cases k
  cases hs
  obtain rfl := hx.int_inv
  obtain ⟨ie, hie⟩ := zeroT_info hz
  have hby : by_ P e = ie.bytes := by simp [by_, Program.bytesOf, hie]
  obtain ⟨kd, hkd⟩ : ∃ kd, P.underlying xT = some (.int kd) := by
    unfold isIntT at hi
    split at hi
    · rename_i kd hk; exact ⟨kd, hk⟩
    · cases hi
    · rename_i hk; rw [hk] at hu; cases hu
  obtain ⟨t, ht⟩ := choose_cap (P := P) (0 + n.toNat) 0 e w
  obtain ⟨zv, z1, z2, z3⟩ := zeroT_run (r := r) hz { w with drawn := w.drawn + 1 }
  have hzs : zv.cells.size = sz P e := by rw [← show z.length = sz P e by omega, z2]; simp
  have hpos : 0 < zv.cells.size := by omega
  have hn0 : (0 : Int) ≤ n := by omega
  have hw := wrap64_id hn0 hb.2.2
  have hneg : ¬ (n < 0) := by omega
  have hbytes : ¬ (n * (ie.bytes : Int) > 2 ^ 48) := by
    have : (2 : Int) ^ 48 = 281474976710656 := by decide
    rw [hby] at hb
    omega
  have hnc : ¬ (0 + n.toNat ≤ 0) := by omega
  have hbig1 : ¬ (((0 + n.toNat : Nat) : Int) > IntKind.i64.max ∧ (True ∨ ie.bytes = 0)) := by
    have : IntKind.i64.max = 9223372036854775807 := by decide
    rw [this]; omega
  have hbig2 : ¬ (Builtin.nextslicecap (0 + n.toNat) 0 * ie.bytes > 2 ^ 48) := by
    have h48 : (2 : Nat) ^ 48 = 281474976710656 := by decide
    have h1 := Nat.mul_le_mul_right ie.bytes (nextcap_le (show 0 < 0 + n.toNat by omega))
    rw [Nat.add_mul, Nat.mul_assoc, Nat.zero_add] at h1
    have h2 : by_ P e ≤ 65536 := by omega
    rw [hby] at hb h2
    have h3 : n.toNat * ie.bytes ≤ 70368744177664 := by
      have e1 := hb.2.1
      have e2 : ((n.toNat * ie.bytes : Nat) : Int) = n * (ie.bytes : Int) := by rw [Int.natCast_mul, Int.toNat_of_nonneg hn0]
      omega
    rw [Nat.zero_add]
    omega
  have hn1 : ¬ (n.toNat * sz P e = 0) := by
    have := Nat.mul_pos (show 0 < n.toNat by omega) (show 0 < sz P e by omega)
    omega
  have hself : RL r (reps n.toNat zv.cells.toList) (reps n.toNat zv.cells.toList) := RL.repsSelf (by rw [← z2] at z3 ⊢; exact z3) _
  let Cs : Array Value := #[] ++ Builtin.zeroCells zv.cells n.toNat ++ Builtin.zeroCells zv.cells (0 + n.toNat + t - (0 + n.toNat))
  have hrun : (Builtin.append_ ts ty #[.slice none 0 0, .int .i64 n]).run P w = .ok (.slice (some ⟨w.heap.size, 0, none⟩) (0 + n.toNat) (0 + n.toNat + t)) { w with drawn := w.drawn + 1, heap := w.heap.push (.cells Cs e) } := by
    unfold Builtin.append_
    simp only [h1, h2, List.getElem?_toArray, List.getElem?_cons_zero, List.getElem?_cons_succ, Sem.run_bind, run_under (elemT_under he), Result.andThen_ok, run_sz' hie, run_under hkd, Sem.run_pure, asInt, asIntOf, hw, hneg, if_false, if_true, run_typeInfo hie, hbytes, hnc, hbig1, hbig2, ht, run_askRoom, Builtin.firstCells, Bool.not_true, Bool.false_eq_true, hn1, z1, newRow, run_newObj]
    rfl
  have hz' : (Builtin.zeroCells zv.cells n.toNat).toList = reps n.toNat zv.cells.toList := zeroCells_reps zv _ hpos hself
  have hr1 : RH P base r h { w with drawn := w.drawn + 1 } := hr.of_heap rfl
  have hsz : (reps n.toNat z).length ≤ Cs.size := by
    simp only [reps_length, Cs, Array.size_append, Builtin.zeroCells, Array.size_map, Array.size_range, hzs]
    rw [show z.length = sz P e by omega]
    simp
  have hCs : Cs.size = (n.toNat + t) * sz P e := by
    simp only [Cs, Array.size_append, Builtin.zeroCells, Array.size_map, Array.size_range, hzs, Nat.add_mul]
    rw [show 0 + n.toNat + t - (0 + n.toNat) = t by omega]
    simp
  have hnew := hr1.new (cs := reps n.toNat z) (Cs := Cs) (sz P e) true e (fz := (0, 0)) hsz (fun i u hu' => by
    rw [z2] at hu'
    obtain ⟨u', g1, g2⟩ := hself.get hu'
    refine ⟨u', ?_, g2⟩
    have hi := (List.getElem?_eq_some_iff.1 g1).1
    rw [← hz'] at g1 hi
    rw [← Array.getElem?_toList]
    simp only [Cs, Array.toList_append, List.nil_append]
    rw [List.getElem?_append, if_pos (by simpa using hi)]
    simpa using g1) (fun i _ => by simp)
  refine ⟨_, _, _, hrun, ?_, Ren.le_put hr.none_next _, hnew, below_drawn.trans (below_push hr1.base_le _), fr_push rfl rfl rfl rfl fun _ h => h⟩
  rw [Nat.zero_add]
  refine .slice h.next 0 _ _ _ _ _ (Ren.put_self _ _ _) (Nat.le_refl _) (by omega) (fun _ => rfl) (.inr ⟨rfl, ?_, ?_⟩)
  · show 0 + n.toNat * sz P e = (reps n.toNat z).length
    rw [reps_length, show z.length = sz P e by omega]; simp
  · show 0 + 0 + (n.toNat + t) * sz P e ≤ Cs.size
    rw [hCs]; simp
theorem clearA_sim (hr : RH P base r h w) {t : TypeId} {ts : Array TypeId} {ty : TypeId} {x x' v : Value} (h1 : ts[0]? = some t) (hx : RV r x x') (k : clearA P t x h = some (v, h')) :
    ∃ w', (Builtin.clear_ ts ty #[x']).run P w = .ok (.tuple #[]) w' ∧ v = .tuple #[] ∧ Step P base r h w r h' w' := by
  unfold clearA at k
  split at k
  · rename_i e a n c hu
    split at k
    · rename_i hn
      subst hn
      cases k
      refine ⟨w, ?_, rfl, Step.refl hr⟩
      cases hx <;> simp [Builtin.clear_, h1, run_under hu]
    · rename_i hn
      split at k
      · rename_i b o
        cases hz : zeroT P e with
        | none => rw [hz] at k; cases k
        | some z =>
        rw [hz] at k
        simp only [Option.bind_some] at k
        split at k
        case isFalse => cases k
        rename_i hzl
        cases hst : storeC h b o (reps n z) with
        | none => rw [hst] at k; cases k
        | some h2 =>
        rw [hst] at k
        cases k
        cases hx with
        | slice _ _ _ _ c2 a y hy q1 q2 q3 q4 =>
          obtain ⟨zv, z1, z2, z3⟩ := zeroT_run (r := r) hz w
          have hpos : 0 < zv.cells.size := by rw [z2] at hzl; simpa using hzl
          have hself : RL r (reps n zv.cells.toList) (reps n zv.cells.toList) := RL.repsSelf (by rw [← z2] at z3 ⊢; exact z3) _
          rw [z2] at hst
          obtain ⟨w', e1, e2⟩ := storeC_sim hr hy hself hst (y.o + o) rfl
          refine ⟨w', ?_, rfl, e2⟩
          rw [← zeroCells_reps zv n hpos hself, ← q3 (by omega)] at e1
          simp only [Builtin.clear_, h1, List.getElem?_toArray, List.getElem?_cons_zero, Sem.run_bind, run_under hu, Result.andThen_ok]
          cases n with
          | zero => exact absurd rfl hn
          | succ m => simp only [z1, Result.andThen_ok, e1, Sem.run_pure]
      · cases k
  · cases k
theorem minmaxA_go_max {kd : IntKind} : ∀ (l : List Value) (a : Int) (v : Value) (l' : List Value), RL r l l' → minmaxA.go true kd a l = some v → (l'.foldlM Builtin.max2 (.int kd a)).run P w = .ok v w ∧ RV r v v
  | [], a, v, l', hl, k => by
    obtain rfl := hl.nil_inv
    simp only [minmaxA.go] at k; cases k
    exact ⟨rfl, .int _ _⟩
  | x :: l, a, v, l', hl, k => by
    obtain ⟨x', k', rfl, e1, e2⟩ := hl.cons_inv
    unfold minmaxA.go at k
    split at k
    · rename_i e; cases e
    · rename_i kd' b rest e
      cases e
      split at k
      case isFalse => cases k
      rename_i hk
      subst hk
      obtain rfl := e1.int_inv
      simp only [if_true] at k
      have := minmaxA_go_max _ _ _ _ e2 k
      refine ⟨?_, this.2⟩
      simp only [List.foldlM_cons, Sem.run_bind, Builtin.max2, Sem.run_pure, Result.andThen_ok]
      exact this.1
    · cases k
theorem minmaxA_go_min {kd : IntKind} : ∀ (l : List Value) (a : Int) (v : Value) (l' : List Value), RL r l l' → minmaxA.go false kd a l = some v → (l'.foldlM Builtin.min2 (.int kd a)).run P w = .ok v w ∧ RV r v v
  | [], a, v, l', hl, k => by
    obtain rfl := hl.nil_inv
    simp only [minmaxA.go] at k; cases k
    exact ⟨rfl, .int _ _⟩
  | x :: l, a, v, l', hl, k => by
    obtain ⟨x', k', rfl, e1, e2⟩ := hl.cons_inv
    unfold minmaxA.go at k
    split at k
    · rename_i e; cases e
    · rename_i kd' b rest e
      cases e
      split at k
      case isFalse => cases k
      rename_i hk
      subst hk
      obtain rfl := e1.int_inv
      simp only [if_false, Bool.false_eq_true] at k
      have := minmaxA_go_min _ _ _ _ e2 k
      refine ⟨?_, this.2⟩
      simp only [List.foldlM_cons, Sem.run_bind, Builtin.min2, Sem.run_pure, Result.andThen_ok]
      exact this.1
    · cases k
theorem maxA_sim {ts : Array TypeId} {ty : TypeId} {l : List Value} {A : Array Value} {v : Value} (hl : RL r l A.toList) (k : minmaxA true l = some v) : (Builtin.max_ ts ty A).run P w = .ok v w ∧ RV r v v := by
  unfold minmaxA at k
  split at k
  · rename_i kd a rest
    obtain ⟨x', k', e, e1, e2⟩ := hl.cons_inv
    obtain rfl := e1.int_inv
    unfold Builtin.max_
    rw [e]
    exact minmaxA_go_max _ _ _ _ e2 k
  · cases k
theorem minA_sim {ts : Array TypeId} {ty : TypeId} {l : List Value} {A : Array Value} {v : Value} (hl : RL r l A.toList) (k : minmaxA false l = some v) : (Builtin.min_ ts ty A).run P w = .ok v w ∧ RV r v v := by
  unfold minmaxA at k
  split at k
  · rename_i kd a rest
    obtain ⟨x', k', e, e1, e2⟩ := hl.cons_inv
    obtain rfl := e1.int_inv
    unfold Builtin.min_
    rw [e]
    exact minmaxA_go_min _ _ _ _ e2 k
  · cases k
end
end Go.Proofs.YtlihmncbhaimkaaDoor.Am
/- One operation of the abstract machine is one of the model. -/
namespace Go.Proofs.YtlihmncbhaimkaaDoor.Am
open Go Go.RowKit

section
variable {P : Program} {C : Oracle} {base : Nat} {r : Ren} {h h' : Heap} {w : World} {e : Env} {a : Act} {o : Oper} {next : Act → World → Prop} {Q : Exit → Act → World → Prop}
/-- Variables that are known. -/
def RE (r : Ren) (e : Env) (tmps : Array Value) : Prop := ∀ n v, e n = some v → ∃ v', tmps[n]? = some v' ∧ RV r v v'
theorem RE.mono {r' : Ren} (k : Ren.le r r') (he : RE r e a.tmps) : RE r' e a.tmps := fun n v hv => by
  obtain ⟨v', h1, h2⟩ := he n v hv
  exact ⟨v', h1, h2.mono k⟩
theorem ev_sim (hr : RH P base r h w) (he : RE r e a.tmps) {x : Operand} {v : Value} (k : ev P e x = some v) : RV r v (a.eval x) := by
  unfold ev at k
  split at k
  · rename_i t
    obtain ⟨v', h1, h2⟩ := he _ _ k
    simp only [Act.eval, Array.getD_eq_getD_getElem?, h1, Option.getD_some]
    exact h2
  · split at k
    · rename_i hc; cases k; exact RV.closed 3 _ hc
    · cases k
  · rename_i g
    split at k
    · rename_i hg
      cases k
      obtain ⟨x, hx, h1, h2⟩ := hr.globs g hg
      have := RV.ptr g 0 x hx
      rw [h1, h2.1] at this
      exact this
    · cases k
  · cases k
    exact .func _ _ _ _ _ rfl rfl (fun i v v' hv => by simp at hv) (fun i v v' hv => by simp at hv)
theorem evs_sim (hr : RH P base r h w) (he : RE r e a.tmps) : ∀ {l : List Operand} {vs : List Value}, evs P e l = some vs → RL r vs (l.map a.eval)
  | [], vs, k => by cases k; exact RL.nil r
  | x :: l, vs, k => by
    unfold evs at k
    cases h1 : ev P e x with
    | none => rw [h1] at k; cases k
    | some v =>
      cases h2 : evs P e l with
      | none => rw [h1, h2] at k; cases k
      | some us =>
        rw [h1, h2] at k
        cases k
        exact RL.cons (ev_sim hr he h1) (evs_sim hr he h2)
theorem partsE_sim (hr : RH P base r h w) (he : RE r e a.tmps) : ∀ {l : List (Nat × Operand)} {vs : List (Nat × Value)}, partsE P e l = some vs → RP r vs (l.map fun (i, x) => (i, a.eval x))
  | [], vs, k => by cases k; exact ⟨rfl, RL.nil r⟩
  | x :: l, vs, k => by
    unfold partsE at k
    cases h1 : ev P e x.2 with
    | none => rw [h1] at k; cases k
    | some v =>
      cases h2 : partsE P e l with
      | none => rw [h1, h2] at k; cases k
      | some us =>
        rw [h1, h2] at k
        cases k
        have ih := partsE_sim hr he h2
        exact ⟨by simp only [List.map_cons, ih.1], by simp only [List.map_cons]; exact RL.cons (ev_sim hr he h1) ih.2⟩
theorem optE_sim (hr : RH P base r h w) (he : RE r e a.tmps) {x : Option Operand} {v : Option Value} (k : optE P e x = some v) : RO r v (x.map a.eval) := by
  unfold optE at k
  split at k
  · cases k; trivial
  · rename_i x
    cases h1 : ev P e x with
    | none => rw [h1] at k; cases k
    | some u => rw [h1] at k; cases k; exact ev_sim hr he h1

theorem wp_value {v' : Value} {w' : World} (k : (execOp a.eval o).run P w = .ok (.value v') w') (hn : next (a.put o.dst v') w') : o.wp P a w next Q := by
  unfold Oper.wp; rw [k]; exact hn
theorem wp_skip' {w' : World} (k : (execOp a.eval o).run P w = .ok .skip w') (hn : next (a.put o.dst undef) w') : o.wp P a w next Q := by
  unfold Oper.wp; rw [k]; exact hn
theorem RV.undef (r : Ren) : RV r undef undef := .tuple _ _ rfl (fun i v v' hv => by simp at hv)
theorem bind_inv {α β : Type} {x : Option α} {f : α → Option β} {y : β} (k : x.bind f = some y) : ∃ u, x = some u ∧ f u = some y := by
  cases x with
  | none => cases k
  | some u => exact ⟨u, rfl, k⟩
theorem map_inv {α β : Type} {x : Option α} {f : α → β} {y : β} (k : x.map f = some y) : ∃ u, x = some u ∧ f u = y := by
  cases x with
  | none => cases k
  | some u => cases k; exact ⟨u, rfl, rfl⟩

/-- Calls of the oracle are calls of the model. -/
def OSound (P : Program) (C : Oracle) : Prop := ∀ f args h v h', C f args h = some (v, h') → (∃ fn, P.funcs[f]? = some fn ∧ fn.body.isSome = true ∧ fn.name ≠ "runtime.NumGoroutine") ∧
  ∀ (base : Nat) (r : Ren) (w : World) (args' : Array Value), RL r args args'.toList → RH P base r h w →
    Calls P f args' w fun e w' => ∃ r' v', e = .returned v' ∧ RV r' v v' ∧ Step P base r h w r' h' w'
theorem callA_sim (hC : OSound P C) (hr : RH P base r h w) {f f' : Value} {args : List Value} {args' : Array Value} {v : Value} (hf : RV r f f') (ha : RL r args args'.toList) (k : callA C f args h = some (v, h')) {c : Call} {fo : Operand} (ho : o.op = .call c) (hc : c.callee = .value fo) (hfo : a.eval fo = f') (hargs : c.args.map a.eval = args')
    (hn : ∀ r' v' w', RV r' v v' → Step P base r h w r' h' w' → next (a.put o.dst v') w') : o.wp P a w next Q := by
  unfold callA at k
  split at k
  · rename_i g first captured
    cases hf with
    | func _ _ _ fs' cs' s1 s2 s3 s4 =>
      obtain ⟨⟨fn, hfn, hbody, hname⟩, hcall⟩ := hC _ _ _ _ _ k
      have hl : RL r (first.toList ++ args ++ captured.toList) (fs' ++ args' ++ cs').toList := by
        rw [Array.toList_append, Array.toList_append]
        exact ((RL.of_array s1 s3).append ha).append (RL.of_array s2 s4)
      have hcalls := hcall base r w _ hl hr
      have hrun : (execOp a.eval o).run P w = .ok (.enter g (fs' ++ args' ++ cs')) w := by
        have hb : fn.body.isNone = false := by cases hb : fn.body with
          | none => rw [hb] at hbody; cases hbody
          | some _ => rfl
        simp only [execOp, ho, resolve, hc, hargs, hfo, Deferred.ofValue, Sem.run_bind, Sem.run_pure, Result.andThen_ok, invoke, callFunc, run_program, hfn, hb, Bool.false_eq_true, if_false]
        rw [if_neg (by simpa using hname)]
        rfl
      unfold Oper.wp
      rw [hrun]
      refine hcalls.mono ?_
      rintro e w' ⟨r', v', rfl, h1, h2⟩
      exact hn r' v' w' h1 h2
  · cases k
end
end Go.Proofs.YtlihmncbhaimkaaDoor.Am
/- Every operation of the abstract machine is one of the model. -/
namespace Go.Proofs.YtlihmncbhaimkaaDoor.Am
open Go Go.RowKit

section
variable {P : Program} {C : Oracle} {base : Nat} {r : Ren} {h h' : Heap} {w : World} {e : Env} {a : Act} {o : Oper} {next : Act → World → Prop} {Q : Exit → Act → World → Prop}
theorem builtinA_sim (hr : RH P base r h w) {b : Builtin} {ts : Array TypeId} {ty : TypeId} {cs : Array Bool} {args : List Value} {args' : Array Value} {v : Value} (hl : RL r args args'.toList) (k : builtinA P b ts.toList args h = some (v, h')) :
    ∃ r' v' w', (builtin b ts ty cs args').run P w = .ok (.value v') w' ∧ RV r' v v' ∧ Step P base r h w r' h' w' := by
  have arr1 : ∀ x, args = [x] → ∃ x', args' = #[x'] ∧ RV r x x' := fun x hx => by
    subst hx
    obtain ⟨x', l', e1, e2, e3⟩ := hl.cons_inv
    obtain rfl := e3.nil_inv
    exact ⟨x', by apply Array.ext'; simpa using e1, e2⟩
  have arr2 : ∀ x y, args = [x, y] → ∃ x' y', args' = #[x', y'] ∧ RV r x x' ∧ RV r y y' := fun x y hx => by
    subst hx
    obtain ⟨x', l', e1, e2, e3⟩ := hl.cons_inv
    obtain ⟨y', l2, e4, e5, e6⟩ := e3.cons_inv
    obtain rfl := e6.nil_inv
    exact ⟨x', y', by apply Array.ext'; rw [e1, e4], e2, e5⟩
  unfold builtinA at k
  split at k
  · rename_i t u rest s x hts
    have h0 : ts[0]? = some t := by rw [← Array.getElem?_toList, hts]; rfl
    have h1 : ts[1]? = some u := by rw [← Array.getElem?_toList, hts]; rfl
    obtain ⟨s', x', rfl, e1, e2⟩ := arr2 s x rfl
    split at k
    · split at k
      case isFalse => cases k
      rename_i hc
      simp only [Bool.and_eq_true] at hc
      obtain ⟨r', v', w', f1, f2, f3⟩ := appendZA_sim (ty := ty) hr h0 h1 hc.1 hc.2 e1 e2 k
      exact ⟨r', v', w', by simp only [builtin, Sem.run_bind, f1, Result.andThen_ok, Sem.run_pure], f2, f3⟩
    · obtain ⟨r', v', w', f1, f2, f3⟩ := appendA_sim (ty := ty) hr h0 h1 e1 e2 k
      exact ⟨r', v', w', by simp only [builtin, Sem.run_bind, f1, Result.andThen_ok, Sem.run_pure], f2, f3⟩
  · rename_i t rest x hts
    have h0 : ts[0]? = some t := by rw [← Array.getElem?_toList, hts]; rfl
    obtain ⟨x', rfl, e1⟩ := arr1 x rfl
    obtain ⟨u, hu, hk⟩ := map_inv k
    cases hk
    obtain ⟨f1, f2⟩ := lenA_sim (ty := ty) hr h0 e1 hu
    exact ⟨r, _, w, by simp only [builtin, Sem.run_bind, f1, Result.andThen_ok, Sem.run_pure], f2, Step.refl hr⟩
  · rename_i t rest x hts
    have h0 : ts[0]? = some t := by rw [← Array.getElem?_toList, hts]; rfl
    obtain ⟨x', rfl, e1⟩ := arr1 x rfl
    obtain ⟨u, hu, hk⟩ := map_inv k
    cases hk
    obtain ⟨f1, f2⟩ := capA_sim (w := w) (ty := ty) h0 e1 hu
    exact ⟨r, _, w, by simp only [builtin, Sem.run_bind, f1, Result.andThen_ok, Sem.run_pure], f2, Step.refl hr⟩
  · rename_i t rest x hts
    have h0 : ts[0]? = some t := by rw [← Array.getElem?_toList, hts]; rfl
    obtain ⟨x', rfl, e1⟩ := arr1 x rfl
    obtain ⟨w', f1, rfl, f3⟩ := clearA_sim (ty := ty) hr h0 e1 k
    exact ⟨r, .tuple #[], w', by simp only [builtin, Sem.run_bind, f1, Result.andThen_ok, Sem.run_pure], RV.undef r, f3⟩
  · obtain ⟨u, hu, hk⟩ := map_inv k
    cases hk
    obtain ⟨f1, f2⟩ := maxA_sim (P := P) (w := w) (ts := ts) (ty := ty) hl hu
    exact ⟨r, _, w, by simp only [builtin, Sem.run_bind, f1, Result.andThen_ok, Sem.run_pure], f2, Step.refl hr⟩
  · obtain ⟨u, hu, hk⟩ := map_inv k
    cases hk
    obtain ⟨f1, f2⟩ := minA_sim (P := P) (w := w) (ts := ts) (ty := ty) hl hu
    exact ⟨r, _, w, by simp only [builtin, Sem.run_bind, f1, Result.andThen_ok, Sem.run_pure], f2, Step.refl hr⟩
  · cases k
theorem opA_sim (hC : OSound P C) (hr : RH P base r h w) (he : RE r e a.tmps) {v : Value} (k : opA P C o.op e h = some (v, h'))
    (hn : ∀ r' v' w', RV r' v v' → Step P base r h w r' h' w' → next (a.put o.dst v') w') : o.wp P a w next Q := by
  generalize ho : o.op = op at k
  unfold opA at k
  split at k
  · rename_i x
    obtain ⟨u, hu, hk⟩ := map_inv k; cases hk
    exact wp_value (by simp only [execOp, ho]; rfl) (hn r _ w (ev_sim hr he hu) (Step.refl hr))
  · rename_i x
    obtain ⟨u, hu, hk⟩ := map_inv k; cases hk
    exact wp_value (by simp only [execOp, ho]; rfl) (hn r _ w (ev_sim hr he hu) (Step.refl hr))
  · rename_i c x y
    obtain ⟨cv, hcv, k⟩ := bind_inv k
    split at k
    case h_2 => cases k
    rename_i t
    obtain ⟨u, hu, hk⟩ := map_inv k; cases hk
    have hb := (ev_sim hr he hcv).bool_inv
    cases t with
    | true => exact wp_value (by simp only [execOp, ho, hb, asBool, Sem.run_bind, Sem.run_pure, Result.andThen_ok, if_true]) (hn r _ w (ev_sim hr he hu) (Step.refl hr))
    | false => exact wp_value (by simp only [execOp, ho, hb, asBool, Sem.run_bind, Sem.run_pure, Result.andThen_ok, Bool.false_eq_true, if_false]) (hn r _ w (ev_sim hr he (x := y) (by simpa using hu)) (Step.refl hr))
  · rename_i t
    obtain ⟨z, hz, hk⟩ := map_inv k
    obtain ⟨zv, z1, z2, z3⟩ := zeroT_run (r := r) hz w
    obtain ⟨r', w', u', f1, f2, f3⟩ := newA_sim hr t z3
    rw [hk] at f2 f3
    exact wp_value (by simp only [execOp, ho, Instr.alloc, Sem.run_bind, z1, Result.andThen_ok, f1, Sem.run_pure]) (hn r' _ w' f2 f3)
  · rename_i t x
    obtain ⟨u, hu, k⟩ := bind_inv k
    obtain ⟨cs, hcs, hk⟩ := map_inv k
    obtain ⟨g1, _, _⟩ := flatT_sim (ev_sim hr he hu) hcs
    obtain ⟨r', w', u', f1, f2, f3⟩ := newA_sim hr t g1
    rw [hk] at f2 f3
    exact wp_value (by simp only [execOp, ho, Instr.box, Sem.run_bind, Result.andThen_ok, f1, Sem.run_pure]) (hn r' _ w' f2 f3)
  · rename_i t ps
    obtain ⟨u, hu, k⟩ := bind_inv k
    obtain ⟨x, hx, hk⟩ := map_inv k; cases hk
    have hps := partsE_sim hr he hu
    have hb := buildA_sim (w := w) (ps := u.toArray) (qs := ps.map fun (i, x) => (i, a.eval x)) (by simpa using hps) (by simpa using hx)
    obtain ⟨v', f1, f2⟩ := hb
    exact wp_value (by simp only [execOp, ho, Sem.run_bind, f1, Result.andThen_ok, Sem.run_pure]) (hn r _ w f2 (Step.refl hr))
  · rename_i t n ps
    obtain ⟨u, hu, k⟩ := bind_inv k
    have hps := partsE_sim hr he hu
    obtain ⟨r', v', w', f1, f2, f3⟩ := buildSliceA_sim hr (ps := u.toArray) (qs := ps.map fun (i, x) => (i, a.eval x)) (by simpa using hps) (by simpa using k)
    exact wp_value (by simp only [execOp, ho, Sem.run_bind, f1, Result.andThen_ok, Sem.run_pure]) (hn r' _ w' f2 f3)
  · rename_i t x
    obtain ⟨u, hu, k⟩ := bind_inv k
    obtain ⟨y, hy, hk⟩ := map_inv k; cases hk
    obtain ⟨v', f1, f2⟩ := loadA_sim hr (ev_sim hr he hu) hy
    exact wp_value (by simp only [execOp, ho, Sem.run_bind, f1, Result.andThen_ok, Sem.run_pure]) (hn r _ w f2 (Step.refl hr))
  · rename_i t p x
    obtain ⟨pv, hp, k⟩ := bind_inv k
    obtain ⟨u, hu, k⟩ := bind_inv k
    obtain ⟨y, hy, hk⟩ := map_inv k; cases hk
    obtain ⟨w', f1, f2⟩ := storeA_sim hr (ev_sim hr he hp) (ev_sim hr he hu) hy
    exact wp_skip' (by simp only [execOp, ho, Sem.run_bind, f1, Result.andThen_ok, Sem.run_pure]) (hn r _ w' (RV.undef r) f2)
  · rename_i x
    obtain ⟨u, hu, k⟩ := bind_inv k
    obtain ⟨y, hy, hk⟩ := map_inv k; cases hk
    obtain ⟨v', f1, f2⟩ := nilCheckA_sim (w := w) ho (ev_sim hr he hu) hy
    exact wp_value f1 (hn r _ w f2 (Step.refl hr))
  · rename_i op t x y t'
    obtain ⟨xv, hx, k⟩ := bind_inv k
    obtain ⟨yv, hy, k⟩ := bind_inv k
    obtain ⟨u, hu, hk⟩ := map_inv k; cases hk
    obtain ⟨v', f1, f2⟩ := binA_sim (w := w) ho (ev_sim hr he hx) (ev_sim hr he hy) hu
    exact wp_value f1 (hn r _ w f2 (Step.refl hr))
  · rename_i op t x
    obtain ⟨u, hu, k⟩ := bind_inv k
    obtain ⟨y, hy, hk⟩ := map_inv k; cases hk
    obtain ⟨f1, f2⟩ := unA_sim (P := P) (w := w) (ev_sim hr he hu) hy
    exact wp_value (by simp only [execOp, ho, Sem.run_bind, f1, Result.andThen_ok, Sem.run_pure]) (hn r _ w f2 (Step.refl hr))
  · rename_i s d x
    obtain ⟨u, hu, k⟩ := bind_inv k
    obtain ⟨r', v', w', f1, f2, f3⟩ := convA_sim hr (ev_sim hr he hu) k
    exact wp_value (by simp only [execOp, ho, Sem.run_bind, f1, Result.andThen_ok, Sem.run_pure]) (hn r' _ w' f2 f3)
  · rename_i t x
    obtain ⟨u, hu, k⟩ := bind_inv k
    obtain ⟨y, hy, hk⟩ := map_inv k; cases hk
    obtain ⟨v', f1, f2⟩ := makeInterfaceA_sim (w := w) (ev_sim hr he hu) hy
    exact wp_value (by simp only [execOp, ho, Sem.run_bind, f1, Result.andThen_ok, Sem.run_pure]) (hn r _ w f2 (Step.refl hr))
  · rename_i f xs ys
    obtain ⟨xv, hx, k⟩ := bind_inv k
    obtain ⟨yv, hy, hk⟩ := map_inv k; cases hk
    have e1 := evs_sim hr he hx
    have e2 := evs_sim hr he hy
    refine wp_value (v' := .func (.func f) (xs.map a.eval) (ys.map a.eval)) (by simp only [execOp, ho, Instr.makeFunc, Sem.run_bind, Result.andThen_ok, Sem.run_pure]) (hn r _ w ?_ (Step.refl hr))
    have e1' : RL r xv.toArray.toList (xs.map a.eval).toList := by simpa using e1
    have e2' : RL r yv.toArray.toList (ys.map a.eval).toList := by simpa using e2
    exact .func _ _ _ _ _ e1'.size e2'.size e1'.arr e2'.arr
  · rename_i t l c
    obtain ⟨lv, hl, k⟩ := bind_inv k
    obtain ⟨cv, hc, k⟩ := bind_inv k
    obtain ⟨r', v', w', f1, f2, f3⟩ := makeSliceA_sim hr (ev_sim hr he hl) (ev_sim hr he hc) k
    exact wp_value (by simp only [execOp, ho, Sem.run_bind, f1, Result.andThen_ok, Sem.run_pure]) (hn r' _ w' f2 f3)
  · rename_i t x lo hi mx
    obtain ⟨xv, hx, k⟩ := bind_inv k
    obtain ⟨l1, hl1, k⟩ := bind_inv k
    obtain ⟨l2, hl2, k⟩ := bind_inv k
    obtain ⟨l3, hl3, k⟩ := bind_inv k
    obtain ⟨u, hu, hk⟩ := map_inv k; cases hk
    obtain ⟨v', f1, f2⟩ := sliceA_sim hr (ev_sim hr he hx) (optE_sim hr he hl1) (optE_sim hr he hl2) (optE_sim hr he hl3) hu
    exact wp_value (by simp only [execOp, ho, Sem.run_bind, f1, Result.andThen_ok, Sem.run_pure]) (hn r _ w f2 (Step.refl hr))
  · rename_i s x f
    obtain ⟨u, hu, k⟩ := bind_inv k
    obtain ⟨y, hy, hk⟩ := map_inv k; cases hk
    obtain ⟨v', f1, f2⟩ := fieldAddrA_sim (w := w) (ev_sim hr he hu) hy
    exact wp_value (by simp only [execOp, ho, Sem.run_bind, f1, Result.andThen_ok, Sem.run_pure]) (hn r _ w f2 (Step.refl hr))
  · rename_i s x f
    obtain ⟨u, hu, k⟩ := bind_inv k
    obtain ⟨y, hy, hk⟩ := map_inv k; cases hk
    obtain ⟨v', f1, f2⟩ := fieldA_sim (w := w) (ev_sim hr he hu) hy
    exact wp_value (by simp only [execOp, ho, Sem.run_bind, f1, Result.andThen_ok, Sem.run_pure]) (hn r _ w f2 (Step.refl hr))
  · rename_i t x i
    obtain ⟨u, hu, k⟩ := bind_inv k
    obtain ⟨iv, hi, k⟩ := bind_inv k
    obtain ⟨y, hy, hk⟩ := map_inv k; cases hk
    obtain ⟨v', f1, f2⟩ := indexAddrA_sim (w := w) (ev_sim hr he hu) (ev_sim hr he hi) hy
    exact wp_value (by simp only [execOp, ho, Sem.run_bind, f1, Result.andThen_ok, Sem.run_pure]) (hn r _ w f2 (Step.refl hr))
  · rename_i t x i
    obtain ⟨u, hu, k⟩ := bind_inv k
    obtain ⟨iv, hi, k⟩ := bind_inv k
    obtain ⟨y, hy, hk⟩ := map_inv k; cases hk
    obtain ⟨v', f1, f2⟩ := indexA_sim (w := w) (ev_sim hr he hu) (ev_sim hr he hi) hy
    exact wp_value (by simp only [execOp, ho, Sem.run_bind, f1, Result.andThen_ok, Sem.run_pure]) (hn r _ w f2 (Step.refl hr))
  · rename_i x i
    obtain ⟨u, hu, k⟩ := bind_inv k
    obtain ⟨y, hy, hk⟩ := map_inv k; cases hk
    obtain ⟨v', f1, f2⟩ := extractA_sim (P := P) (w := w) (ev_sim hr he hu) hy
    exact wp_value (by simp only [execOp, ho, Sem.run_bind, f1, Result.andThen_ok, Sem.run_pure]) (hn r _ w f2 (Step.refl hr))
  · rename_i f args argTypes
    obtain ⟨fv, hf, k⟩ := bind_inv k
    obtain ⟨vs, hv, k⟩ := bind_inv k
    exact callA_sim hC hr (ev_sim hr he hf) (args' := args.map a.eval) (by simpa using evs_sim hr he hv) k ho rfl rfl rfl hn
  · rename_i b args argTypes
    obtain ⟨vs, hv, k⟩ := bind_inv k
    obtain ⟨r', v', w', f1, f2, f3⟩ := builtinA_sim (ty := o.type) (cs := args.map fun | .const _ => true | _ => false) hr (args' := args.map a.eval) (by simpa using evs_sim hr he hv) k
    refine wp_value ?_ (hn r' _ w' f2 f3)
    simp only [execOp, ho, resolve, Sem.run_bind, Sem.run_pure, Result.andThen_ok, invoke]
    exact f1
  · cases k
end
end Go.Proofs.YtlihmncbhaimkaaDoor.Am
/- Regions of the abstract machine are regions of the model. -/
namespace Go.Proofs.YtlihmncbhaimkaaDoor.Am
open Go Go.RowKit

section
variable {P : Program} {C : Oracle} {base : Nat} {r : Ren} {h h' : Heap} {w : World} {e : Env} {a : Act} {o : Oper} {Q : Exit → Act → World → Prop}
/-- A state of a call, on both sides. -/
structure SR (P : Program) (base : Nat) (r : Ren) (e : Env) (h : Heap) (a : Act) (w : World) : Prop where
  re : RE r e a.tmps
  rh : RH P base r h w
  nd : a.defers = []
/-- From one state to another one. -/
structure SS (base : Nat) (r : Ren) (h : Heap) (a : Act) (w : World) (r' : Ren) (h' : Heap) (a' : Act) (w' : World) : Prop where
  le : Ren.le r r'
  below : Below base w w'
  size : a'.tmps.size = a.tmps.size
  fr : Fr r h w r' h' w'
theorem SS.refl : SS base r h a w r h a w := ⟨Ren.le.refl r, Below.refl _ _, rfl, Fr.refl _ _ _⟩
theorem SS.trans {r1 r2 : Ren} {h1 h2 : Heap} {a1 a2 : Act} {w1 w2 : World} (x : SS base r h a w r1 h1 a1 w1) (y : SS base r1 h1 a1 w1 r2 h2 a2 w2) : SS base r h a w r2 h2 a2 w2 :=
  ⟨x.le.trans y.le, x.below.trans y.below, y.size.trans x.size, x.fr.trans y.fr⟩
theorem put_size (a : Act) (d : Option Tmp) (v : Value) : (a.put d v).tmps.size = a.tmps.size := by
  cases d <;> simp [Act.put]
theorem put_defers (a : Act) (d : Option Tmp) (v : Value) : (a.put d v).defers = a.defers := by cases d <;> rfl
theorem RE.put {tmps : Array Value} (he : RE r e tmps) {d : Option Nat} {v v' : Value} (hv : RV r v v') (hd : ∀ n, d = some n → n < tmps.size) (ht : tmps = a.tmps) : RE r (upd e d (some v)) (a.put d v').tmps := by
  subst ht
  cases d with
  | none => exact he
  | some d =>
    intro n u hu
    simp only [upd] at hu
    have hlt := hd d rfl
    split at hu
    · rename_i hn
      subst hn
      cases hu
      exact ⟨v', by simp [Act.put, hlt], hv⟩
    · rename_i hn
      obtain ⟨u', h1, h2⟩ := he n u hu
      exact ⟨u', by simp only [Act.put, Array.getElem?_setIfInBounds]; rw [if_neg (Ne.symm hn)]; exact h1, h2⟩
theorem wantA_sim {ops : List Oper} (he : RE r e a.tmps) {b : Bool} (k : wantA ops e o = some b) : Region.wanted o (yielded ops.toArray a.tmps) = b := by
  unfold wantA at k
  unfold Region.wanted
  split at k
  · rename_i hg; cases k; simp [hg]
  · rename_i j wnt hg
    obtain ⟨d, hd, k⟩ := bind_inv k
    obtain ⟨v, hv, hk⟩ := map_inv k
    obtain ⟨v', h1, h2⟩ := he d v hv
    have hy : yielded ops.toArray a.tmps j = match v' with
      | .bool b => some b
      | _ => none := by
      unfold yielded
      have hd' : ((ops.toArray[j]?).bind (·.dst)).bind (a.tmps[·]?) = some v' := by
        simp only [List.getElem?_toArray, hd, Option.bind_some, h1]
      rw [hd']
      cases v' <;> rfl
    simp only [hg, hy]
    subst hk
    cases h2 <;> simp
theorem stepA_sim (hC : OSound P C) {ops : List Oper} (hs : SR P base r e h a w) (hd : ∀ n, o.dst = some n → n < a.tmps.size) {v : Value} (k : stepA P C ops o e h = some (v, h')) {K : Act → World → Prop}
    (hn : ∀ r' a' w', SR P base r' (upd e o.dst (some v)) h' a' w' → SS base r h a w r' h' a' w' → K a' w') :
    if Region.wanted o (yielded ops.toArray a.tmps) then o.wp P a w K Q ∨ (o.asks P a w ∧ LetsOut Q) else K (a.put o.dst undef) w := by
  unfold stepA at k
  obtain ⟨b, hb, k⟩ := bind_inv k
  rw [wantA_sim hs.re hb]
  cases b with
  | true =>
    simp only [if_true] at k ⊢
    refine .inl (opA_sim hC hs.rh hs.re k fun r' v' w' hv hst => hn r' _ w' ⟨(hs.re.mono hst.le).put hv hd rfl, hst.rh, by rw [put_defers]; exact hs.nd⟩ ⟨hst.le, hst.below, put_size _ _ _, hst.fr⟩)
  | false =>
    simp only [Bool.false_eq_true, if_false] at k ⊢
    cases k
    exact hn r _ w ⟨hs.re.put (RV.undef r) hd rfl, hs.rh, by rw [put_defers]; exact hs.nd⟩ ⟨Ren.le.refl _, Below.refl _ _, put_size _ _ _, Fr.refl _ _ _⟩
theorem opsA_sim (hC : OSound P C) {ops : List Oper} : ∀ (l : List Oper) (r : Ren) (e : Env) (h : Heap) (a : Act) (w : World) (e' : Env), SR P base r e h a w → (∀ n ∈ dstsOps l, n < a.tmps.size) → opsA P C ops l e h = some (e', h') →
    (∀ r' a' w', SR P base r' e' h' a' w' → SS base r h a w r' h' a' w' → Q .normal a' w') → wpList P ops.toArray Q l a w
  | [], r, e, h, a, w, e', hs, _, k, hn => by
    simp only [opsA] at k; cases k
    exact wpList_nil (hn r a w hs SS.refl)
  | o :: l, r, e, h, a, w, e', hs, hd, k, hn => by
    unfold opsA at k
    obtain ⟨⟨v, h1⟩, hst, k⟩ := bind_inv k
    unfold wpList
    have hd1 : ∀ n, o.dst = some n → n < a.tmps.size := fun n e => hd n (by simp [dstsOps, e])
    have hd2 : ∀ n ∈ dstsOps l, n < a.tmps.size := fun n hn => hd n (by
      simp only [dstsOps, List.mem_filterMap, List.mem_cons] at hn ⊢
      obtain ⟨x, hx, e⟩ := hn
      exact ⟨x, .inr hx, e⟩)
    exact stepA_sim hC hs hd1 hst fun r1 a1 w1 hs1 ss1 => opsA_sim hC l r1 _ h1 a1 w1 e' hs1 (fun n hn => by rw [ss1.size]; exact hd2 n hn) k fun r' a' w' hs' ss' => hn r' a' w' hs' (ss1.trans ss')
theorem SR.drawn (hs : SR P base r e h a w) : SR P base r e h a { w with drawn := w.drawn + 1 } := ⟨hs.re, hs.rh.of_heap rfl, hs.nd⟩
end
end Go.Proofs.YtlihmncbhaimkaaDoor.Am
/- A region that draws its order: every order comes to what the text's order comes to. -/
namespace Go.Proofs.YtlihmncbhaimkaaDoor.Am
open Go Go.RowKit

/-! ### What an operation looks at -/
section
variable {P : Program} {C : Oracle}
theorem evs_congr {e e' : Env} : ∀ {l : List Operand}, (∀ x ∈ l, ev P e x = ev P e' x) → evs P e l = evs P e' l
  | [], _ => rfl
  | x :: l, h => by unfold evs; rw [h x (by simp), evs_congr fun y hy => h y (by simp [hy])]
theorem partsE_congr {e e' : Env} : ∀ {l : List (Nat × Operand)}, (∀ x ∈ l.map (·.2), ev P e x = ev P e' x) → partsE P e l = partsE P e' l
  | [], _ => rfl
  | x :: l, h => by unfold partsE; rw [h x.2 (by simp), partsE_congr fun y hy => h y (by simp at hy ⊢; exact .inr hy)]
theorem optE_congr {e e' : Env} {x : Option Operand} (h : ∀ y ∈ x.toArray.toList, ev P e y = ev P e' y) : optE P e x = optE P e' x := by
  cases x with
  | none => rfl
  | some x => simp only [optE]; rw [h x (by simp)]
theorem opA_congr {e e' : Env} {op : Op} (hh : Heap) (h : ∀ x ∈ op.operands.toList, ev P e x = ev P e' x) : opA P C op e hh = opA P C op e' hh := by
  unfold opA
  split
  all_goals first
    | rfl
    | (rename_i x; rw [h x (by simp [Op.operands])]; done)
    | (rename_i t x; rw [h x (by simp [Op.operands])]; done)
    | (rename_i c x y; rw [h c (by simp [Op.operands]), h x (by simp [Op.operands]), h y (by simp [Op.operands])]; done)
    | (rename_i t x y; rw [h x (by simp [Op.operands]), h y (by simp [Op.operands])]; done)
    | (rename_i op t x y t'; rw [h x (by simp [Op.operands]), h y (by simp [Op.operands])]; done)
    | (rename_i op t x; rw [h x (by simp [Op.operands])]; done)
    | (rename_i t ps; rw [partsE_congr (e := e) (e' := e') fun x hx => h x (by simpa [Op.operands] using hx)]; done)
    | (rename_i t n ps; rw [partsE_congr (e := e) (e' := e') fun x hx => h x (by simpa [Op.operands] using hx)]; done)
    | (rename_i f xs ys; rw [evs_congr (e := e) (e' := e') (l := xs.toList) fun x hx => h x (by simp [Op.operands] at hx ⊢; exact .inl hx), evs_congr (e := e) (e' := e') (l := ys.toList) fun x hx => h x (by simp [Op.operands] at hx ⊢; exact .inr hx)]; done)
    | (rename_i t x lo hi mx
       rw [h x (by simp [Op.operands]), optE_congr (e := e) (e' := e') (x := lo) fun y hy => h y (by simp [Op.operands] at hy ⊢; simp [hy]), optE_congr (e := e) (e' := e') (x := hi) fun y hy => h y (by simp [Op.operands] at hy ⊢; simp [hy]),
         optE_congr (e := e) (e' := e') (x := mx) fun y hy => h y (by simp [Op.operands] at hy ⊢; simp [hy])]; done)
    | (rename_i s x f; rw [h x (by simp [Op.operands])]; done)
    | (rename_i x i; rw [h x (by simp [Op.operands])]; done)
    | (rename_i f args argTypes; rw [h f (by simp [Op.operands, Call.operands]), evs_congr (e := e) (e' := e') fun x hx => h x (by simp [Op.operands, Call.operands] at hx ⊢; exact .inr hx)]; done)
    | (rename_i b args argTypes; rw [evs_congr (e := e) (e' := e') fun x hx => h x (by simpa [Op.operands, Call.operands] using hx)]; done)
theorem stepA_congr {ops : List Oper} {o : Oper} {e e' : Env} (hh : Heap) (h : ∀ t ∈ o.looksAt ops.toArray, e t = e' t) : stepA P C ops o e hh = stepA P C ops o e' hh := by
  have h1 : wantA ops e o = wantA ops e' o := by
    unfold wantA
    split
    · rfl
    · rename_i j wnt hg
      cases hd : (ops[j]?).bind (·.dst) with
      | none => rfl
      | some d =>
        simp only [Option.bind_some]
        rw [h d (by simp [Oper.looksAt, hg, hd])]
  have h2 : opA P C o.op e hh = opA P C o.op e' hh := opA_congr hh fun x hx => by
    cases x with
    | tmp t => exact h t (by
        simp only [Oper.looksAt, List.mem_append, List.mem_filterMap]
        exact .inl ⟨.tmp t, hx, rfl⟩)
    | const v => rfl
    | global g => rfl
    | func f => rfl
  unfold stepA
  rw [h1, h2]

theorem wantA_congr {ops : List Oper} {o : Oper} {e e' : Env} (h : ∀ t ∈ o.looksAt ops.toArray, e t = e' t) : wantA ops e o = wantA ops e' o := by
  unfold wantA
  split
  · rfl
  · rename_i j wnt hg
    cases hd : (ops[j]?).bind (·.dst) with
    | none => rfl
    | some d =>
      simp only [Option.bind_some]
      rw [h d (by simp [Oper.looksAt, hg, hd])]
theorem looks_ev {ops : List Oper} {o : Oper} {e e' : Env} (h : ∀ t ∈ o.looksAt ops.toArray, e t = e' t) : ∀ x ∈ o.op.operands.toList, ev P e x = ev P e' x := fun x hx => by
  cases x with
  | tmp t => exact h t (by
      simp only [Oper.looksAt, List.mem_append, List.mem_filterMap]
      exact .inl ⟨.tmp t, hx, rfl⟩)
  | const v => rfl
  | global g => rfl
  | func f => rfl
theorem freshOp_congr {e e' : Env} {op : Op} (h : ∀ x ∈ op.operands.toList, ev P e x = ev P e' x) : freshOp P op e = freshOp P op e' := by
  unfold freshOp
  split
  · rfl
  · rename_i t x; rw [h x (by simp [Op.operands])]
  · rename_i t n ps; rw [partsE_congr (e := e) (e' := e') fun x hx => h x (by simpa [Op.operands] using hx)]
  · rename_i t x y; rw [h x (by simp [Op.operands]), h y (by simp [Op.operands])]
  · rfl
theorem fresh_chain {o : Op} (h : isFresh o = true) : clsOf o = .chain := by
  unfold isFresh at h
  split at h <;> first
    | rfl
    | cases h
theorem stepD_eq {ops : List Oper} {n0 i : Nat} {o : Oper} (h : isFresh o.op = false) (e : Env) (hh : Heap) : stepD P C ops n0 i o e hh = stepA P C ops o e hh := by
  unfold stepD stepA
  rw [h]
  rfl
theorem stepD_congr {ops : List Oper} {n0 i : Nat} {o : Oper} {e e' : Env} (hh : Heap) (h : ∀ t ∈ o.looksAt ops.toArray, e t = e' t) : stepD P C ops n0 i o e hh = stepD P C ops n0 i o e' hh := by
  unfold stepD
  rw [wantA_congr h, opA_congr hh (looks_ev h), freshOp_congr (looks_ev h)]

/-! ### Quiet operations and reads -/
theorem opA_quiet {op : Op} {e : Env} {h h1 : Heap} {v : Value} (hc : clsOf op = .quiet) (k : opA P C op e h = some (v, h1)) : h1 = h ∧ ∀ h2, opA P C op e h2 = some (v, h2) := by
  unfold clsOf at hc
  split at hc
  all_goals first
    | (exfalso; cases hc; done)
    | (unfold opA at k ⊢
       simp only at k ⊢
       first
        | (obtain ⟨u, hu, hk⟩ := map_inv k; cases hk; exact ⟨rfl, fun h2 => by rw [hu]; rfl⟩)
        | (obtain ⟨x1, hx1, k⟩ := bind_inv k
           obtain ⟨u, hu, hk⟩ := map_inv k
           cases hk
           exact ⟨rfl, fun h2 => by rw [hx1, Option.bind_some, hu]; rfl⟩)
        | (obtain ⟨x1, hx1, k⟩ := bind_inv k
           obtain ⟨x2, hx2, k⟩ := bind_inv k
           obtain ⟨u, hu, hk⟩ := map_inv k
           cases hk
           exact ⟨rfl, fun h2 => by rw [hx1, Option.bind_some, hx2, Option.bind_some, hu]; rfl⟩)
        | (obtain ⟨x1, hx1, k⟩ := bind_inv k
           split at k
           · obtain ⟨u, hu, hk⟩ := map_inv k
             cases hk
             exact ⟨rfl, fun h2 => by rw [hx1, Option.bind_some]; simp only [hu]; rfl⟩
           · cases k))
    | skip
  · rename_i fn xs ys
    cases fn with
    | func f =>
      unfold opA at k ⊢
      simp only at k ⊢
      obtain ⟨x1, hx1, k⟩ := bind_inv k
      obtain ⟨u, hu, hk⟩ := map_inv k
      cases hk
      exact ⟨rfl, fun h2 => by rw [hx1, Option.bind_some, hu]; rfl⟩
    | _ => unfold opA at k; cases k
  · rename_i b args argTypes
    unfold opA at k ⊢
    simp only at k ⊢
    obtain ⟨x1, hx1, k⟩ := bind_inv k
    cases b <;> first
      | (exfalso; cases hc; done)
      | (unfold builtinA at k ⊢
         simp only at k ⊢
         obtain ⟨u, hu, hk⟩ := map_inv k
         cases hk
         exact ⟨rfl, fun h2 => by rw [hx1, Option.bind_some]; simp only [hu]; rfl⟩)
theorem opA_read {op : Op} {e : Env} {h h1 : Heap} {v : Value} (hc : clsOf op = .read) (k : opA P C op e h = some (v, h1)) : h1 = h := by
  unfold clsOf at hc
  split at hc
  all_goals first
    | (exfalso; cases hc; done)
    | (unfold opA at k
       simp only at k
       first
        | (obtain ⟨x1, hx1, k⟩ := bind_inv k
           obtain ⟨u, hu, hk⟩ := map_inv k
           cases hk
           rfl)
        | (obtain ⟨x1, hx1, k⟩ := bind_inv k
           obtain ⟨x2, hx2, k⟩ := bind_inv k
           obtain ⟨x3, hx3, k⟩ := bind_inv k
           obtain ⟨x4, hx4, k⟩ := bind_inv k
           obtain ⟨u, hu, hk⟩ := map_inv k
           cases hk
           rfl)
        | cases k)
    | skip
  · rename_i b args argTypes
    unfold opA at k
    simp only at k
    obtain ⟨x1, hx1, k⟩ := bind_inv k
    cases b <;> first
      | (exfalso; cases hc; done)
      | (unfold builtinA at k
         split at k <;> first
          | (exfalso; contradiction)
          | (cases k; done)
          | (obtain ⟨u, hu, hk⟩ := map_inv k; cases hk; rfl))
theorem stepA_quiet {ops : List Oper} {o : Oper} {e : Env} {h h1 : Heap} {v : Value} (hc : clsOf o.op = .quiet) (k : stepA P C ops o e h = some (v, h1)) : h1 = h ∧ ∀ h2, stepA P C ops o e h2 = some (v, h2) := by
  unfold stepA at k ⊢
  obtain ⟨b, hb, k⟩ := bind_inv k
  cases b with
  | true =>
    simp only [if_true] at k
    obtain ⟨e1, e2⟩ := opA_quiet hc k
    exact ⟨e1, fun h2 => by rw [hb]; exact e2 h2⟩
  | false =>
    simp only [Bool.false_eq_true, if_false] at k
    cases k
    exact ⟨rfl, fun h2 => by rw [hb]; rfl⟩
theorem stepA_read {ops : List Oper} {o : Oper} {e : Env} {h h1 : Heap} {v : Value} (hc : clsOf o.op = .read) (k : stepA P C ops o e h = some (v, h1)) : h1 = h := by
  unfold stepA at k
  obtain ⟨b, hb, k⟩ := bind_inv k
  cases b with
  | true => simp only [if_true] at k; exact opA_read hc k
  | false => simp only [Bool.false_eq_true, if_false] at k; cases k; rfl

/-! ### The run in the text's order, laid out -/
/-- What the text's order comes to: the variables and the heap ahead of each operation, what each one yields. -/
structure Trace (P : Program) (C : Oracle) (ops : List Oper) (b : List Nat) (n0 : Nat) (E : Nat → Env) (Hh : Nat → Heap) (V : Nat → Value) : Prop where
  step : ∀ (i : Nat) o, ops[i]? = some o → stepD P C ops n0 i o (E i) (Hh i) = some (V i, Hh (i + 1))
  env : ∀ (i : Nat) o, ops[i]? = some o → E (i + 1) = upd (E i) o.dst (some (V i))
  early : ∀ (i j : Nat) o o', ops[i]? = some o → ops[j]? = some o' → clsOf o.op = .read → clsOf o'.op = .chain → j < i → ordered b j i = false → stepA P C ops o (E i) (Hh j) = some (V i, Hh j)
  late : ∀ (i j : Nat) o o', ops[i]? = some o → ops[j]? = some o' → clsOf o.op = .read → clsOf o'.op = .chain → i < j → ordered b i j = false → stepA P C ops o (E i) (Hh (j + 1)) = some (V i, Hh (j + 1))
theorem drawA_trace {ops : List Oper} {b : List Nat} {n0 : Nat} : ∀ (l : List (Oper × Nat)) (n : Nat) (e : Env) (h : Heap) (rs : List (Nat × Oper × Env × Value)) (hs : List (Nat × Heap)) (e' : Env) (h' : Heap), l = (ops.drop n).zipIdx n → n ≤ ops.length → drawA P C ops b n0 l e h rs hs = some (e', h') →
    ∀ (E : Nat → Env) (Hh : Nat → Heap) (V : Nat → Value), E n = e → Hh n = h →
    (∀ (i : Nat) o, i < n → ops[i]? = some o → stepD P C ops n0 i o (E i) (Hh i) = some (V i, Hh (i + 1)) ∧ E (i + 1) = upd (E i) o.dst (some (V i))) →
    (∀ (i j : Nat) o o', i < n → ops[i]? = some o → ops[j]? = some o' → clsOf o.op = .read → clsOf o'.op = .chain → j < i → ordered b j i = false → stepA P C ops o (E i) (Hh j) = some (V i, Hh j)) →
    (∀ (i j : Nat) o o', j < n → ops[i]? = some o → ops[j]? = some o' → clsOf o.op = .read → clsOf o'.op = .chain → i < j → ordered b i j = false → stepA P C ops o (E i) (Hh (j + 1)) = some (V i, Hh (j + 1))) →
    (∀ x, x ∈ rs ↔ ∃ o, x.1 < n ∧ ops[x.1]? = some o ∧ clsOf o.op = .read ∧ x.2 = (o, E x.1, V x.1)) →
    (∀ x, x ∈ hs ↔ ∃ o, x.1 < n ∧ ops[x.1]? = some o ∧ clsOf o.op = .chain ∧ x.2 = Hh x.1) →
    ∃ E' Hh' V', Trace P C ops b n0 E' Hh' V' ∧ E' 0 = E 0 ∧ Hh' 0 = Hh 0 ∧ E' ops.length = e' ∧ Hh' ops.length = h' := by
  intro l
  induction l with
  | nil =>
    intro n e h rs hs e' h' hl hn k E Hh V hE hH p1 p2 p3 p4 p5
    simp only [drawA] at k; cases k
    have hnl : n = ops.length := by
      have := congrArg List.length hl
      simp at this
      omega
    subst hnl
    have lt : ∀ (i : Nat) o, ops[i]? = some o → i < ops.length := fun i o ho => (List.getElem?_eq_some_iff.1 ho).1
    exact ⟨E, Hh, V, ⟨fun i o ho => (p1 i o (lt i o ho) ho).1, fun i o ho => (p1 i o (lt i o ho) ho).2, fun i j o o' ho ho' => p2 i j o o' (lt i o ho) ho ho', fun i j o o' ho ho' => p3 i j o o' (lt j o' ho') ho ho'⟩, rfl, rfl, hE, hH⟩
  | cons x l ih =>
    intro n e h rs hs e' h' hl hn k E Hh V hE hH p1 p2 p3 p4 p5
    obtain ⟨o, i⟩ := x
    have hlt : n < ops.length := by
      rcases Nat.lt_or_ge n ops.length with h1 | h1
      · exact h1
      · rw [List.drop_eq_nil_of_le h1] at hl; simp at hl
    rw [List.drop_eq_getElem_cons hlt, List.zipIdx_cons] at hl
    simp only [List.cons.injEq, Prod.mk.injEq] at hl
    obtain ⟨⟨ho, hi⟩, hl⟩ := hl
    subst hi
    have hon : ops[i]? = some o := by rw [ho]; simp [hlt]
    unfold drawA at k
    obtain ⟨⟨v, h1⟩, hst, k⟩ := bind_inv k
    simp only at k
    -- the next place
    let E2 : Nat → Env := fun m => if m ≤ i then E m else upd e o.dst (some v)
    let V2 : Nat → Value := fun m => if m < i then V m else v
    have go : ∀ (hx : Heap) (rs2 : List (Nat × Oper × Env × Value)) (hs2 : List (Nat × Heap)), stepD P C ops n0 i o e h = some (v, hx) → drawA P C ops b n0 l (upd e o.dst (some v)) hx rs2 hs2 = some (e', h') →
        (clsOf o.op = .read → ∀ (j : Nat) o', ops[j]? = some o' → clsOf o'.op = .chain → j < i → ordered b j i = false → stepA P C ops o e (Hh j) = some (v, Hh j)) →
        (clsOf o.op = .chain → ∀ (m : Nat) o', ops[m]? = some o' → clsOf o'.op = .read → m < i → ordered b m i = false → stepA P C ops o' (E m) hx = some (V m, hx)) →
        (∀ x, x ∈ rs2 ↔ x ∈ rs ∨ (clsOf o.op = .read ∧ x = (i, o, e, v))) → (∀ x, x ∈ hs2 ↔ x ∈ hs ∨ (clsOf o.op = .chain ∧ x = (i, h))) →
        ∃ E' Hh' V', Trace P C ops b n0 E' Hh' V' ∧ E' 0 = E 0 ∧ Hh' 0 = Hh 0 ∧ E' ops.length = e' ∧ Hh' ops.length = h' := by
      intro hx rs2 hs2 hst' k2 q1 q2 q3 q4
      let H2 : Nat → Heap := fun m => if m ≤ i then Hh m else hx
      have e1 : ∀ m, m ≤ i → E2 m = E m := fun m hm => if_pos hm
      have e2 : ∀ m, m < i → V2 m = V m := fun m hm => if_pos hm
      have e3 : ∀ m, m ≤ i → H2 m = Hh m := fun m hm => if_pos hm
      have e4 : E2 (i + 1) = upd e o.dst (some v) := if_neg (by omega)
      have e5 : V2 i = v := if_neg (by omega)
      have e6 : H2 (i + 1) = hx := if_neg (by omega)
      have res := ih (i + 1) _ hx rs2 hs2 e' h' hl (by omega) k2 E2 H2 V2 e4 e6 ?_ ?_ ?_ ?_ ?_
      · obtain ⟨E', Hh', V', r1, r2, r3, r4, r5⟩ := res
        exact ⟨E', Hh', V', r1, by rw [r2, e1 0 (by omega)], by rw [r3, e3 0 (by omega)], r4, r5⟩
      · intro m om hm hom
        rcases Nat.lt_or_ge m i with h2 | h2
        · rw [e1 m (by omega), e3 m (by omega), e2 m h2, e3 (m + 1) (by omega), e1 (m + 1) (by omega)]
          exact p1 m om h2 hom
        · obtain rfl : m = i := by omega
          rw [hon] at hom; cases hom
          rw [e1 m (by omega), e3 m (by omega), e5, e6, e4, hE, hH]
          exact ⟨hst', rfl⟩
      · intro m j om oj hm hom hoj c1 c2 hjm hord
        rcases Nat.lt_or_ge m i with h2 | h2
        · rw [e1 m (by omega), e3 j (by omega), e2 m h2]
          exact p2 m j om oj h2 hom hoj c1 c2 hjm hord
        · obtain rfl : m = i := by omega
          rw [hon] at hom; cases hom
          rw [e1 m (by omega), e3 j (by omega), e5, hE]
          exact q1 c1 j oj hoj c2 hjm hord
      · intro m j om oj hj hom hoj c1 c2 hmj hord
        rcases Nat.lt_or_ge j i with h2 | h2
        · rw [e1 m (by omega), e3 (j + 1) (by omega), e2 m (by omega)]
          exact p3 m j om oj h2 hom hoj c1 c2 hmj hord
        · obtain rfl : j = i := by omega
          rw [hon] at hoj; cases hoj
          rw [e1 m (by omega), e6, e2 m (by omega)]
          exact q2 c2 m om hom c1 hmj hord
      · intro x
        rw [q3, p4]
        constructor
        · rintro (⟨ox, x1, x2, x3, x4⟩ | ⟨x1, x2⟩)
          · exact ⟨ox, by omega, x2, x3, by rw [x4, e1 _ (by omega), e2 _ x1]⟩
          · subst x2
            exact ⟨o, by simp, hon, x1, by simp [e1 i (Nat.le_refl _), e5, hE]⟩
        · rintro ⟨ox, x1, x2, x3, x4⟩
          rcases Nat.lt_or_ge x.1 i with h2 | h2
          · exact .inl ⟨ox, h2, x2, x3, by rw [x4, e1 _ (by omega), e2 _ h2]⟩
          · have hxi : x.1 = i := by omega
            rw [hxi, hon] at x2
            cases x2
            refine .inr ⟨x3, Prod.ext hxi ?_⟩
            rw [x4, hxi, e1 i (Nat.le_refl _), e5, hE]
      · intro x
        rw [q4, p5]
        constructor
        · rintro (⟨ox, x1, x2, x3, x4⟩ | ⟨x1, x2⟩)
          · exact ⟨ox, by omega, x2, x3, by rw [x4, e3 _ (by omega)]⟩
          · subst x2
            exact ⟨o, by simp, hon, x1, by simp [e3 i (Nat.le_refl _), hH]⟩
        · rintro ⟨ox, x1, x2, x3, x4⟩
          rcases Nat.lt_or_ge x.1 i with h2 | h2
          · exact .inl ⟨ox, h2, x2, x3, by rw [x4, e3 _ (by omega)]⟩
          · have hxi : x.1 = i := by omega
            rw [hxi, hon] at x2
            cases x2
            refine .inr ⟨x3, Prod.ext hxi ?_⟩
            rw [x4, hxi, e3 i (Nat.le_refl _), hH]
    cases hc : clsOf o.op with
    | quiet =>
      rw [hc] at k
      have hq := (stepA_quiet hc (by rwa [stepD_eq (by cases hf : isFresh o.op with | false => rfl | true => rw [fresh_chain hf] at hc; cases hc)] at hst)).1
      subst hq
      exact go h1 rs hs hst k (fun c => by rw [hc] at c; cases c) (fun c => by rw [hc] at c; cases c) (fun x => by simp [hc]) (fun x => by simp [hc])
    | read =>
      rw [hc] at k
      have hq := stepA_read hc (by rwa [stepD_eq (by cases hf : isFresh o.op with | false => rfl | true => rw [fresh_chain hf] at hc; cases hc)] at hst)
      subst hq
      simp only at k
      split at k
      case isFalse => cases k
      rename_i hall
      refine go h1 _ hs hst k (fun _ j o' hoj c2 hj hord => ?_) (fun c => by rw [hc] at c; cases c) (fun x => by simp only [List.mem_cons, hc, true_and]; exact or_comm) (fun x => by simp [hc])
      exact hall (j, Hh j) ((p5 _).2 ⟨o', hj, hoj, c2, rfl⟩) hord
    | chain =>
      rw [hc] at k
      simp only at k
      split at k
      case isFalse => cases k
      rename_i hall
      refine go h1 rs _ hst k (fun c => by rw [hc] at c; cases c) (fun _ m o' hom c2 hm hord => ?_) (fun x => by simp [hc]) (fun x => by simp only [List.mem_cons, hc, true_and]; exact or_comm)
      exact hall (m, o', E m, V m) ((p4 _).2 ⟨o', hm, hom, c2, rfl⟩) hord
end
end Go.Proofs.YtlihmncbhaimkaaDoor.Am
/- A region that draws its order, second part: the orders. -/
namespace Go.Proofs.YtlihmncbhaimkaaDoor.Am
open Go Go.RowKit

/-! ### What stands before what -/
def befStep (acc : Array Nat) (o : Oper) : Nat := o.after.foldl (fun s e => if Region.binds .any e then s ||| 2 ^ e.on ||| acc.getD e.on 0 else s) 0
theorem befStep_bit (acc : Array Nat) (o : Oper) (i : Nat) : (befStep acc o).testBit i = true → ∃ ed ∈ o.after.toList, Region.binds .any ed = true ∧ (i = ed.on ∨ (acc.getD ed.on 0).testBit i = true) := by
  unfold befStep
  rw [← Array.foldl_toList]
  have key : ∀ (l : List Edge) (s : Nat), (l.foldl (fun s e => if Region.binds .any e then s ||| 2 ^ e.on ||| acc.getD e.on 0 else s) s).testBit i = true → s.testBit i = true ∨ ∃ ed ∈ l, Region.binds .any ed = true ∧ (i = ed.on ∨ (acc.getD ed.on 0).testBit i = true) := by
    intro l
    induction l with
    | nil => intro s h; exact .inl h
    | cons x l ih =>
      intro s h
      simp only [List.foldl_cons] at h
      rcases ih _ h with h | ⟨ed, h1, h2⟩
      · split at h
        · rename_i hb
          simp only [Nat.testBit_or, Bool.or_eq_true] at h
          rcases h with (h | h) | h
          · exact .inl h
          · refine .inr ⟨x, by simp, hb, .inl ?_⟩
            rw [Nat.testBit_two_pow] at h
            have : x.on = i := by simpa using h
            exact this.symm
          · exact .inr ⟨x, by simp, hb, .inr h⟩
        · exact .inl h
      · exact .inr ⟨ed, by simp [h1], h2⟩
  intro h
  rcases key _ _ h with h | h
  · simp at h
  · exact h
theorem before_go (ops : List Oper) : ∀ (acc : Array Nat), ∃ l : List Nat, (ops.foldl (fun acc o => acc.push (befStep acc o)) acc).toList = acc.toList ++ l ∧ l.length = ops.length ∧
    ∀ (j : Nat) o, ops[j]? = some o → ∃ acc', (∃ m, acc'.toList = acc.toList ++ l.take m ∧ m = j) ∧ l[j]? = some (befStep acc' o) := by
  induction ops with
  | nil => intro acc; exact ⟨[], by simp, rfl, fun j o h => by simp at h⟩
  | cons x ops ih =>
    intro acc
    obtain ⟨l, h1, h2, h3⟩ := ih (acc.push (befStep acc x))
    refine ⟨befStep acc x :: l, by simpa using h1, by simp [h2], fun j o ho => ?_⟩
    cases j with
    | zero => simp at ho; subst ho; exact ⟨acc, ⟨0, by simp, rfl⟩, rfl⟩
    | succ j =>
      simp at ho
      obtain ⟨acc', ⟨m, e1, e2⟩, e3⟩ := h3 j o ho
      exact ⟨acc', ⟨m + 1, by simp [e1], by omega⟩, by simpa using e3⟩
theorem before_eq (ops : Array Oper) : Region.before ops = ops.toList.foldl (fun acc o => acc.push (befStep acc o)) #[] := by
  unfold Region.before
  rw [← Array.foldl_toList]
  rfl
/-- One operation stands before another one only over edges. -/
theorem ordered_edge {ops : List Oper} {b : List Nat} (hb : b = (Region.before ops.toArray).toList) {i j : Nat} {o : Oper} (ho : ops[j]? = some o) (hlt : ∀ ed ∈ o.after.toList, Region.binds .any ed = true → ed.on < j) (h : ordered b i j = true) :
    ∃ ed ∈ o.after.toList, Region.binds .any ed = true ∧ (i = ed.on ∨ ordered b i ed.on = true) := by
  rw [before_eq] at hb
  obtain ⟨l, h1, h2, h3⟩ := before_go ops #[]
  have e0 : (ops.toArray).toList = ops := rfl
  rw [e0] at hb
  have hbl : b = l := by rw [hb]; simpa using h1
  subst hbl
  obtain ⟨acc', ⟨m, e1, e2⟩, e3⟩ := h3 j o ho
  subst e2
  unfold ordered at h ⊢
  have : b.getD m 0 = befStep acc' o := by simp [List.getD, e3]
  rw [this] at h
  obtain ⟨ed, k1, k2, k3⟩ := befStep_bit acc' o i h
  refine ⟨ed, k1, k2, ?_⟩
  rcases k3 with k3 | k3
  · exact .inl k3
  · right
    have hed := hlt ed k1 k2
    have e4 : acc'.getD ed.on 0 = b.getD ed.on 0 := by
      have : acc'.toList = b.take m := by simpa using e1
      rw [Array.getD_eq_getD_getElem?, ← Array.getElem?_toList, this, List.getElem?_take, if_pos hed]
      rfl
    rw [← e4]
    exact k3
/-- What is closed under the edges is closed under 'before'. -/
theorem closed_ordered {ops : List Oper} {b : List Nat} (hb : b = (Region.before ops.toArray).toList) (hlt : ∀ (j : Nat) o, ops[j]? = some o → ∀ ed ∈ o.after.toList, Region.binds .any ed = true → ed.on < j) {L : Nat → Prop} (hL : ∀ (j : Nat) o, L j → ops[j]? = some o → ∀ ed ∈ o.after.toList, Region.binds .any ed = true → L ed.on) (hin : ∀ j, L j → j < ops.length) :
    ∀ (j : Nat), L j → ∀ i, ordered b i j = true → L i := by
  intro j
  induction j using Nat.strongRecOn with
  | _ j ih =>
    intro hj i hij
    have hjl := hin j hj
    have ho : ops[j]? = some ops[j] := by simp [hjl]
    obtain ⟨ed, k1, k2, k3⟩ := ordered_edge hb ho (hlt j _ ho) hij
    have hLe := hL j _ hj ho ed k1 k2
    rcases k3 with k3 | k3
    · subst k3; exact hLe
    · exact ih ed.on (hlt j _ ho ed k1 k2) hLe i k3

/-! ### The state behind a set of operations -/
section
variable (ops : List Oper) (V : Nat → Value) (Hh : Nat → Heap)
def envU (e0 : Env) (L : Nat → Bool) : Nat → Env
  | 0 => e0
  | k + 1 => if L k then upd (envU e0 L k) ((ops[k]?).bind (·.dst)) (some (V k)) else envU e0 L k
end
section
variable (ops : List Oper)
/-- The first link of the chain that is not in the set. -/
def fm (L : Nat → Bool) : Nat → Nat
  | 0 => 0
  | k + 1 => if fm L k < k then fm L k else if ((ops[k]?).map isChain).getD false && !L k then k else k + 1
end
section
variable {ops : List Oper} {V : Nat → Value} {Hh : Nat → Heap} {e0 : Env}
theorem upd_ne {e : Env} {d : Option Nat} {v : Option Value} {t : Nat} (h : d ≠ some t) : upd e d v t = e t := by
  unfold upd
  split
  · rfl
  · rename_i d
    show (if t = d then v else e t) = e t
    rw [if_neg (fun e => h (by rw [e]))]
theorem upd_eq {e : Env} {v : Option Value} {t : Nat} : upd e (some t) v t = v := by simp [upd]
theorem envU_congr {L L' : Nat → Bool} {t : Nat} : ∀ n, (∀ j, j < n → (ops[j]?).bind (·.dst) = some t → L j = L' j) → envU ops V e0 L n t = envU ops V e0 L' n t
  | 0, _ => rfl
  | n + 1, h => by
    have ih := envU_congr (L := L) (L' := L') (t := t) n fun j hj => h j (by omega)
    unfold envU
    by_cases hd : (ops[n]?).bind (·.dst) = some t
    · rw [h n (by omega) hd]
      split
      · rw [hd, upd_eq, upd_eq]
      · exact ih
    · have e1 : ∀ (x : Bool) (e : Env), (if x then upd e ((ops[n]?).bind (·.dst)) (some (V n)) else e) t = e t := fun x e => by
        split
        · exact upd_ne hd
        · rfl
      rw [e1, e1]
      exact ih
theorem envU_stop {ops : List Oper} {V : Nat → Value} {e0 : Env} {L : Nat → Bool} {t : Nat} {i : Nat} : ∀ n, i ≤ n → (∀ j, i ≤ j → j < n → (ops[j]?).bind (·.dst) = some t → L j = false) → envU ops V e0 L n t = envU ops V e0 L i t
  | 0, h, _ => by
    obtain rfl : i = 0 := Nat.le_zero.1 h
    rfl
  | n + 1, h, k => by
    rcases Nat.lt_or_ge n i with h1 | h1
    · obtain rfl : i = n + 1 := by omega
      rfl
    · have ih := envU_stop (V := V) (e0 := e0) (L := L) n h1 fun j hj hj2 => k j hj (by omega)
      rw [← ih]
      conv => lhs; unfold envU
      by_cases hd : (ops[n]?).bind (·.dst) = some t
      · rw [k n h1 (by omega) hd]; rfl
      · split
        · exact upd_ne hd
        · rfl
theorem fm_le {L : Nat → Bool} : ∀ n, fm ops L n ≤ n
  | 0 => Nat.le_refl _
  | n + 1 => by
    have ih := fm_le (L := L) n
    unfold fm
    split
    · omega
    · split <;> omega
theorem fm_before {L : Nat → Bool} : ∀ n j, j < fm ops L n → ((ops[j]?).map isChain).getD false = true → L j = true
  | 0, j, h, _ => by simp [fm] at h
  | n + 1, j, h, hc => by
    unfold fm at h
    split at h
    · exact fm_before n j h hc
    · rename_i h1
      have hle := fm_le (ops := ops) (L := L) n
      have he : fm ops L n = n := by omega
      split at h
      · exact fm_before n j (by omega) hc
      · rename_i h2
        by_cases hj : j = n
        · subst hj
          simpa [hc] using h2
        · exact fm_before n j (by omega) hc
theorem fm_miss {L : Nat → Bool} : ∀ n, fm ops L n < n → ((ops[fm ops L n]?).map isChain).getD false = true ∧ L (fm ops L n) = false
  | 0, h => by omega
  | n + 1, h => by
    unfold fm at h ⊢
    split
    · rename_i h1
      exact fm_miss n h1
    · rename_i h1
      rw [if_neg h1] at h
      split
      · rename_i h2
        simpa using h2
      · rename_i h2
        rw [if_neg h2] at h
        omega
theorem fm_eq {L : Nat → Bool} {n m : Nat} (h1 : m ≤ n) (h2 : ∀ j, j < m → ((ops[j]?).map isChain).getD false = true → L j = true) (h3 : m < n → ((ops[m]?).map isChain).getD false = true ∧ L m = false) : fm ops L n = m := by
  have a := fm_le (ops := ops) (L := L) n
  rcases Nat.lt_trichotomy (fm ops L n) m with h | h | h
  · obtain ⟨c1, c2⟩ := fm_miss (ops := ops) (L := L) n (by omega)
    rw [h2 _ h c1] at c2; cases c2
  · exact h
  · obtain ⟨c1, c2⟩ := h3 (by omega)
    rw [fm_before n m h c1] at c2; cases c2
end
end Go.Proofs.YtlihmncbhaimkaaDoor.Am
/- A region that draws its order, third part: whatever order is drawn, the region comes to the same. -/
namespace Go.Proofs.YtlihmncbhaimkaaDoor.Am
open Go Go.RowKit

section
variable {P : Program} {C : Oracle} {ops : List Oper} {b : List Nat} {n0 : Nat} {E : Nat → Env} {Hh : Nat → Heap} {V : Nat → Value}
theorem drawOk_all (ok : drawOk ops b = true) {j : Nat} {o : Oper} (ho : ops[j]? = some o) : (∀ ed ∈ o.after.toList, Region.binds .any ed = true → ed.on < j) ∧ ∀ (i : Nat) o', ops[i]? = some o' → i < j → ordered b i j = true ∨ (o'.apart ops.toArray o = true ∧ (isChain o && isChain o' && !isFresh o.op) = false) := by
  unfold drawOk at ok
  simp only [List.all_eq_true, Bool.and_eq_true, Bool.or_eq_true, decide_eq_true_eq, Bool.not_eq_true'] at ok
  have hm : (o, j) ∈ ops.zipIdx := List.mk_mem_zipIdx_iff_getElem?.2 ho
  obtain ⟨⟨h1, h2⟩, h3⟩ := ok (o, j) hm
  refine ⟨fun ed hed hb => (h1 ed hed).resolve_left (by simp [hb]), fun i o' ho' hij => ?_⟩
  have hm' : (o', i) ∈ ops.zipIdx := List.mk_mem_zipIdx_iff_getElem?.2 ho'
  rcases h3 (o', i) hm' with (h | h) | h
  · omega
  · exact .inl h
  · exact .inr h
theorem least (p : Nat → Prop) (h : ∃ n, p n) : ∃ n, p n ∧ ∀ k, k < n → ¬ p k := by
  obtain ⟨n, hn⟩ := h
  induction n using Nat.strongRecOn with
  | ind n ih =>
    by_cases hk : ∃ k, k < n ∧ p k
    · obtain ⟨k, h1, h2⟩ := hk
      exact ih k h1 h2
    · exact ⟨n, hn, fun k h1 h2 => hk ⟨k, h1, h2⟩⟩
theorem isChain_cls {o : Oper} : isChain o = true ↔ clsOf o.op = .chain := by
  unfold isChain
  cases clsOf o.op <;> simp
theorem cls_quietread {o : Oper} (h : isChain o = false) : clsOf o.op = .quiet ∨ clsOf o.op = .read := by
  unfold isChain at h
  cases hc : clsOf o.op <;> simp [hc] at h ⊢
theorem not_fresh {o : Oper} (h : isChain o = false) : isFresh o.op = false := by
  cases hf : isFresh o.op with
  | false => rfl
  | true => rw [isChain_cls.2 (fresh_chain hf)] at h; cases h
theorem Trace.keep (T : Trace P C ops b n0 E Hh V) (j : Nat) (hj : j < ops.length) (h : ((ops[j]?).map isChain).getD false = false) : Hh (j + 1) = Hh j := by
  have ho : ops[j]? = some ops[j] := by simp [hj]
  have hst := T.step j _ ho
  simp only [ho, Option.map_some, Option.getD_some] at h
  rw [stepD_eq (not_fresh h)] at hst
  rcases cls_quietread h with hc | hc
  · exact (stepA_quiet hc hst).1
  · exact stepA_read hc hst
theorem Trace.still (T : Trace P C ops b n0 E Hh V) : ∀ m k, m ≤ k → k ≤ ops.length → (∀ j, m ≤ j → j < k → ((ops[j]?).map isChain).getD false = false) → Hh k = Hh m := by
  intro m k hmk hk hno
  obtain ⟨d, rfl⟩ : ∃ d, k = m + d := ⟨k - m, by omega⟩
  clear hmk
  induction d with
  | zero => rfl
  | succ d ih =>
    rw [← ih (by omega) fun j h1 h2 => hno j h1 (by omega)]
    exact T.keep (m + d) (by omega) (hno (m + d) (by omega) (by omega))
theorem Trace.envAll (T : Trace P C ops b n0 E Hh V) (L : Nat → Bool) : ∀ i, i ≤ ops.length → (∀ j, j < i → L j = true) → envU ops V (E 0) L i = E i
  | 0, _, _ => rfl
  | i + 1, hi, h => by
    have ih := T.envAll L i (by omega) fun j hj => h j (by omega)
    have ho : ops[i]? = some (ops[i]'(by omega)) := List.getElem?_eq_getElem (by omega)
    unfold envU
    rw [h i (by omega), ih, T.env i _ ho]
    simp [ho]
/-- The variables that an operation looks at, when it is its turn; and the variables behind it. -/
theorem Trace.vars (T : Trace P C ops b n0 E Hh V) (ok : drawOk ops b = true) {L : Nat → Bool} (hcl : ∀ j, L j = true → ∀ i, ordered b i j = true → L i = true) {i : Nat} {o : Oper} (ho : ops[i]? = some o) (hni : L i = false) (hready : ∀ j, ordered b j i = true → L j = true) :
    (∀ t ∈ o.looksAt ops.toArray, envU ops V (E 0) L ops.length t = E i t) ∧ envU ops V (E 0) (fun n => L n || n == i) ops.length = upd (envU ops V (E 0) L ops.length) o.dst (some (V i)) := by
  have hil : i < ops.length := (List.getElem?_eq_some_iff.1 ho).1
  have before : ∀ (j : Nat) o', ops[j]? = some o' → j < i → o'.apart ops.toArray o = true ∨ L j = true := fun j o' hj hlt => by
    rcases (drawOk_all ok ho).2 j o' hj hlt with h | h
    · exact .inr (hready j h)
    · exact .inl h.1
  have behind : ∀ (j : Nat) o', ops[j]? = some o' → i < j → o.apart ops.toArray o' = true ∨ L j = false := fun j o' hj hlt => by
    rcases (drawOk_all ok hj).2 i o ho hlt with h | h
    · right
      cases hL : L j with
      | false => rfl
      | true => rw [hcl j hL i h] at hni; cases hni
    · exact .inl h.1
  constructor
  · intro t ht
    have h1 : envU ops V (E 0) L ops.length t = envU ops V (E 0) L i t := envU_stop _ (by omega) fun j hij hjl hd => by
      by_cases hji : j = i
      · subst hji; exact hni
      · have hoj : ops[j]? = some ops[j] := by simp [hjl]
        rcases behind j _ hoj (by omega) with h | h
        · rw [hoj] at hd
          exact absurd ht ((Oper.apart_spec h).2.2 t hd)
        · exact h
    rw [h1, ← T.envAll (fun _ => true) i (by omega) fun _ _ => rfl]
    refine envU_congr _ fun j hj hd => ?_
    have hjl : j < ops.length := by omega
    have hoj : ops[j]? = some ops[j] := by simp [hjl]
    rcases before j _ hoj hj with h | h
    · rw [hoj] at hd
      exact absurd ht ((Oper.apart_spec h).1 t hd)
    · exact h
  · funext t
    by_cases hd : o.dst = some t
    · rw [hd, upd_eq]
      rw [envU_stop (i := i + 1) _ (by omega) fun j hij hjl hdj => ?_]
      · unfold envU
        have : (L i || i == i) = true := by simp
        rw [this]
        simp [ho, hd, upd_eq]
      · have hoj : ops[j]? = some ops[j] := by simp [hjl]
        have hne : (j == i) = false := by simp; omega
        rcases behind j _ hoj (by omega) with h | h
        · rw [hoj] at hdj
          exact absurd hdj ((Oper.apart_spec h).2.1 t hd)
        · rw [h, hne]; rfl
    · rw [upd_ne hd]
      refine envU_congr _ fun j hj hdj => ?_
      by_cases hji : j = i
      · subst hji; rw [ho] at hdj; exact absurd hdj hd
      · have hne : (j == i) = false := by simpa using hji
        simp [hne]
/-- No link of the chain: it comes to the same, wherever the chain stands. -/
theorem Trace.side (T : Trace P C ops b n0 E Hh V) (ok : drawOk ops b = true) {L : Nat → Bool} (hcl : ∀ j, L j = true → ∀ i, ordered b i j = true → L i = true) {i : Nat} {o : Oper} (ho : ops[i]? = some o) (hni : L i = false) (hready : ∀ j, ordered b j i = true → L j = true) (hch : isChain o = false) :
    stepA P C ops o (envU ops V (E 0) L ops.length) (Hh (fm ops L ops.length)) = some (V i, Hh (fm ops L ops.length)) := by
  have hil : i < ops.length := (List.getElem?_eq_some_iff.1 ho).1
  rw [stepA_congr _ (T.vars ok hcl ho hni hready).1]
  have hstep := T.step i o ho
  rw [stepD_eq (not_fresh hch)] at hstep
  rcases cls_quietread hch with hc | hc
  · exact (stepA_quiet hc hstep).2 _
  · have hi1 : Hh (i + 1) = Hh i := stepA_read hc hstep
    rw [hi1] at hstep
    have hml := fm_le (ops := ops) (L := L) ops.length
    generalize hm : fm ops L ops.length = m at hml ⊢
    have hbef : ∀ j, j < m → ((ops[j]?).map isChain).getD false = true → L j = true := fun j hj hcj => by
      rw [← hm] at hj
      exact fm_before _ j hj hcj
    rcases Nat.lt_or_ge i m with hlt | hge
    · -- the chain stands behind it: its last link that lies behind, if there is one
      by_cases hex : ∃ d, (i ≤ m - 1 - d ∧ d < m) ∧ ((ops[m - 1 - d]?).map isChain).getD false = true
      · obtain ⟨d, ⟨⟨d1, d2⟩, d3⟩, hmin⟩ := least _ hex
        have hq : m - 1 - d < ops.length := by omega
        have hoq : ops[m - 1 - d]? = some ops[m - 1 - d] := by simp [hq]
        have hcq : clsOf ops[m - 1 - d].op = .chain := isChain_cls.1 (by simpa [hoq] using d3)
        have hne : i ≠ m - 1 - d := by
          intro he
          rw [← he, ho] at d3
          simp [hch] at d3
        have e1 : Hh m = Hh (m - 1 - d + 1) := T.still _ _ (by omega) hml fun j j1 j2 => by
          cases hcj : ((ops[j]?).map isChain).getD false with
          | false => rfl
          | true =>
            refine absurd ⟨⟨by omega, by omega⟩, ?_⟩ (hmin (m - 1 - j) (by omega))
            rw [show m - 1 - (m - 1 - j) = j by omega]
            exact hcj
        rw [e1]
        refine T.late i (m - 1 - d) o _ ho hoq hc hcq (by omega) ?_
        cases hord : ordered b i (m - 1 - d) with
        | false => rfl
        | true => have := hcl _ (hbef _ (by omega) d3) i hord; rw [hni] at this; cases this
      · have e1 : Hh m = Hh i := T.still _ _ (by omega) hml fun j j1 j2 => by
          cases hcj : ((ops[j]?).map isChain).getD false with
          | false => rfl
          | true =>
            refine absurd ⟨m - 1 - j, ⟨by omega, by omega⟩, ?_⟩ hex
            rw [show m - 1 - (m - 1 - j) = j by omega]
            exact hcj
        rw [e1]; exact hstep
    · -- the chain stands ahead of it
      by_cases hmi : m = i
      · rw [hmi]; exact hstep
      · obtain ⟨c1, c2⟩ := fm_miss (ops := ops) (L := L) ops.length (by rw [hm]; omega)
        rw [hm] at c1 c2
        have hql : m < ops.length := by omega
        have hoq : ops[m]? = some ops[m] := by simp [hql]
        have hcq : clsOf ops[m].op = .chain := isChain_cls.1 (by simpa [hoq] using c1)
        refine T.early i m o _ ho hoq hc hcq (by omega) ?_
        cases hord : ordered b m i with
        | false => rfl
        | true => have := hready m hord; rw [c2] at this; cases this
/-- A link that is more than a new block: the chain stands just ahead of it. -/
theorem Trace.core (T : Trace P C ops b n0 E Hh V) (ok : drawOk ops b = true) {L : Nat → Bool} (hcl : ∀ j, L j = true → ∀ i, ordered b i j = true → L i = true) {i : Nat} {o : Oper} (ho : ops[i]? = some o) (hni : L i = false) (hready : ∀ j, ordered b j i = true → L j = true) (hch : isChain o = true) (hf : isFresh o.op = false) :
    fm ops L ops.length = i ∧ stepA P C ops o (envU ops V (E 0) L ops.length) (Hh i) = some (V i, Hh (i + 1)) := by
  have hil : i < ops.length := (List.getElem?_eq_some_iff.1 ho).1
  have hstep := T.step i o ho
  rw [stepD_eq hf] at hstep
  refine ⟨fm_eq (by omega) (fun j hj hcj => ?_) fun _ => ⟨by simp [ho, hch], hni⟩, by rw [stepA_congr _ (T.vars ok hcl ho hni hready).1]; exact hstep⟩
  have hjl : j < ops.length := by omega
  have hoj : ops[j]? = some ops[j] := by simp [hjl]
  rcases (drawOk_all ok ho).2 j _ hoj hj with h | h
  · exact hready j h
  · simp only [hoj, Option.map_some, Option.getD_some] at hcj
    rw [hch, hcj, hf] at h
    simp at h
/-- A new block: it may come ahead of the chain. -/
theorem Trace.made (T : Trace P C ops b n0 E Hh V) (ok : drawOk ops b = true) {L : Nat → Bool} (hcl : ∀ j, L j = true → ∀ i, ordered b i j = true → L i = true) {i : Nat} {o : Oper} (ho : ops[i]? = some o) (hni : L i = false) (hready : ∀ j, ordered b j i = true → L j = true) (hf : isFresh o.op = true) :
    fm ops L ops.length ≤ i ∧ stepD P C ops n0 i o (envU ops V (E 0) L ops.length) (Hh i) = some (V i, Hh (i + 1)) := by
  have hil : i < ops.length := (List.getElem?_eq_some_iff.1 ho).1
  refine ⟨?_, by rw [stepD_congr _ (T.vars ok hcl ho hni hready).1]; exact T.step i o ho⟩
  rcases Nat.lt_or_ge i (fm ops L ops.length) with h | h
  · have := fm_before (ops := ops) (L := L) ops.length i h (by simp [ho, isChain_cls.2 (fresh_chain hf)])
    rw [hni] at this; cases this
  · exact h
end
end Go.Proofs.YtlihmncbhaimkaaDoor.Am
/- New blocks in a region that draws its order: the model may make them ahead of the abstract machine. -/
namespace Go.Proofs.YtlihmncbhaimkaaDoor.Am
open Go Go.RowKit

section
variable {P : Program} {C : Oracle} {base : Nat} {r : Ren} {h : Heap} {w : World} {e : Env} {a : Act} {o : Oper}
/-- What an operation that makes a block does in the model. -/
theorem fresh_run (hr : RH P base r h w) (he : RE r e a.tmps) {s : Option (Nat × Nat)} {n : Nat} {cs : List Value} (k : freshOp P o.op e = some (s, n, cs)) :
    ∃ Cs ty, RL r cs Cs.toList ∧ (∀ l c, s = some (l, c) → l ≤ c) ∧ (execOp a.eval o).run P w = .ok (.value (freshV w.heap.size s)) { w with heap := w.heap.push (.cells Cs ty) } := by
  generalize ho : o.op = op at k
  unfold freshOp at k
  split at k
  · rename_i t
    obtain ⟨z, hz, hk⟩ := map_inv k
    cases hk
    obtain ⟨zv, z1, z2, z3⟩ := zeroT_run (r := r) hz w
    refine ⟨zv.cells, t, z3, fun l c h => (by cases h), ?_⟩
    simp only [execOp, ho, Instr.alloc, Sem.run_bind, z1, Result.andThen_ok, newVar, newRow_run, Sem.run_pure]
    rfl
  · rename_i t x
    obtain ⟨u, hu, k⟩ := bind_inv k
    obtain ⟨c, hc, hk⟩ := map_inv k
    cases hk
    obtain ⟨g1, _, _⟩ := flatT_sim (ev_sim hr he hu) hc
    refine ⟨_, t, g1, fun l c h => (by cases h), ?_⟩
    simp only [execOp, ho, Instr.box, Sem.run_bind, Result.andThen_ok, newVar, newRow_run, Sem.run_pure]
    rfl
  · rename_i t m ps
    obtain ⟨u, hu, k⟩ := bind_inv k
    unfold freshBS at k
    obtain ⟨⟨v, h1⟩, hb, k⟩ := bind_inv k
    have hps := partsE_sim hr he hu
    obtain ⟨ds, m2, Cs, ty, rfl, rfl, g2, g3⟩ := buildSliceA_run (w := w) (ps := u.toArray) (qs := ps.map fun (i, x) => (i, a.eval x)) (by simpa using hps) (by simpa using hb)
    simp only [Heap.push, if_true] at k
    cases k
    refine ⟨Cs, ty, g2, fun l c h => (by cases h; exact Nat.le_refl _), ?_⟩
    simp only [execOp, ho, Sem.run_bind, g3, Result.andThen_ok, Sem.run_pure]
    rfl
  · rename_i t l c
    obtain ⟨lv, hl, k⟩ := bind_inv k
    obtain ⟨cv, hc, k⟩ := bind_inv k
    unfold freshMS at k
    obtain ⟨⟨v, h1⟩, hb, k⟩ := bind_inv k
    obtain ⟨ds, m2, Cs, ty, l2, c2, hle, rfl, rfl, g2, g3⟩ := makeSliceA_run (w := w) (ev_sim hr he hl) (ev_sim hr he hc) hb
    simp only [Heap.push, if_true] at k
    cases k
    refine ⟨Cs, ty, g2, fun l c h => (by cases h; exact hle), ?_⟩
    simp only [execOp, ho, Sem.run_bind, g3, Result.andThen_ok, Sem.run_pure]
    rfl
  · cases k
theorem freshV_rel {b : Nat} {x : RB} {s : Option (Nat × Nat)} (hx : r b = some x) (h0 : x.o = 0) (hs : ∀ l c, s = some (l, c) → l ≤ c) : RV r (freshV b s) (freshV x.c s) := by
  cases s with
  | none =>
    have := RV.ptr b 0 x hx
    rw [h0] at this
    exact this
  | some p =>
    obtain ⟨l, c⟩ := p
    exact .slice b 0 l c c _ x hx (hs l c rfl) (Nat.le_refl _) (fun _ => by rw [h0]) (.inl rfl)
theorem RH.lives (hr : RH P base r h w) {b : Nat} {x : RB} (hx : r b = some x) (hl : (h.get b).live = true) : x.c < w.heap.size := by
  cases hg : h.get b with
  | dead => rw [hg] at hl; cases hl
  | cells cs e g ro =>
    obtain ⟨_, _, _, _, Cs, ty, fz, h5, _⟩ := hr.cells b x cs e g ro hx hg
    exact (Array.getElem?_eq_some_iff.1 h5).1
  | map es =>
    obtain ⟨_, Es, cl, h5, _⟩ := hr.maps b x es hx hg
    exact (Array.getElem?_eq_some_iff.1 h5).1
/-- The model makes a block; the number that is laid by for it stands for it from now on. -/
theorem RH.mapTo (hr : RH P base r h w) {b : Nat} {x : RB} {o : Obj} (hb : b < h.next) (hn : r b = none) : RH P base (r.put b x) h { w with heap := w.heap.push o } := by
  have hle : Ren.le r (r.put b x) := Ren.le_put hn _
  have nl : ∀ n, (h.get n).live = true → n < h.next → n ≠ b := fun n hl hlt e => by
    subst e
    obtain ⟨y, hy⟩ := hr.tot n hlt hl
    rw [hn] at hy; cases hy
  have old : ∀ n y, n ≠ b → (r.put b x) n = some y → r n = some y := fun n y h1 h2 => by rwa [put_ne _ _ h1] at h2
  have dm : ∀ n y, (r.put b x) n = some y → n < h.next := fun n y hy => by
    by_cases h1 : n = b
    · subst h1; exact hb
    · exact hr.dom n y (old n y h1 hy)
  refine ⟨by simp; exact Nat.le_trans hr.base_le (Nat.le_succ _), dm, fun n h1 h2 => ?_, ?_, ?_, ?_, ?_⟩
  · obtain ⟨y, hy⟩ := hr.tot n h1 h2
    exact ⟨y, hle _ _ hy⟩
  · intro n y cs esz g ro hy hg
    have hne := nl n (by rw [hg]; rfl) (dm n y hy)
    obtain ⟨h1, h2, h3, h4, Cs', ty', fz', h5, h6, h7, h8⟩ := hr.cells n y cs esz g ro (old n y hne hy) hg
    refine ⟨h1, h2, h3, h4, Cs', ty', fz', alloc_old w _ h5, h6, fun i v hv => ?_, fun k => ⟨(h8 k).1, fun i hi => ?_⟩⟩
    · obtain ⟨v', k1, k2⟩ := h7 i v hv
      exact ⟨v', k1, k2.mono hle⟩
    · rw [frozen_block (w := w)]
      · exact (h8 k).2 i hi
      · exact (alloc_old w _ h5).trans h5.symm
  · intro n y es hy hg
    have hne := nl n (by rw [hg]; rfl) (dm n y hy)
    obtain ⟨h0, Es, clock, h1, h2, h3⟩ := hr.maps n y es (old n y hne hy) hg
    exact ⟨h0, Es, clock, alloc_old w _ h1, h2, fun i e k v he hkv => ⟨(h3 i e k v he hkv).1.mono hle, (h3 i e k v he hkv).2.mono hle⟩⟩
  · intro n n' y y' hy hy' hne hl1 hl2 hw1
    exact hr.sep n n' y y' (old n y (nl n hl1 (dm n y hy)) hy) (old n' y' (nl n' hl2 (dm n' y' hy')) hy') hne hl1 hl2 hw1
  · intro g hg
    obtain ⟨y, hy, h1, h2⟩ := hr.globs g hg
    exact ⟨y, hle _ _ hy, h1, h2⟩
/-- A block of the model that waits for its turn. -/
structure Pend (P : Program) (base : Nat) (r : Ren) (h : Heap) (w : World) (b : Nat) (n : Nat) (cs : List Value) : Prop where
  waits : ∃ x Cs ty fz, r b = some x ∧ x.o = 0 ∧ x.esz = n ∧ x.len = cs.length ∧ x.grow = false ∧ x.len ≤ x.sz ∧ base ≤ x.c ∧ x.c < w.heap.size ∧ w.heap[x.c]? = some (.cells Cs ty fz) ∧ Cs.size = x.sz ∧ unfrozen fz Cs.size ∧
    (∀ (i : Nat) v, cs[i]? = some v → ∃ v', Cs[i]? = some v' ∧ RV r v v') ∧ ¬Img r h x.c
/-- Its turn has come. -/
theorem RH.activate (hr : RH P base r h w) {b n : Nat} {cs : List Value} (hb : b < h.next) (hd : (h.get b).live = false) (p : Pend P base r h w b n cs) : RH P base r (h.set b (.cells cs n false false)) w := by
  obtain ⟨x, Cs, ty, fz, hx, x1, x2, x3, x4, x5, x6, x7, x8, x9, x10, x11, x12⟩ := p.waits
  have gs : (h.set b (.cells cs n false false)).get b = .cells cs n false false := set_get_self _ _ _
  have gn : ∀ m, m ≠ b → (h.set b (.cells cs n false false)).get m = h.get m := fun m hm => set_get_ne _ _ hm
  have img : ∀ m y, m ≠ b → r m = some y → (h.get m).live = true → y.c ≠ x.c := fun m y _ hy hl e => x12 ⟨m, y, hy, hl, e⟩
  refine ⟨hr.base_le, hr.dom, fun m h1 h2 => ?_, ?_, ?_, ?_, hr.globs⟩
  · by_cases hm : m = b
    · subst hm; exact ⟨x, hx⟩
    · rw [gn m hm] at h2
      exact hr.tot m h1 h2
  · intro m y ds esz g ro hy hg
    by_cases hm : m = b
    · subst hm
      rw [hx] at hy; cases hy
      rw [gs] at hg; cases hg
      refine ⟨x2, x3, x4, by omega, Cs, ty, fz, x8, x9, fun i v hv => ?_, fun _ => ⟨x6, fun i hi => ?_⟩⟩
      · obtain ⟨v', e1, e2⟩ := x11 i v hv
        exact ⟨v', by rw [x1, Nat.zero_add]; exact e1, e2⟩
      · simp only [World.frozen?, x8]
        exact x10 i hi
    · rw [gn m hm] at hg
      exact hr.cells m y ds esz g ro hy hg
  · intro m y es hy hg
    have hm : m ≠ b := by rintro rfl; rw [gs] at hg; cases hg
    rw [gn m hm] at hg
    exact hr.maps m y es hy hg
  · intro m m' y y' hy hy' hne h1 h2 h3
    by_cases hm : m = b
    · subst hm
      rw [hx] at hy; cases hy
      rw [gn m' (Ne.symm hne)] at h2
      exact (img m' y' (Ne.symm hne) hy' h2).symm
    · rw [gn m hm] at h1 h3
      by_cases hm' : m' = b
      · subst hm'
        rw [hx] at hy'; cases hy'
        exact img m y hm hy h1
      · rw [gn m' hm'] at h2
        exact hr.sep m m' y y' hy hy' hne h1 h2 h3
theorem reserve_rh (hr : RH P base r h w) (m : Nat) : RH P base r (h.reserve m) w := by
  have ge : ∀ n, n < h.next → (h.reserve m).get n = h.get n := fun n hn => if_pos hn
  have lv : ∀ n, ((h.reserve m).get n).live = true → n < h.next ∧ (h.get n).live = true := fun n hl => by
    by_cases hn : n < h.next
    · rw [ge n hn] at hl; exact ⟨hn, hl⟩
    · have : (h.reserve m).get n = .dead := if_neg hn
      rw [this] at hl; cases hl
  refine ⟨hr.base_le, fun b x hx => ?_, fun b _ hl => ?_, fun b x cs e g ro hx hg => ?_, fun b x es hx hg => ?_, fun b b' x x' hx hx' hne h1 h2 h3 => ?_, hr.globs⟩
  · have := hr.dom b x hx
    show b < h.next + m
    omega
  · exact hr.tot b (lv b hl).1 (lv b hl).2
  · have := lv b (by rw [hg]; rfl)
    rw [ge b this.1] at hg
    exact hr.cells b x cs e g ro hx hg
  · have := lv b (by rw [hg]; rfl)
    rw [ge b this.1] at hg
    exact hr.maps b x es hx hg
  · have e1 := lv b h1
    have e2 := lv b' h2
    rw [ge b e1.1] at h3
    exact hr.sep b b' x x' hx hx' hne e1.2 e2.2 h3
theorem reserve_fr (m : Nat) : Fr r h w r (h.reserve m) w := by
  have lv : ∀ n, ((h.reserve m).get n).live = true → (h.get n).live = true := fun n hl => by
    by_cases hn : n < h.next
    · have : (h.reserve m).get n = h.get n := if_pos hn
      rwa [this] at hl
    · have : (h.reserve m).get n = .dead := if_neg hn
      rw [this] at hl; cases hl
  refine ⟨Nat.le_refl _, fun _ _ _ => rfl, ?_, by show h.next ≤ h.next + m; omega, fun b _ hl => lv b hl, fun _ _ h => .inl h⟩
  rintro k ⟨b, x, h1, h2, rfl⟩
  exact .inl ⟨b, x, h1, lv b h2, rfl⟩
end
end Go.Proofs.YtlihmncbhaimkaaDoor.Am
/- Regions: every order that is drawn. -/
namespace Go.Proofs.YtlihmncbhaimkaaDoor.Am
open Go Go.RowKit

section
variable {P : Program} {C : Oracle} {ops : List Oper} {b : List Nat} {n0 : Nat} {E : Nat → Env} {Hh : Nat → Heap} {V : Nat → Value} {base : Nat} {Q : Exit → Act → World → Prop}
theorem dst_in {i : Nat} {o : Oper} (ho : ops[i]? = some o) {n : Nat} (hd : o.dst = some n) : n ∈ dstsOps ops :=
  List.mem_filterMap.2 ⟨o, List.mem_of_getElem? ho, hd⟩
/-- An operation that makes a block stands at this place. -/
def Fi (ops : List Oper) (i : Nat) : Prop := ∃ o, ops[i]? = some o ∧ isFresh o.op = true
/-- Blocks that wait, places that are laid by: the chain stands at place k. -/
structure DP (P : Program) (base : Nat) (ops : List Oper) (n0 : Nat) (E : Nat → Env) (B : Nat) (L : Nat → Bool) (k : Nat) (g : Heap) (r : Ren) (w : World) : Prop where
  pend : ∀ i o s m cs, ops[i]? = some o → k ≤ i → L i = true → isFresh o.op = true → wantA ops (E i) o = some true → freshOp P o.op (E i) = some (s, m, cs) → Pend P base r g w (n0 + i) m cs
  dead : ∀ i, k ≤ i → Fi ops i → (g.get (n0 + i)).live = false
  free : ∀ i, Fi ops i → L i = false → r (n0 + i) = none
  far : ∀ i x, Fi ops i → r (n0 + i) = some x → B ≤ x.c ∧ x.c < w.heap.size
  apart : ∀ i j x y, Fi ops i → Fi ops j → i ≠ j → r (n0 + i) = some x → r (n0 + j) = some y → x.c ≠ y.c
  room : ∀ i, Fi ops i → n0 + i < g.next
theorem DP.step {B : Nat} {L : Nat → Bool} {k k' : Nat} {g g' : Heap} {r r' : Ren} {w w' : World} (d : DP P base ops n0 E B L k g r w) (hk : k ≤ k') (le : Ren.le r r') (fr : Fr r g w r' g' w') : DP P base ops n0 E B L k' g' r' w' := by
  have back : ∀ i x, Fi ops i → r' (n0 + i) = some x → r (n0 + i) = some x := fun i x hi hx => by
    rcases fr.new _ _ hx with h | h
    · exact h
    · have := d.room i hi; omega
  refine ⟨fun i o s m cs ho hki hL hf hw hfr => ?_, fun i hki hi => ?_, fun i hi hL => ?_, fun i x hi hx => ⟨(d.far i x hi (back i x hi hx)).1, Nat.lt_of_lt_of_le (d.far i x hi (back i x hi hx)).2 fr.size⟩, fun i j x y hi hj hne hx hy => d.apart i j x y hi hj hne (back i x hi hx) (back j y hj hy), fun i hi => Nat.lt_of_lt_of_le (d.room i hi) fr.nx⟩
  · obtain ⟨x, Cs, ty, fz, x0, x1, x2, x3, x4, x5, x6, x7, x8, x9, x10, x11, x12⟩ := (d.pend i o s m cs ho (by omega) hL hf hw hfr).waits
    refine ⟨x, Cs, ty, fz, le _ _ x0, x1, x2, x3, x4, x5, x6, Nat.lt_of_lt_of_le x7 fr.size, by rw [fr.keep _ x7 x12]; exact x8, x9, x10, fun j v hv => ?_, fun hi => ?_⟩
    · obtain ⟨v', e1, e2⟩ := x11 j v hv
      exact ⟨v', e1, e2.mono le⟩
    · rcases fr.img _ hi with h | h
      · exact x12 h
      · omega
  · cases hl : (g'.get (n0 + i)).live with
    | false => rfl
    | true =>
      have := fr.old (n0 + i) (d.room i hi) hl
      rw [d.dead i (by omega) hi] at this; cases this
  · cases hx : r' (n0 + i) with
    | none => rfl
    | some x => have := back i x hi hx; rw [d.free i hi hL] at this; cases this
theorem DP.more {B : Nat} {L L' : Nat → Bool} {k : Nat} {g : Heap} {r : Ren} {w : World} (d : DP P base ops n0 E B L k g r w) (h1 : ∀ i, L' i = false → L i = false)
    (h2 : ∀ i o s m cs, ops[i]? = some o → k ≤ i → L' i = true → L i = false → isFresh o.op = true → wantA ops (E i) o = some true → freshOp P o.op (E i) = some (s, m, cs) → Pend P base r g w (n0 + i) m cs) : DP P base ops n0 E B L' k g r w :=
  ⟨fun i o s m cs ho hk hL hf hw hfr => by
    cases hl : L i with
    | true => exact d.pend i o s m cs ho hk hl hf hw hfr
    | false => exact h2 i o s m cs ho hk hL hl hf hw hfr, d.dead, fun i hi hL => d.free i hi (h1 i hL), d.far, d.apart, d.room⟩
theorem fr_map {r0 : Ren} {h0 : Heap} {w0 : World} {r : Ren} {g : Heap} {w : World} {i : Nat} {x : RB} {o : Obj} (f : Fr r0 h0 w0 r g w) (hb : h0.next ≤ i) (hd : (g.get i).live = false) : Fr r0 h0 w0 (r.put i x) g { w with heap := w.heap.push o } := by
  have e1 : ∀ n y, n ≠ i → (r.put i x) n = some y → r n = some y := fun n y hn hy => by rwa [put_ne _ _ hn] at hy
  refine ⟨by simp; exact Nat.le_trans f.size (Nat.le_succ _), fun k hk hn => ?_, ?_, f.nx, f.old, fun n y hy => ?_⟩
  · have := f.size
    show (w.heap.push o)[k]? = _
    rw [Array.getElem?_push, if_neg (by omega)]
    exact f.keep k hk hn
  · rintro k ⟨n, y, y1, y2, rfl⟩
    have hn : n ≠ i := by rintro rfl; rw [hd] at y2; cases y2
    exact f.img _ ⟨n, y, e1 n y hn y1, y2, rfl⟩
  · by_cases hn : n = i
    · exact .inr (by omega)
    · exact f.new n y (e1 n y hn hy)
theorem DP.map {B : Nat} {L L' : Nat → Bool} {k : Nat} {g : Heap} {r : Ren} {w : World} (d : DP P base ops n0 E B L k g r w) {i : Nat} (hk : k ≤ i) (hi : Fi ops i) (hni : L i = false) {x : RB} {o : Obj} (hx : x.c = w.heap.size) (hB : B ≤ w.heap.size) (h2 : ∀ j, L' j = false → j ≠ i ∧ L j = false)
    (hp : ∀ o' s m cs, ops[i]? = some o' → wantA ops (E i) o' = some true → freshOp P o'.op (E i) = some (s, m, cs) → Pend P base (r.put (n0 + i) x) g { w with heap := w.heap.push o } (n0 + i) m cs) (h3 : ∀ j, L' j = true → j ≠ i → L j = true) :
    DP P base ops n0 E B L' k g (r.put (n0 + i) x) { w with heap := w.heap.push o } := by
  have hle : Ren.le r (r.put (n0 + i) x) := Ren.le_put (d.free i hi hni) _
  have e1 : ∀ n y, n ≠ n0 + i → (r.put (n0 + i) x) n = some y → r n = some y := fun n y hn hy => by rwa [put_ne _ _ hn] at hy
  have hdead := d.dead i hk hi
  refine ⟨fun j o' s m cs hj hkj hL hf hw hfr => ?_, d.dead, fun j hj hL => ?_, fun j y hj hy => ?_, fun j j' y y' hj hj' hne hy hy' => ?_, d.room⟩
  · by_cases hji : j = i
    · subst hji; exact hp o' s m cs hj hw hfr
    · obtain ⟨y, Cs, ty, fz, y0, y1, y2, y3, y4, y5, y6, y7, y8, y9, y10, y11, y12⟩ := (d.pend j o' s m cs hj hkj (h3 j hL hji) hf hw hfr).waits
      refine ⟨y, Cs, ty, fz, hle _ _ y0, y1, y2, y3, y4, y5, y6, by simp; omega, alloc_old w _ y8, y9, y10, fun q v hv => ?_, ?_⟩
      · obtain ⟨v', z1, z2⟩ := y11 q v hv
        exact ⟨v', z1, z2.mono hle⟩
      · rintro ⟨q, z, z1, z2, z3⟩
        have hq : q ≠ n0 + i := by rintro rfl; rw [hdead] at z2; cases z2
        exact y12 ⟨q, z, e1 q z hq z1, z2, z3⟩
  · obtain ⟨q1, q2⟩ := h2 j hL
    rw [put_ne _ _ (by omega)]
    exact d.free j hj q2
  · by_cases hji : j = i
    · subst hji
      rw [Ren.put_self] at hy; cases hy
      exact ⟨by omega, by simp; omega⟩
    · obtain ⟨q1, q2⟩ := d.far j y hj (e1 _ _ (by omega) hy)
      exact ⟨q1, by simp; omega⟩
  · by_cases hji : j = i
    · subst hji
      rw [Ren.put_self] at hy; cases hy
      have := (d.far j' y' hj' (e1 _ _ (by omega) hy')).2
      omega
    · by_cases hji' : j' = i
      · subst hji'
        rw [Ren.put_self] at hy'; cases hy'
        have := (d.far j y hj (e1 _ _ (by omega) hy)).2
        omega
      · exact d.apart j j' y y' hj hj' hne (e1 _ _ (by omega) hy) (e1 _ _ (by omega) hy')
/-- What a step of the text does that makes a block. -/
theorem fresh_step {i : Nat} {o : Oper} {e : Env} {h h' : Heap} {v : Value} (hf : isFresh o.op = true) (k : stepD P C ops n0 i o e h = some (v, h')) :
    (wantA ops e o = some false ∧ v = undef ∧ h' = h) ∨ ∃ s m cs, wantA ops e o = some true ∧ freshOp P o.op e = some (s, m, cs) ∧ v = freshV (n0 + i) s ∧ h' = h.set (n0 + i) (.cells cs m false false) := by
  unfold stepD at k
  obtain ⟨bw, hb, k⟩ := bind_inv k
  cases bw with
  | false => cases k; exact .inl ⟨hb, rfl, rfl⟩
  | true =>
    rw [hf] at k
    simp only [if_true] at k
    obtain ⟨⟨s, m, cs⟩, hk, he⟩ := map_inv k
    cases he
    exact .inr ⟨s, m, cs, hb, hk, rfl, rfl⟩
/-- The chain goes on over blocks that are made. -/
theorem adv (T : Trace P C ops b n0 E Hh V) {B : Nat} {L : Nat → Bool} {m : Nat} (hm : m ≤ ops.length) (hL : ∀ j, j < m → ((ops[j]?).map isChain).getD false = true → L j = true) {r0 : Ren} {h0 : Heap} {w0 : World} (hB : B = w0.heap.size) (hn0 : h0.next ≤ n0) {r : Ren} {e : Env} {a : Act} {w : World} :
    ∀ d k, k + d = m → (∀ j o, k ≤ j → j < m → ops[j]? = some o → isChain o = true → isFresh o.op = true) → SR P base r e (Hh k) a w → Fr r0 h0 w0 r (Hh k) w → DP P base ops n0 E B L k (Hh k) r w →
      SR P base r e (Hh m) a w ∧ Fr r0 h0 w0 r (Hh m) w ∧ DP P base ops n0 E B L m (Hh m) r w
  | 0, k, hk, _, hs, hfr, hd => by
    obtain rfl : k = m := by omega
    exact ⟨hs, hfr, hd⟩
  | d + 1, k, hk, hfs, hs, hfr, hd => by
    have hkl : k < ops.length := by omega
    have ho : ops[k]? = some ops[k] := by simp [hkl]
    have same : Hh (k + 1) = Hh k → SR P base r e (Hh m) a w ∧ Fr r0 h0 w0 r (Hh m) w ∧ DP P base ops n0 E B L m (Hh m) r w := fun he =>
      adv T hm hL hB hn0 d (k + 1) (by omega) (fun j o h1 h2 => hfs j o (by omega) h2) (by rw [he]; exact hs) (by rw [he]; exact hfr) (by rw [he]; exact hd.step (Nat.le_succ k) (Ren.le.refl r) (Fr.refl _ _ _))
    cases hc : isChain ops[k] with
    | false => exact same (T.keep k hkl (by rw [ho]; simp [hc]))
    | true =>
      have hf := hfs k _ (Nat.le_refl k) (by omega) ho hc
      rcases fresh_step hf (T.step k _ ho) with ⟨_, _, he⟩ | ⟨s, n, cs, h1, h2, _, he⟩
      · exact same he
      · have hLk : L k = true := hL k (by omega) (by rw [ho]; simp [hc])
        have hp := hd.pend k _ s n cs ho (Nat.le_refl k) hLk hf h1 h2
        have hfk : Fi ops k := ⟨_, ho, hf⟩
        have hdk := hd.dead k (Nat.le_refl k) hfk
        have hroom := hd.room k hfk
        obtain ⟨x, Cs, ty, fz, x0, x1, x2, x3, x4, x5, x6, x7, x8, x9, x10, x11, x12⟩ := hp.waits
        have gn : ∀ q, q ≠ n0 + k → (Hh (k + 1)).get q = (Hh k).get q := fun q hq => by rw [he]; exact set_get_ne _ _ hq
        have hfar := (hd.far k x hfk x0).1
        refine adv T hm hL hB hn0 d (k + 1) (by omega) (fun j o h1 h2 => hfs j o (by omega) h2) ⟨hs.re, by rw [he]; exact hs.rh.activate (by omega) hdk hp, hs.nd⟩ ?_ ?_
        · refine ⟨hfr.size, hfr.keep, ?_, by rw [he]; exact hfr.nx, fun q hq hl => ?_, hfr.new⟩
          · rintro c ⟨q, y, y1, y2, rfl⟩
            by_cases hq : q = n0 + k
            · subst hq
              rw [x0] at y1; cases y1
              exact .inr (by omega)
            · rw [gn q hq] at y2
              exact hfr.img _ ⟨q, y, y1, y2, rfl⟩
          · rw [gn q (by omega)] at hl
            exact hfr.old q hq hl
        · refine ⟨fun i o s' m' cs' hi hki hLi hfi hw hfi2 => ?_, fun i hki hi => by rw [gn _ (by omega)]; exact hd.dead i (by omega) hi, hd.free, hd.far, hd.apart, by rw [he]; exact hd.room⟩
          obtain ⟨y, Ds, ty', fz', y0, y1, y2, y3, y4, y5, y6, y7, y8, y9, y10, y11, y12⟩ := (hd.pend i o s' m' cs' hi (by omega) hLi hfi hw hfi2).waits
          refine ⟨y, Ds, ty', fz', y0, y1, y2, y3, y4, y5, y6, y7, y8, y9, y10, y11, ?_⟩
          rintro ⟨q, z, z1, z2, z3⟩
          by_cases hq : q = n0 + k
          · subst hq
            exact hd.apart k i z y hfk ⟨o, hi, hfi⟩ (by omega) z1 y0 z3
          · rw [gn q hq] at z2
            exact y12 ⟨q, z, z1, z2, z3⟩

theorem drawn_sim (hC : OSound P C) (T : Trace P C ops b n0 E Hh V) (hb : b = (Region.before ops.toArray).toList) (ok : drawOk ops b = true) {r0 : Ren} {h0 : Heap} {a0 : Act} {w0 : World} (hn0 : h0.next ≤ n0) (hd : ∀ n ∈ dstsOps ops, n < a0.tmps.size)
    (hn : ∀ r' a' w', SR P base r' (E ops.length) (Hh ops.length) a' w' → SS base r0 h0 a0 w0 r' (Hh ops.length) a' w' → Q .normal a' w') :
    ∀ (fuel : Nat) (listed : Array Bool) (r : Ren) (a : Act) (w : World), listed.size = ops.length → listed.toList.count false ≤ fuel →
      SR P base r (envU ops V (E 0) (fun j => listed.getD j false) ops.length) (Hh (fm ops (fun j => listed.getD j false) ops.length)) a w → SS base r0 h0 a0 w0 r (Hh (fm ops (fun j => listed.getD j false) ops.length)) a w →
      DP P base ops n0 E w0.heap.size (fun j => listed.getD j false) (fm ops (fun j => listed.getD j false) ops.length) (Hh (fm ops (fun j => listed.getD j false) ops.length)) r w →
      (∀ (j : Nat) o, listed.getD j false = true → ops[j]? = some o → ∀ ed ∈ o.after.toList, Region.binds .any ed = true → listed.getD ed.on false = true) →
      wpAny P .any ops.toArray Q fuel listed a w := by
  -- all are listed: the end
  have fin : ∀ (listed : Array Bool) (r : Ren) (a : Act) (w : World), listed.size = ops.length → (∀ j, j < ops.length → listed.getD j false = true) →
      SR P base r (envU ops V (E 0) (fun j => listed.getD j false) ops.length) (Hh (fm ops (fun j => listed.getD j false) ops.length)) a w → SS base r0 h0 a0 w0 r (Hh (fm ops (fun j => listed.getD j false) ops.length)) a w → Q .normal a w := by
    intro listed r a w hsz hall hs hss
    have hfm : fm ops (fun j => listed.getD j false) ops.length = ops.length := fm_eq (Nat.le_refl _) (fun j hj _ => hall j hj) (fun h => absurd h (Nat.lt_irrefl _))
    rw [hfm] at hs hss
    rw [T.envAll (fun j => listed.getD j false) ops.length (Nat.le_refl _) hall] at hs
    exact hn r a w hs hss
  -- none is ready: all are listed
  have stuck : ∀ (listed : Array Bool), listed.size = ops.length → Region.ready .any ops.toArray listed = [] → ∀ j, j < ops.length → listed.getD j false = true := by
    intro listed hsz hr j
    induction j using Nat.strongRecOn with
    | _ j ih =>
      intro hj
      cases hl : listed.getD j false with
      | true => rfl
      | false =>
        have ho : ops[j]? = some ops[j] := List.getElem?_eq_getElem hj
        have hm : j ∈ Region.ready .any ops.toArray listed := mem_ready.2 ⟨by
          rw [Array.getD_eq_getD_getElem?] at hl ⊢
          have : j < listed.size := by omega
          simpa [this] using hl, ops[j], by simp, fun ed hed hbd => ih ed.on ((drawOk_all ok ho).1 ed (by simpa using hed) hbd) (by
          have := (drawOk_all ok ho).1 ed (by simpa using hed) hbd
          omega)⟩
        rw [hr] at hm; cases hm
  intro fuel
  induction fuel with
  | zero =>
    intro listed r a w hsz hcnt hs hss _ hclo
    have hall : ∀ j, j < ops.length → listed.getD j false = true := fun j hj => by
      have hlt : j < listed.size := by omega
      rw [Array.getD_eq_getD_getElem?]
      simp only [hlt, getElem?_pos, Option.getD_some]
      cases hv : listed[j] with
      | true => rfl
      | false =>
        have : false ∈ listed.toList := by rw [← hv]; simp
        have := List.count_pos_iff.2 this
        omega
    refine ⟨?_, fin listed r a w hsz hall hs hss⟩
    apply List.eq_nil_iff_forall_not_mem.2
    intro j hj
    obtain ⟨h1, o, ho, -⟩ := mem_ready.1 hj
    have hjl : j < ops.length := by
      have := (Array.getElem?_eq_some_iff.1 ho).1
      simpa using this
    have h2 := hall j hjl
    rw [Array.getD_eq_getD_getElem?] at h1 h2
    have hlt : j < listed.size := by omega
    simp only [hlt, getElem?_pos, Option.getD_some] at h1 h2
    rw [h1] at h2; cases h2
  | succ fuel ih =>
    intro listed r a w hsz hcnt hs hss hdp hclo
    refine ⟨fun hr => fin listed r a w hsz (stuck listed hsz hr) hs hss, fun i hi => ?_⟩
    obtain ⟨h1, o, ho', hready⟩ := mem_ready.1 hi
    have ho : ops[i]? = some o := by simpa using ho'
    have hil : i < ops.length := (List.getElem?_eq_some_iff.1 ho).1
    have hlt : i < listed.size := by omega
    have hv : listed[i] = false := by
      rw [Array.getD_eq_getD_getElem?] at h1
      simpa [hlt] using h1
    have hni : listed.getD i false = false := by rw [Array.getD_eq_getD_getElem?]; simpa [hlt] using hv
    have hinl : ∀ j, listed.getD j false = true → j < ops.length := fun j hj => by
      rcases Nat.lt_or_ge j listed.size with h | h
      · omega
      · rw [Array.getD_eq_getD_getElem?, Array.getElem?_eq_none h] at hj; cases hj
    have hcl : ∀ j, listed.getD j false = true → ∀ i, ordered b i j = true → listed.getD i false = true :=
      closed_ordered (L := fun j => listed.getD j false = true) hb (fun j o ho => (drawOk_all ok ho).1) hclo hinl
    have hrd : ∀ j, ordered b j i = true → listed.getD j false = true := fun j hj => by
      obtain ⟨ed, e1, e2, e3⟩ := ordered_edge hb ho (drawOk_all ok ho).1 hj
      have he := hready ed (by simpa using e1) e2
      rcases e3 with e3 | e3
      · subst e3; exact he
      · exact hcl _ he j e3
    -- the set with one more
    have hL : (fun n => listed.getD n false || n == i) = fun j => (listed.setIfInBounds i true).getD j false := by
      funext j
      by_cases hji : j = i
      · subst hji; simp [hlt]
      · rw [getD_set_ne false (Ne.symm hji)]
        have : (j == i) = false := by simpa using hji
        rw [this, Bool.or_false]
    obtain ⟨hvars, henv⟩ := T.vars ok (L := fun j => listed.getD j false) hcl ho hni hrd
    have hcnt' : (listed.setIfInBounds i true).toList.count false ≤ fuel := by
      have : (listed.setIfInBounds i true).toList = listed.toList.set i true := by simp
      have hv' : listed.toList[i]'(by simpa using hlt) = false := by simpa using hv
      have hc := List.count_set (a := true) (b := false) (l := listed.toList) (i := i) (by simpa using hlt)
      have hpos : 0 < listed.toList.count false := List.count_pos_iff.2 (by rw [← hv']; exact List.getElem_mem _)
      rw [hv'] at hc
      simp only [beq_self_eq_true, if_true] at hc
      rw [this, hc]
      have e0 : (if (true == false) = true then 1 else 0) = 0 := rfl
      rw [e0]
      omega
    have hclo' : ∀ (j : Nat) o, (listed.setIfInBounds i true).getD j false = true → ops[j]? = some o → ∀ ed ∈ o.after.toList, Region.binds .any ed = true → (listed.setIfInBounds i true).getD ed.on false = true := by
      intro j o' hj ho2 ed hed hbd
      by_cases hji : j = i
      · subst hji
        rw [ho] at ho2; cases ho2
        exact getD_set_true (hready ed (by simpa using hed) hbd)
      · rw [getD_set_ne false (Ne.symm hji)] at hj
        exact getD_set_true (hclo j o' hj ho2 ed hed hbd)
    -- the state behind it, over the set with one more
    have next : ∀ r' a' w', SR P base r' (envU ops V (E 0) (fun n => listed.getD n false || n == i) ops.length) (Hh (fm ops (fun n => listed.getD n false || n == i) ops.length)) a' w' → SS base r0 h0 a0 w0 r' (Hh (fm ops (fun n => listed.getD n false || n == i) ops.length)) a' w' →
        DP P base ops n0 E w0.heap.size (fun n => listed.getD n false || n == i) (fm ops (fun n => listed.getD n false || n == i) ops.length) (Hh (fm ops (fun n => listed.getD n false || n == i) ops.length)) r' w' → wpAny P .any ops.toArray Q fuel (listed.setIfInBounds i true) a' w' := fun r' a' w' q1 q2 q3 => by
      rw [hL] at q1 q2 q3
      exact ih _ r' a' w' (by simpa using hsz) hcnt' q1 q2 q3 hclo'
    have hdst : ∀ n, o.dst = some n → n < a.tmps.size := fun n hdn => by rw [hss.size]; exact hd n (dst_in ho hdn)
    have more1 : ∀ j, (listed.getD j false || j == i) = false → listed.getD j false = false := fun j hj => by
      simp only [Bool.or_eq_false_iff] at hj
      exact hj.1
    unfold wpOp
    rw [ho']
    simp only
    cases hch : isChain o with
    | false =>
      have hfm : fm ops (fun n => listed.getD n false || n == i) ops.length = fm ops (fun j => listed.getD j false) ops.length := by
        refine fm_eq (fm_le _) (fun j hj hc => ?_) fun hlt => ?_
        · simp only [fm_before (ops := ops) (L := fun j => listed.getD j false) ops.length j hj hc, Bool.true_or]
        · obtain ⟨c1, c2⟩ := fm_miss (ops := ops) (L := fun j => listed.getD j false) ops.length hlt
          refine ⟨c1, ?_⟩
          have hne : fm ops (fun j => listed.getD j false) ops.length ≠ i := fun e => by
            rw [e, ho] at c1
            simp [hch] at c1
          have : (fm ops (fun j => listed.getD j false) ops.length == i) = false := by simpa using hne
          simp only [c2, this, Bool.or_false]
      refine stepA_sim hC hs hdst (T.side ok hcl ho hni hrd hch) fun r' a' w' hs' hss' => next r' a' w' ?_ ?_ ?_
      · rw [henv, hfm]; exact hs'
      · rw [hfm]; exact hss.trans hss'
      · rw [hfm]
        refine (hdp.step (Nat.le_refl _) hss'.le hss'.fr).more more1 fun j o' s m cs hj _ hj1 hj2 hf => ?_
        simp only [hj2, Bool.false_or, beq_iff_eq] at hj1
        subst hj1
        rw [ho] at hj; cases hj
        rw [not_fresh hch] at hf; cases hf
    | true =>
      -- behind link i the chain goes on to the first link that lacks
      have hbef' : ∀ j, j < fm ops (fun n => listed.getD n false || n == i) ops.length → ((ops[j]?).map isChain).getD false = true → (listed.getD j false || j == i) = true := fun j hj hc => fm_before (ops := ops) (L := fun n => listed.getD n false || n == i) ops.length j hj hc
      have onward : fm ops (fun j => listed.getD j false) ops.length = i → ∀ k r' a' w', k ≤ i + 1 → i ≤ k → k ≤ fm ops (fun n => listed.getD n false || n == i) ops.length → (k = i → isFresh o.op = true) →
          SR P base r' (envU ops V (E 0) (fun n => listed.getD n false || n == i) ops.length) (Hh k) a' w' → SS base r0 h0 a0 w0 r' (Hh k) a' w' → DP P base ops n0 E w0.heap.size (fun n => listed.getD n false || n == i) k (Hh k) r' w' → wpAny P .any ops.toArray Q fuel (listed.setIfInBounds i true) a' w' := by
        intro hfi k r' a' w' hk1 hk2 hk3 hkf q1 q2 q3
        have hfresh : ∀ j o', k ≤ j → j < fm ops (fun n => listed.getD n false || n == i) ops.length → ops[j]? = some o' → isChain o' = true → isFresh o'.op = true := by
          intro j o' hj1 hj2 hoj hcj
          by_cases hji : j = i
          · subst hji
            rw [ho] at hoj; cases hoj
            exact hkf (by omega)
          · have hLj := hbef' j hj2 (by simp [hoj, hcj])
            have hne : (j == i) = false := by simpa using hji
            simp only [hne, Bool.or_false] at hLj
            cases hff : isFresh o'.op with
            | true => rfl
            | false =>
              rcases (drawOk_all ok hoj).2 i o ho (by omega) with h | h
              · rw [hcl j hLj i h] at hni; cases hni
              · rw [hcj, hch, hff] at h; simp at h
        obtain ⟨z1, z2, z3⟩ := adv T (fm_le (ops := ops) (L := fun n => listed.getD n false || n == i) ops.length) hbef' rfl hn0 (fm ops (fun n => listed.getD n false || n == i) ops.length - k) k (by omega) hfresh q1 q2.fr q3
        exact next r' a' w' z1 ⟨q2.le, q2.below, q2.size, z2⟩ z3
      have past : fm ops (fun j => listed.getD j false) ops.length = i → i + 1 ≤ fm ops (fun n => listed.getD n false || n == i) ops.length := fun c1 => by
        rcases Nat.lt_or_ge i (fm ops (fun n => listed.getD n false || n == i) ops.length) with h | h
        · exact h
        · obtain ⟨d1, d2⟩ := fm_miss (ops := ops) (L := fun n => listed.getD n false || n == i) ops.length (by omega)
          simp only [Bool.or_eq_false_iff] at d2
          obtain ⟨d2, d3⟩ := d2
          have hne : fm ops (fun n => listed.getD n false || n == i) ops.length ≠ i := by simpa using d3
          have := fm_before (ops := ops) (L := fun j => listed.getD j false) ops.length _ (by omega) d1
          rw [d2] at this; cases this
      have stay : fm ops (fun j => listed.getD j false) ops.length < i → fm ops (fun n => listed.getD n false || n == i) ops.length = fm ops (fun j => listed.getD j false) ops.length := fun hlt => by
        refine fm_eq (fm_le _) (fun j hj hc => ?_) fun hlt2 => ?_
        · simp only [fm_before (ops := ops) (L := fun j => listed.getD j false) ops.length j hj hc, Bool.true_or]
        · obtain ⟨c1, c2⟩ := fm_miss (ops := ops) (L := fun j => listed.getD j false) ops.length hlt2
          have : (fm ops (fun j => listed.getD j false) ops.length == i) = false := beq_eq_false_iff_ne.2 (by omega)
          exact ⟨c1, by simp only [c2, this, Bool.or_false]⟩
      cases hf : isFresh o.op with
      | false =>
        obtain ⟨c1, c2⟩ := T.core ok (L := fun j => listed.getD j false) hcl ho hni hrd hch hf
        rw [c1] at hs hss hdp
        refine stepA_sim hC hs hdst c2 fun r' a' w' hs' hss' => onward c1 (i + 1) r' a' w' (Nat.le_refl _) (Nat.le_succ i) ?_ (fun h => by omega) (by rw [henv]; exact hs') (hss.trans hss') ?_
        · exact past c1
        · refine (hdp.step (Nat.le_succ i) hss'.le hss'.fr).more more1 fun j o' s m cs hj _ hj1 hj2 hf' => ?_
          simp only [hj2, Bool.false_or, beq_iff_eq] at hj1
          subst hj1
          rw [ho] at hj; cases hj
          rw [hf] at hf'; cases hf'
      | true =>
        obtain ⟨c1, c2⟩ := T.made ok (L := fun j => listed.getD j false) hcl ho hni hrd hf
        have hw0 := wantA_congr (ops := ops) (o := o) hvars
        have hf0 := freshOp_congr (P := P) (looks_ev (P := P) hvars)
        rcases fresh_step hf c2 with ⟨k1, k2, k3⟩ | ⟨s, m, cs, k1, k2, k3, k4⟩
        · rw [wantA_sim hs.re k1]
          simp only [Bool.false_eq_true, if_false]
          have q1 : SR P base r (envU ops V (E 0) (fun n => listed.getD n false || n == i) ops.length) (Hh (fm ops (fun j => listed.getD j false) ops.length)) (a.put o.dst undef) w :=
            ⟨by rw [henv, k2]; exact hs.re.put (RV.undef r) hdst rfl, hs.rh, by rw [put_defers]; exact hs.nd⟩
          have q2 : SS base r0 h0 a0 w0 r (Hh (fm ops (fun j => listed.getD j false) ops.length)) (a.put o.dst undef) w := ⟨hss.le, hss.below, by rw [put_size]; exact hss.size, hss.fr⟩
          have q3 : DP P base ops n0 E w0.heap.size (fun n => listed.getD n false || n == i) (fm ops (fun j => listed.getD j false) ops.length) (Hh (fm ops (fun j => listed.getD j false) ops.length)) r w :=
            hdp.more more1 fun j o' s m cs hj _ hj1 hj2 _ hw' _ => by
              simp only [hj2, Bool.false_or, beq_iff_eq] at hj1
              subst hj1
              rw [ho] at hj; cases hj
              rw [← hw0, k1] at hw'; cases hw'
          rcases Nat.lt_or_ge (fm ops (fun j => listed.getD j false) ops.length) i with hlt2 | hge
          · have es := stay hlt2
            exact next r _ w (by rw [es]; exact q1) (by rw [es]; exact q2) (by rw [es]; exact q3)
          · have hfi : fm ops (fun j => listed.getD j false) ops.length = i := by omega
            have := past hfi
            rw [hfi] at q1 q2 q3
            exact onward hfi i r _ w (Nat.le_succ i) (Nat.le_refl i) (by omega) (fun _ => hf) q1 q2 q3
        · rw [wantA_sim hs.re k1]
          simp only [if_true]
          left
          obtain ⟨Cs, ty, g1, g2, g3⟩ := fresh_run hs.rh hs.re k2
          refine wp_value g3 ?_
          have hroom := hdp.room i ⟨o, ho, hf⟩
          have hnone := hdp.free i ⟨o, ho, hf⟩ hni
          have hdead := hdp.dead i c1 ⟨o, ho, hf⟩
          have hle : Ren.le r (r.put (n0 + i) ⟨w.heap.size, 0, Cs.size, m, cs.length, false⟩) := Ren.le_put hnone _
          have q1 : SR P base (r.put (n0 + i) ⟨w.heap.size, 0, Cs.size, m, cs.length, false⟩) (envU ops V (E 0) (fun n => listed.getD n false || n == i) ops.length) (Hh (fm ops (fun j => listed.getD j false) ops.length)) (a.put o.dst (freshV w.heap.size s)) { w with heap := w.heap.push (.cells Cs ty) } :=
            ⟨by rw [henv, k3]; exact (hs.re.mono hle).put (freshV_rel (x := ⟨w.heap.size, 0, Cs.size, m, cs.length, false⟩) (Ren.put_self _ _ _) rfl g2) hdst rfl, hs.rh.mapTo (by omega) hnone, by rw [put_defers]; exact hs.nd⟩
          have q2 : SS base r0 h0 a0 w0 (r.put (n0 + i) ⟨w.heap.size, 0, Cs.size, m, cs.length, false⟩) (Hh (fm ops (fun j => listed.getD j false) ops.length)) (a.put o.dst (freshV w.heap.size s)) { w with heap := w.heap.push (.cells Cs ty) } :=
            ⟨hss.le.trans hle, hss.below.trans (below_push hs.rh.base_le _), by rw [put_size]; exact hss.size, fr_map hss.fr (by omega) hdead⟩
          have q3 : DP P base ops n0 E w0.heap.size (fun n => listed.getD n false || n == i) (fm ops (fun j => listed.getD j false) ops.length) (Hh (fm ops (fun j => listed.getD j false) ops.length)) (r.put (n0 + i) ⟨w.heap.size, 0, Cs.size, m, cs.length, false⟩) { w with heap := w.heap.push (.cells Cs ty) } :=
            hdp.map c1 ⟨o, ho, hf⟩ hni rfl hss.fr.size (fun j hj => by simp only [Bool.or_eq_false_iff, beq_eq_false_iff_ne] at hj; exact ⟨hj.2, hj.1⟩) (h3 := fun j hj hne => by
              have : (j == i) = false := by simpa using hne
              simpa only [this, Bool.or_false] using hj) fun o' s' m' cs' hj hw' hfo => by
              rw [ho] at hj; cases hj
              rw [← hf0, k2] at hfo
              cases hfo
              have hg1 := g1.1
              refine ⟨⟨w.heap.size, 0, Cs.size, m, cs.length, false⟩, Cs, ty, (0, 0), Ren.put_self _ _ _, rfl, rfl, rfl, rfl, by simpa using Nat.le_of_eq hg1, hs.rh.base_le, by simp, by simp, rfl, fun j _ => by simp, fun j v hv => ?_, ?_⟩
              · obtain ⟨v', e1, e2⟩ := g1.get hv
                exact ⟨v', by simpa using e1, e2.mono hle⟩
              · rintro ⟨q, y, y1, y2, y3⟩
                have hq : q ≠ n0 + i := by rintro rfl; rw [hdead] at y2; cases y2
                rw [put_ne _ _ hq] at y1
                have := hs.rh.lives y1 y2
                simp only at y3
                omega
          rcases Nat.lt_or_ge (fm ops (fun j => listed.getD j false) ops.length) i with hlt2 | hge
          · have es := stay hlt2
            exact next _ _ _ (by rw [es]; exact q1) (by rw [es]; exact q2) (by rw [es]; exact q3)
          · have hfi : fm ops (fun j => listed.getD j false) ops.length = i := by omega
            have := past hfi
            rw [hfi] at q1 q2 q3
            exact onward hfi i _ _ _ (Nat.le_succ i) (Nat.le_refl i) (by omega) (fun _ => hf) q1 q2 q3
theorem regionA_sim (hC : OSound P C) (hm : P.follows .mixedOrders = true) {id : Nat} {opsA : Array Oper} {draw : Bool} {r : Ren} {e e' : Env} {h h' : Heap} {a : Act} {w : World} (hs : SR P base r e h a w) (hd : ∀ n ∈ dstsOps opsA.toList, n < a.tmps.size) (k : regionA P C opsA.toList draw e h = some (e', h'))
    (hn : ∀ r' a' w', SR P base r' e' h' a' w' → SS base r h a w r' h' a' w' → Q .normal a' w') : (Code.region id opsA draw).wp P Q a w := by
  unfold regionA at k
  cases draw with
  | false =>
    simp only [Bool.false_eq_true, if_false] at k
    refine wp_region_list ?_
    exact opsA_sim hC opsA.toList r e h a w e' hs hd k hn
  | true =>
    simp only [if_true] at k
    split at k
    case isFalse => cases k
    rename_i ok
    obtain ⟨E, Hh, V, T, t1, t2, t3, t4⟩ := drawA_trace (opsA.toList.zipIdx) 0 e (reserveD opsA.toList h) [] [] e' h' (by simp) (by omega) k (fun _ => e) (fun _ => reserveD opsA.toList h) (fun _ => undef) rfl rfl (fun i o hi => by omega) (fun i j o o' hi => by omega) (fun i j o o' hi => by omega) (fun x => by simp) (fun x => by simp)
    refine wp_region_any hm ?_
    have key := drawn_sim hC T rfl ok (r0 := r) (h0 := h) (a0 := a) (w0 := { w with drawn := w.drawn + 1 }) (Q := Q) (Nat.le_refl _) hd (fun r' a' w' hs' hss' => hn r' a' w' (by rw [t3, t4] at hs'; exact hs') (by
      rw [t4] at hss'
      exact ⟨hss'.le, Below.trans (Below.drew (Below.refl base w)) hss'.below, hss'.size, ⟨hss'.fr.size, hss'.fr.keep, hss'.fr.img, hss'.fr.nx, hss'.fr.old, hss'.fr.new⟩⟩)) opsA.size (Array.replicate opsA.size false) r a { w with drawn := w.drawn + 1 } (by simp) (by simp)
    have hrep : ∀ j, (Array.replicate opsA.size false).getD j false = false := fun j => by
      rw [Array.getD_eq_getD_getElem?]
      cases hx : (Array.replicate opsA.size false)[j]? with
      | none => rfl
      | some v =>
        obtain ⟨h1, h2⟩ := Array.getElem?_eq_some_iff.1 hx
        simp at h2
        subst h2; rfl
    have hz : (fun j => (Array.replicate opsA.size false).getD j false) = fun _ => false := funext hrep
    rw [hz] at key
    have e0 : ∀ n, envU opsA.toList V (E 0) (fun _ => false) n = E 0 := fun n => by induction n with
      | zero => rfl
      | succ n ih => unfold envU; simpa using ih
    have hst : Hh (fm opsA.toList (fun _ => false) opsA.toList.length) = reserveD opsA.toList h := by
      rw [T.still 0 _ (Nat.zero_le _) (fm_le _) fun j _ hj => ?_, t2]
      cases hc : ((opsA.toList[j]?).map isChain).getD false with
      | false => rfl
      | true => have := fm_before (ops := opsA.toList) (L := fun _ => false) opsA.toList.length j hj hc; cases this
    rw [e0, hst, t1] at key
    have hnone : ∀ i, r (h.next + i) = none := fun i => by
      cases hx : r (h.next + i) with
      | none => rfl
      | some x => have := hs.rh.dom _ _ hx; omega
    have hrf : RH P base r (reserveD opsA.toList h) w ∧ Fr r h { w with drawn := w.drawn + 1 } r (reserveD opsA.toList h) { w with drawn := w.drawn + 1 } ∧ ∀ i, Fi opsA.toList i → ((reserveD opsA.toList h).get (h.next + i)).live = false ∧ h.next + i < (reserveD opsA.toList h).next := by
      unfold reserveD
      cases hany : opsA.toList.any fun o => isFresh o.op with
      | true =>
        refine ⟨reserve_rh hs.rh _, reserve_fr _, fun i hi => ⟨?_, ?_⟩⟩
        · have : (h.reserve opsA.toList.length).get (h.next + i) = .dead := if_neg (by omega)
          rw [this]; rfl
        · obtain ⟨o, ho, _⟩ := hi
          have := (List.getElem?_eq_some_iff.1 ho).1
          show h.next + i < h.next + opsA.toList.length
          omega
      | false =>
        refine ⟨hs.rh, Fr.refl _ _ _, fun i hi => ?_⟩
        obtain ⟨o, ho, hf⟩ := hi
        rw [List.any_eq_false] at hany
        exact absurd hf (hany o (List.mem_of_getElem? ho))
    exact key ⟨hs.re, hrf.1.of_heap rfl, hs.nd⟩ ⟨Ren.le.refl _, Below.refl _ _, rfl, hrf.2.1⟩ ⟨fun i o s m cs _ _ h1 => (by cases h1), fun i _ hi => (hrf.2.2 i hi).1, fun i _ _ => hnone i, fun i x _ hx => (by rw [hnone] at hx; cases hx), fun i j x y _ _ _ hx => (by rw [hnone] at hx; cases hx), fun i hi => (hrf.2.2 i hi).2⟩ (fun j o hj => by rw [hrep] at hj; cases hj)
end
end Go.Proofs.YtlihmncbhaimkaaDoor.Am
