/- The abstract machine: a deterministic interpreter of Go.Code over a heap of blocks, each a list of cells. No theorem about the model stands here; it is tied to the model in the texts behind it. -/
import Derived.Tactics
import Derived.KernelRfl
namespace Go.Proofs.Ytlihmncbhaimkaa.Am
open Go

/-! ### The heap -/
inductive Blk where
  | dead
  | cells (cs : List Value) (esz : Nat) (grow ro : Bool)
  | map (es : List (Value × Value))

structure Heap where
  next : Nat
  get : Nat → Blk

def Heap.set (h : Heap) (b : Nat) (x : Blk) : Heap := { next := h.next, get := fun n => if n = b then x else h.get n }
def Heap.push (h : Heap) (x : Blk) : Heap := { next := h.next + 1, get := fun n => if n = h.next then x else h.get n }
def Heap.kill (h : Heap) (b : Nat) : Heap := h.set b .dead

/-! ### Variables -/
abbrev Env := Nat → Option Value
def upd (e : Env) (d : Option Nat) (v : Option Value) : Env := match d with
  | none => e
  | some d => fun n => if n = d then v else e n

/-- A value that names no place. -/
def closedV : Nat → Value → Bool
  | _, .bool _ | _, .int _ _ | _, .string _ | _, .pointer none | _, .slice none 0 0 | _, .map none | _, .nilFunc | _, .nilIface => true
  | n + 1, .agg cs => cs.toList.all (closedV n)
  | _, .func (.func _) fs cs => fs.toList.isEmpty && cs.toList.isEmpty
  | _, _ => false
def ev (P : Program) (e : Env) : Operand → Option Value
  | .tmp t => e t
  | .const v => if closedV 3 v then some v else none
  | .global g => if g < P.globals.size then some (.pointer (some ⟨g, 0, none⟩)) else none
  | .func f => some (.func (.func f) #[] #[])
def evs (P : Program) (e : Env) : List Operand → Option (List Value)
  | [] => some []
  | x :: l => (ev P e x).bind fun v => (evs P e l).map (v :: ·)

/-! ### Types -/
section
variable (P : Program)
def sz (t : TypeId) : Nat := P.cellsOf t
def by_ (t : TypeId) : Nat := P.bytesOf t
def isAggD : TypeDesc → Bool
  | .struct _ | .array _ _ => true
  | _ => false
/-- Is the type's value a row of cells? -/
def aggT (t : TypeId) : Option Bool := (P.underlying t).map isAggD
def zeroV (t : TypeId) : Option Value := ((P.info? t).bind (·.zero)).bind fun v => if closedV 3 v then some v else none
def zeroT (t : TypeId) : Option (List Value) := (zeroV P t).map fun v => v.cells.toList
def isU8 (t : TypeId) : Bool := match P.underlying t with
  | some (.int .u8) => true
  | _ => false
def isIntT (t : TypeId) : Bool := match P.underlying t with
  | some (.int _) => true
  | some _ => false
  | none => true
def elemT (t : TypeId) : Option TypeId := match P.underlying t with
  | some (.slice e) => some e
  | _ => none

/-- One cell's value. -/
def isOne : Value → Bool
  | .agg _ | .tuple _ => false
  | _ => true
/-- The cells of a value of a type. -/
def flatT (t : TypeId) (v : Value) : Option (List Value) := (aggT P t).bind fun g =>
  if g then (match v with
    | .agg cs => if cs.toList.length = sz P t then some cs.toList else none
    | _ => none)
  else if isOne v ∧ sz P t = 1 then some [v] else none

/-! ### Reading and writing -/
def rdCells (cs : List Value) (i n : Nat) : Option (List Value) := if i + n ≤ cs.length then some ((cs.drop i).take n) else none
def wrCells (cs : List Value) (i : Nat) : List Value → List Value
  | [] => cs
  | v :: r => wrCells (cs.set i v) (i + 1) r
def loadC (h : Heap) (b i n : Nat) : Option (List Value) := match h.get b with
  | .cells cs _ _ _ => rdCells cs i n
  | _ => none
def load1 (h : Heap) (b i : Nat) : Option Value := match h.get b with
  | .cells cs _ _ _ => cs[i]?
  | _ => none
def loadA (t : TypeId) (h : Heap) : Value → Option Value
  | .pointer (some ⟨b, i, none⟩) => (aggT P t).bind fun g => if g then (loadC h b i (sz P t)).map (fun l => .agg l.toArray) else load1 h b i
  | _ => none
def storeC (h : Heap) (b i : Nat) (vs : List Value) : Option Heap := match h.get b with
  | .cells cs s g ro => if ro then none else if i + vs.length ≤ cs.length then (if vs.all isOne then some (h.set b (.cells (wrCells cs i vs) s g false)) else none) else none
  | _ => none
def storeA (t : TypeId) (h : Heap) (p v : Value) : Option Heap := match p with
  | .pointer (some ⟨b, i, none⟩) => (flatT P t v).bind fun vs => storeC h b i vs
  | _ => none
def ptr (b i : Nat) : Value := .pointer (some ⟨b, i, none⟩)
def newA (t : TypeId) (h : Heap) (cs : List Value) : Value × Heap := (ptr h.next 0, h.push (.cells cs (sz P t) false false))

/-! ### Building -/
def fillA (place : Nat → Option (Nat × TypeId)) : List Value → List (Nat × Value) → Option (List Value)
  | cs, [] => some cs
  | cs, (i, v) :: r => match place i with
    | none => none
    | some (off, t) => (flatT P t v).bind fun vs => if vs.length = sz P t then (if off + vs.length ≤ cs.length then fillA place (wrCells cs off vs) r else none) else none
def buildA (t : TypeId) (parts : List (Nat × Value)) : Option Value :=
  (zeroT P t).bind fun z => match P.underlying t with
    | some (.struct fs) => if fs.toList.all (fun f => (P.info? f.type).isSome) then (fillA P (fun i => (fs[i]?).map fun f => (f.offset, f.type)) z parts).map fun cs => .agg cs.toArray else none
    | some (.array _ e) => if (P.info? e).isSome then (fillA P (fun i => some (i * sz P e, e)) z parts).map fun cs => .agg cs.toArray else none
    | _ => none
def reps (n : Nat) (z : List Value) : List Value := (List.replicate n z).flatten
def buildSliceA (t : TypeId) (len : Nat) (parts : List (Nat × Value)) (h : Heap) : Option (Value × Heap) :=
  (elemT P t).bind fun e => (zeroT P e).bind fun z => if z.length = sz P e then (if 0 < sz P e ∧ len * sz P e ≤ 65536 then
    (fillA P (fun i => some (i * sz P e, e)) (reps len z) parts).map fun cs => (.slice (some ⟨h.next, 0, none⟩) len len, h.push (.cells cs (sz P e) false false)) else none) else none
def makeSliceA (t : TypeId) (l c : Value) (h : Heap) : Option (Value × Heap) := match l, c with
  | .int .i64 l, .int .i64 c => (elemT P t).bind fun e => (zeroT P e).bind fun z =>
    if 0 ≤ l ∧ l ≤ c ∧ c * by_ P e ≤ 70368744177664 ∧ c ≤ 70368744177664 ∧ z.length = sz P e ∧ 0 < sz P e then some (.slice (some ⟨h.next, 0, none⟩) l.toNat c.toNat, h.push (.cells (reps c.toNat z) (sz P e) false false)) else none
  | _, _ => none

/-! ### Places -/
def fieldAddrA (s : TypeId) (x : Value) (f : Nat) : Option Value := match x with
  | .pointer (some ⟨b, i, none⟩) => (match P.underlying s with
    | some (.struct fs) => (fs[f]?).bind fun fd => if sz P fd.type = 0 then none else some (.pointer (some ⟨b, i + fd.offset, none⟩))
    | _ => none)
  | _ => none
def partA (t : TypeId) (cs : List Value) (off : Nat) : Option Value := (aggT P t).bind fun g =>
  if g then (rdCells cs off (sz P t)).map (fun l => .agg l.toArray) else cs[off]?
def fieldA (s : TypeId) (x : Value) (f : Nat) : Option Value := match x with
  | .agg cs => (match P.underlying s with
    | some (.struct fs) => (fs[f]?).bind fun fd => partA P fd.type cs.toList fd.offset
    | _ => none)
  | _ => none
def indexAddrA (t : TypeId) (x i : Value) : Option Value := match i with
  | .int _ n => (match P.underlying t, x with
    | some (.slice e), .slice (some ⟨b, o, none⟩) len _ => if (P.info? e).isSome ∧ 0 ≤ n ∧ n < len then some (.pointer (some ⟨b, o + n.toNat * sz P e, none⟩)) else none
    | some (.array len e), .pointer (some ⟨b, o, none⟩) => if (P.info? e).isSome ∧ 0 ≤ n ∧ n < len then some (.pointer (some ⟨b, o + n.toNat * sz P e, none⟩)) else none
    | _, _ => none)
  | _ => none
def indexA (t : TypeId) (x i : Value) : Option Value := match i with
  | .int _ n => (match P.underlying t, x with
    | some (.array len e), .agg cs => if (P.info? e).isSome ∧ 0 ≤ n ∧ n < len then partA P e cs.toList (n.toNat * sz P e) else none
    | some .string, .string s => if 0 ≤ n then (s[n.toNat]?).map fun b => .int .u8 b.toNat else none
    | _, _ => none)
  | _ => none
def boundA (dflt : Nat) : Option Value → Option Nat
  | none => some dflt
  | some (.int _ n) => if 0 ≤ n then some n.toNat else none
  | _ => none
def sliceA (t : TypeId) (x : Value) (lo hi mx : Option Value) (h : Heap) : Option Value :=
  match P.underlying t, x with
  | some .string, .string s => (boundA 0 lo).bind fun l => (boundA s.size hi).bind fun r => if mx.isNone ∧ l ≤ r ∧ r ≤ s.size then some (.string (s.extract l r)) else none
  | some (.slice e), .slice none 0 0 => (boundA 0 lo).bind fun l => (boundA 0 hi).bind fun r => (boundA 0 mx).bind fun m => if (P.info? e).isSome ∧ l ≤ r ∧ r ≤ m ∧ m ≤ 0 ∧ (mx.isSome → hi.isSome) then some (.slice none 0 0) else none
  | some (.slice e), .slice (some ⟨b, o, none⟩) len cap => (boundA 0 lo).bind fun l => (boundA len hi).bind fun r => (boundA cap mx).bind fun m =>
    if (P.info? e).isSome ∧ l ≤ r ∧ r ≤ m ∧ m ≤ cap ∧ (mx.isSome → hi.isSome) then (match h.get b with
      | .cells _ s g _ => if s = sz P e ∨ g = false then some (.slice (some ⟨b, o + l * sz P e, none⟩) (r - l) (m - l)) else none
      | _ => none) else none
  | some (.array n e), .pointer (some ⟨b, o, none⟩) => (boundA 0 lo).bind fun l => (boundA n hi).bind fun r => (boundA n mx).bind fun m =>
    if (P.info? e).isSome ∧ l ≤ r ∧ r ≤ m ∧ m ≤ n ∧ (mx.isSome → hi.isSome) then some (.slice (some ⟨b, o + l * sz P e, none⟩) (r - l) (m - l)) else none
  | _, _ => none

/-! ### Operators -/
/-- '==' as the model reckons it, where no place is looked at. -/
def eqA : Nat → TypeId → Value → Value → Option Bool
  | 0, _, _, _ => none
  | d + 1, t, x, y => match P.underlying t, x, y with
    | some .bool, .bool a, .bool b => some (a == b)
    | some (.int _), .int k a, .int k' b => if k = k' then some (a == b) else none
    | some .string, .string a, .string b => some (a == b)
    | some (.pointer _), .pointer none, .pointer b => some b.isNone
    | some (.pointer _), .pointer (some _), .pointer none => some false
    | some (.interface _), .iface _ _, .nilIface => some false
    | some (.interface _), .nilIface, .iface _ _ => some false
    | some (.slice _), .slice a _ _, .slice none _ _ => some a.isNone
    | some (.map _ _), .map a, .map none => some a.isNone
    | some (.func _ _ _), .nilFunc, .nilFunc => some true
    | some (.func _ _ _), .func _ _ _, .nilFunc => some false
    | some (.struct fs), .agg xs, .agg ys => if P.stoodInHeld t then none else if P.eqGuardType P.depth t then none else eqFs (eqA d) fs.toList xs.toList ys.toList
    | _, _, _ => none
where
  eqFs (eq : TypeId → Value → Value → Option Bool) : List Field → List Value → List Value → Option Bool
    | [], _, _ => some true
    | f :: r, xs, ys => if f.name ≠ "_" then
        (partA P f.type xs f.offset).bind fun a => (partA P f.type ys f.offset).bind fun b => (eq f.type a b).bind fun c => if c then eqFs eq r xs ys else some false
      else eqFs eq r xs ys
def eqDepth : Nat := 4
end

def intOp (op : BinOp) (k : IntKind) (a b : Int) : Option Value := match op with
  | .add => some (.int k (k.wrap (a + b)))
  | .sub => some (.int k (k.wrap (a - b)))
  | .mul => some (.int k (k.wrap (a * b)))
  | .quo => if b = 0 then none else some (.int k (k.wrap (a.tdiv b)))
  | .rem => if b = 0 then none else some (.int k (a.tmod b))
  | .and => some (.int k (k.wrap (BitVec.ofInt k.bits a &&& BitVec.ofInt k.bits b).toNat))
  | .or => some (.int k (k.wrap (BitVec.ofInt k.bits a ||| BitVec.ofInt k.bits b).toNat))
  | .xor => some (.int k (k.wrap (BitVec.ofInt k.bits a ^^^ BitVec.ofInt k.bits b).toNat))
  | .andNot => some (.int k (k.wrap (BitVec.ofInt k.bits a &&& ~~~BitVec.ofInt k.bits b).toNat))
  | .eql => some (.bool (a == b))
  | .neq => some (.bool (a != b))
  | .lss => some (.bool (a < b))
  | .leq => some (.bool (a ≤ b))
  | .gtr => some (.bool (a > b))
  | .geq => some (.bool (a ≥ b))
  | _ => none
def shiftOp (op : BinOp) (k : IntKind) (a b : Int) : Option Value := if b < 0 then none else match op with
  | .shl => some (.int k (k.wrap (a * 2 ^ min b.toNat k.bits)))
  | .shr => some (.int k (a.fdiv (2 ^ min b.toNat k.bits)))
  | _ => none
def strOp (op : BinOp) (x y : ByteArray) : Option Value := match op with
  | .add => if x.size + y.size ≤ 70368744177664 then some (.string (x ++ y)) else none
  | .eql => some (.bool (x.toList == y.toList))
  | .neq => some (.bool !(x.toList == y.toList))
  | .lss => some (.bool (Op.bytesLess x.toList y.toList))
  | .leq => some (.bool (Op.bytesLess x.toList y.toList || x.toList == y.toList))
  | .gtr => some (.bool !(Op.bytesLess x.toList y.toList || x.toList == y.toList))
  | .geq => some (.bool !(Op.bytesLess x.toList y.toList))
  | _ => none
section
variable (P : Program)
def binA (op : BinOp) (t : TypeId) (x y : Value) : Option Value := match x, y with
  | .int k a, .int k' b => (match op with
    | .shl | .shr => shiftOp op k a b
    | _ => if k = k' then intOp op k a b else none)
  | .string a, .string b => strOp op a b
  | x, y => (match op with
    | .eql => (eqA P eqDepth t x y).map .bool
    | .neq => (eqA P eqDepth t x y).map fun b => .bool (!b)
    | _ => none)
def unA (op : UnOp) (x : Value) : Option Value := match op, x with
  | .neg, .int k n => some (.int k (k.wrap (0 - n)))
  | .xor, .int k n => intOp .xor k (if k.signed then -1 else k.max) n
  | .not, .bool b => some (.bool !b)
  | _, _ => none
def bytesOf : List Value → Option (List UInt8)
  | [] => some []
  | .int .u8 n :: r => (bytesOf r).map (UInt8.ofNat n.toNat :: ·)
  | _ => none
def byteCells (s : ByteArray) : List Value := s.data.toList.map fun b => .int .u8 b.toNat
def convA (src dst : TypeId) (x : Value) (h : Heap) : Option (Value × Heap) :=
  match P.underlying src, P.underlying dst, x with
  | some _, some (.int k), .int _ n => some (.int k (k.wrap n), h)
  | some _, some .string, .string s => some (.string s, h)
  | some _, some (.slice e), .string s => if isU8 P e then (if sz P e = 1 ∧ s.size ≤ 70368744177664 then
      some (.slice (some ⟨h.next, 0, none⟩) s.size s.size, h.push (.cells (byteCells s) 1 true false)) else none) else none
  | some (.slice e), some .string, .slice none _ _ => if isU8 P e then some (.string ⟨#[]⟩, h) else none
  | some (.slice e), some .string, .slice (some ⟨b, o, none⟩) len _ => if isU8 P e then
      (loadC h b o len).bind fun l => (bytesOf l).map fun s => (.string ⟨s.toArray⟩, h) else none
  | _, _, _ => none

/-! ### Built-in functions -/
def lenA (t : TypeId) (x : Value) (h : Heap) : Option Value := match P.underlying t, x with
  | some .string, .string s => some (.int .i64 s.size)
  | some (.slice _), .slice _ n _ => some (.int .i64 n)
  | some (.array n _), _ => some (.int .i64 n)
  | some (.map _ _), .map none => some (.int .i64 0)
  | some (.map _ _), .map (some r) => (match h.get r with
    | .map es => some (.int .i64 es.length)
    | _ => none)
  | _, _ => none
def srcCells (size : Nat) (x : Value) (h : Heap) : Option (List Value) := match x with
  | .slice none 0 _ => some []
  | .slice (some ⟨b, o, none⟩) n _ => loadC h b o (n * size)
  | .string s => if size = 1 then some (byteCells s) else none
  | _ => none
def srcLen : Value → Option Nat
  | .slice _ n _ => some n
  | .string s => some s.size
  | _ => none
/-- 'append': in place where the row is known to have room; else a new row, and the old one dies where the model may have gone on in it. -/
def appendA (t xt : TypeId) (s x : Value) (h : Heap) : Option (Value × Heap) :=
  if isIntT P xt then none else
  (elemT P t).bind fun e => (zeroT P e).bind fun z => if sz P e = 0 ∨ z.length ≠ sz P e ∨ 65536 < by_ P e then none else match s with
  | .slice none 0 0 => (srcLen x).bind fun n => (srcCells (sz P e) x h).bind fun new =>
      if n = 0 then some (.slice none 0 0, h) else
      if n * by_ P e ≤ 70368744177664 ∧ n ≤ 70368744177664 then some (.slice (some ⟨h.next, 0, none⟩) n n, h.push (.cells new (sz P e) true false)) else none
  | .slice (some ⟨b, o, none⟩) len cap => (srcLen x).bind fun n => (srcCells (sz P e) x h).bind fun new =>
      if n = 0 then some (.slice (some ⟨b, o, none⟩) len cap, h) else
      if len + n ≤ cap then (storeC h b (o + len * sz P e) new).map fun h' => (.slice (some ⟨b, o, none⟩) (len + n) cap, h') else
      if (len + n) * by_ P e ≤ 70368744177664 ∧ len + n ≤ 70368744177664 then
        match h.get b with
        | .cells cs es g ro => (rdCells cs o (len * sz P e)).bind fun old =>
          if g = false ∨ o + cap * sz P e < cs.length then (if es = sz P e ∨ g = false then some (.slice (some ⟨h.next, 0, none⟩) (len + n) (len + n), h.push (.cells (old ++ new) (sz P e) true false)) else none)
          else if es = sz P e ∧ ro = false ∧ new.all isOne = true then some (.slice (some ⟨h.next, 0, none⟩) (len + n) (len + n), (h.kill b).push (.cells (old ++ new) (sz P e) true false)) else none
        | _ => none
      else none
  | _ => none
/-- 'append(s, make([]T, n)...)' onto a nil slice. -/
def appendZA (t : TypeId) (s x : Value) (h : Heap) : Option (Value × Heap) :=
  (elemT P t).bind fun e => (zeroT P e).bind fun z => if sz P e = 0 ∨ z.length ≠ sz P e ∨ 65536 < by_ P e then none else match s, x with
  | .slice none 0 0, .int .i64 n => if 0 < n ∧ n * by_ P e ≤ 70368744177664 ∧ n ≤ 70368744177664 then
      some (.slice (some ⟨h.next, 0, none⟩) n.toNat n.toNat, h.push (.cells (reps n.toNat z) (sz P e) true false)) else none
  | _, _ => none
def capA (t : TypeId) (x : Value) : Option Value := match P.underlying t, x with
  | some (.slice _), .slice none 0 0 => some (.int .i64 0)
  | _, _ => none
def clearA (t : TypeId) (x : Value) (h : Heap) : Option (Value × Heap) := match P.underlying t, x with
  | some (.slice e), .slice a n _ => if n = 0 then some (.tuple #[], h) else (match a with
    | some ⟨b, o, none⟩ => (zeroT P e).bind fun z => if 0 < z.length then (storeC h b o (reps n z)).map fun h' => (.tuple #[], h') else none
    | _ => none)
  | _, _ => none
def minmaxA (mx : Bool) : List Value → Option Value
  | .int k a :: r => go k a r
  | _ => none
where
  go (k : IntKind) (a : Int) : List Value → Option Value
    | [] => some (.int k a)
    | .int k' b :: r => if k' = k then go k (if mx then (if b > a then b else a) else (if b < a then b else a)) r else none
    | _ => none

/-! ### Maps -/
def mapLook (eq : Value → Value → Option Bool) (k : Value) : List (Value × Value) → Option (Option Value)
  | [] => some none
  | (k', v) :: r => (eq k k').bind fun b => if b then some (some v) else mapLook eq k r
def mapPut (eq : Value → Value → Option Bool) (k v : Value) : List (Value × Value) → Option (List (Value × Value))
  | [] => some [(k, v)]
  | (k', v') :: r => (eq k k').bind fun b => if b then some ((k, v) :: r) else (mapPut eq k v r).map ((k', v') :: ·)
/-- The types of keys that are taken: whole numbers, strings, and structs of these. -/
def keyT : Nat → TypeId → Bool
  | 0, _ => false
  | d + 1, t => match P.underlying t with
    | some (.int _) | some .string => true
    | some (.struct fs) => !P.stoodInHeld t && fs.toList.all fun f => f.name ≠ "_" && keyT d f.type
    | _ => false
def lookupA (t : TypeId) (m k : Value) (ok : Bool) (h : Heap) : Option Value := match P.underlying t with
  | some (.map kt et) => if keyT P eqDepth kt then
      (match m with
        | .map none => some []
        | .map (some r) => (match h.get r with
          | .map es => some es
          | _ => none)
        | _ => none).bind fun es => (mapLook (eqA P eqDepth kt) k es).bind fun r => (match r with
          | some v => some (v, true)
          | none => (zeroV P et).map fun v => (v, false)).map fun (v, b) => if ok then .tuple #[v, .bool b] else v
    else none
  | _ => none
def mapUpdateA (t : TypeId) (m k v : Value) (h : Heap) : Option Heap := match P.underlying t, m with
  | some (.map kt _), .map (some r) => if keyT P eqDepth kt then (match h.get r with
      | .map es => (mapPut (eqA P eqDepth kt) k v es).map fun es' => h.set r (.map es')
      | _ => none) else none
  | _, _ => none
end
end Go.Proofs.Ytlihmncbhaimkaa.Am
