/- The abstract machine, second part: operations, regions, code, calls; calls and loops as limits. -/
import Derived.Test.YtlihmncbhaimkaaAmBase
import Derived.Orders
namespace Go.Proofs.Ytlihmncbhaimkaa.Am
open Go

abbrev Oracle := FuncId → List Value → Heap → Option (Value × Heap)
def callA (C : Oracle) (f : Value) (args : List Value) (h : Heap) : Option (Value × Heap) := match f with
  | .func (.func f) first captured => C f (first.toList ++ args ++ captured.toList) h
  | _ => none

section
variable (P : Program) (C : Oracle)
def builtinA (b : Builtin) (ts : List TypeId) (args : List Value) (h : Heap) : Option (Value × Heap) := match b, ts, args with
  | .append, t :: u :: _, [s, x] => (match x with
    | .int _ _ => if isIntT P u && (P.underlying u).isSome then appendZA P t s x h else none
    | _ => appendA P t u s x h)
  | .len, t :: _, [x] => (lenA P t x h).map (·, h)
  | .cap, t :: _, [x] => (capA P t x).map (·, h)
  | .clear, t :: _, [x] => clearA P t x h
  | .max, _, l => (minmaxA true l).map (·, h)
  | .min, _, l => (minmaxA false l).map (·, h)
  | _, _, _ => none
def partsE (e : Env) : List (Nat × Operand) → Option (List (Nat × Value))
  | [] => some []
  | p :: l => (ev P e p.2).bind fun v => (partsE e l).map ((p.1, v) :: ·)
def optE (e : Env) : Option Operand → Option (Option Value)
  | none => some none
  | some x => (ev P e x).map some
def nilCheckA : Value → Option Value
  | .pointer (some a) => some (.pointer (some a))
  | .func (.func f) xs ys => some (.func (.func f) xs ys)
  | _ => none
def extractA (v : Value) (i : Nat) : Option Value := match v with
  | .tuple vs => vs.toList[i]?
  | _ => none
def makeInterfaceA (t : TypeId) (v : Value) : Option Value := match P.underlying t with
  | some (.interface _) => none
  | some _ => some (.iface t v)
  | none => none

/-- One operation: what it yields (nothing: the variable is left undefined), and the heap. -/
def opA (o : Op) (e : Env) (h : Heap) : Option (Value × Heap) := match o with
  | .move x | .assign x => (ev P e x).map (·, h)
  | .pick c a b => (ev P e c).bind fun c => (match c with
    | .bool t => (if t then ev P e a else ev P e b).map (·, h)
    | _ => none)
  | .alloc t => (zeroT P t).map fun z => newA P t h z
  | .box t x => (ev P e x).bind fun v => (flatT P t v).map fun cs => newA P t h cs
  | .build t ps => (partsE P e ps.toList).bind fun ps => (buildA P t ps).map (·, h)
  | .buildSlice t n ps => (partsE P e ps.toList).bind fun ps => buildSliceA P t n ps h
  | .load t a => (ev P e a).bind fun a => (loadA P t h a).map (·, h)
  | .store t a x => (ev P e a).bind fun a => (ev P e x).bind fun x => (storeA P t h a x).map (undef, ·)
  | .nilCheck x => (ev P e x).bind fun v => (nilCheckA v).map (·, h)
  | .binOp op t x y _ => (ev P e x).bind fun a => (ev P e y).bind fun b => (binA P op t a b).map (·, h)
  | .unOp op _ x => (ev P e x).bind fun v => (unA op v).map (·, h)
  | .convert s d x => (ev P e x).bind fun v => convA P s d v h
  | .makeInterface t x => (ev P e x).bind fun v => (makeInterfaceA P t v).map (·, h)
  | .makeFunc (.func f) xs ys => (evs P e xs.toList).bind fun xs => (evs P e ys.toList).map fun ys => (.func (.func f) xs.toArray ys.toArray, h)
  | .makeSlice t l c => (ev P e l).bind fun l => (ev P e c).bind fun c => makeSliceA P t l c h
  | .slice t x lo hi mx => (ev P e x).bind fun x => (optE P e lo).bind fun lo => (optE P e hi).bind fun hi => (optE P e mx).bind fun mx => (sliceA P t x lo hi mx h).map (·, h)
  | .fieldAddr s x f => (ev P e x).bind fun v => (fieldAddrA P s v f).map (·, h)
  | .field s x f => (ev P e x).bind fun v => (fieldA P s v f).map (·, h)
  | .indexAddr t x i => (ev P e x).bind fun v => (ev P e i).bind fun i => (indexAddrA P t v i).map (·, h)
  | .index t x i => (ev P e x).bind fun v => (ev P e i).bind fun i => (indexA P t v i).map (·, h)
  | .extract x i => (ev P e x).bind fun v => (extractA v i).map (·, h)
  | .call { callee := .value f, args, .. } => (ev P e f).bind fun f => (evs P e args.toList).bind fun args => callA C f args h
  | .call { callee := .builtin b, args, argTypes } => (evs P e args.toList).bind fun args => builtinA P b argTypes.toList args h
  | _ => none

/-- Is the operation to be performed? -/
def wantA (ops : List Oper) (e : Env) (o : Oper) : Option Bool := match o.guard with
  | none => some true
  | some (j, w) => ((ops[j]?).bind (·.dst)).bind fun d => (e d).map fun v => match v with
    | .bool b => b == w
    | _ => false
def stepA (ops : List Oper) (o : Oper) (e : Env) (h : Heap) : Option (Value × Heap) :=
  (wantA ops e o).bind fun w => if w then opA P C o.op e h else some (undef, h)
def opsA (ops : List Oper) : List Oper → Env → Heap → Option (Env × Heap)
  | [], e, h => some (e, h)
  | o :: r, e, h => (stepA P C ops o e h).bind fun (v, h) => opsA ops r (upd e o.dst (some v)) h

/-! ### A region that draws its order -/
inductive Cls where
  | quiet | read | chain
def clsOf (o : Op) : Cls := match o with
  | .move _ | .assign _ | .pick .. | .nilCheck _ | .binOp .. | .unOp .. | .makeInterface .. | .makeFunc .. | .fieldAddr .. | .field .. | .indexAddr .. | .index .. | .extract .. | .build .. => .quiet
  | .load .. | .slice .. | .lookup .. => .read
  | .call { callee := .builtin b, .. } => (match b with
    | .len => .read
    | .min | .max => .quiet
    | _ => .chain)
  | _ => .chain
def isChain (o : Oper) : Bool := match clsOf o.op with
  | .chain => true
  | _ => false
def ordered (b : List Nat) (i j : Nat) : Bool := (b.getD j 0).testBit i
/-- Variables that one of two operations writes and the other one names: the two are ordered. -/
def drawOk (ops : List Oper) (b : List Nat) : Bool :=
  let l := ops.zipIdx
  l.all fun (o, j) =>
    (o.after.toList.all fun e => !Region.binds .any e || decide (e.on < j)) &&
    (match o.guard with
      | none => true
      | some (g, _) => ordered b g j) &&
    l.all fun (o', i) => i ≥ j || ordered b i j || (o'.apart ops.toArray o && !(isChain o && isChain o'))
/-- The run in the text's order, with the looks at the reads beside: 'rs': the reads so far (place, operation, variables, value); 'hs': the heaps ahead of each link of the chain so far. -/
noncomputable def drawA (ops : List Oper) (b : List Nat) : List (Oper × Nat) → Env → Heap → List (Nat × Oper × Env × Value) → List (Nat × Heap) → Option (Env × Heap)
  | [], e, h, _, _ => some (e, h)
  | (o, i) :: r, e, h, rs, hs => (stepA P C ops o e h).bind fun (v, h') => match clsOf o.op with
    | .quiet => drawA ops b r (upd e o.dst (some v)) h rs hs
    | .read => open Classical in if (∀ x ∈ hs, ordered b x.1 i = false → stepA P C ops o e x.2 = some (v, x.2)) then drawA ops b r (upd e o.dst (some v)) h ((i, o, e, v) :: rs) hs else none
    | .chain => open Classical in if (∀ x ∈ rs, ordered b x.1 i = false → stepA P C ops x.2.1 x.2.2.1 h' = some (x.2.2.2, h')) then drawA ops b r (upd e o.dst (some v)) h' rs ((i, h) :: hs) else none
noncomputable def regionA (ops : List Oper) (draw : Bool) (e : Env) (h : Heap) : Option (Env × Heap) :=
  if draw then (let b := (Region.before ops.toArray).toList; if drawOk ops b then drawA P C ops b ops.zipIdx e h [] [] else none)
  else opsA P C ops ops e h
end

/-! ### Code -/
inductive Ex where
  | normal | exit (id : Nat) | ret
  deriving DecidableEq
/-- What a loop's rounds hand on: the values of the variables that are listed. -/
abbrev Vs := List (Option Value)
def dstsOps (ops : List Oper) : List Nat := ops.filterMap (·.dst)
def asg : Code → List Nat
  | .region _ ops _ => dstsOps ops.toList
  | .seq a b => asg a ++ asg b
  | .cond _ a b => asg a ++ asg b
  | .block _ c | .loop c | .scope c => asg c
  | _ => []
def firstReg : Code → Option Nat
  | .region id _ _ => some id
  | .seq a b => (firstReg a).orElse fun _ => firstReg b
  | .cond _ a b => (firstReg a).orElse fun _ => firstReg b
  | .block _ c | .loop c | .scope c => firstReg c
  | _ => none
/-- The variables as a round finds them: the listed ones as handed on, the other ones that the body assigns unknown. -/
def headE (e : Env) (L K : List Nat) (vs : Vs) : Env := fun n => if K.contains n then (if L.contains n then vs.getD (L.idxOf n) none else none) else e n
def loopN {σ : Type} (F : σ → Option (Ex × σ)) : Nat → σ → Option (Ex × σ)
  | 0, _ => none
  | n + 1, s => (F s).bind fun (x, s') => match x with
    | .normal => loopN F n s'
    | _ => some (x, s')
open Classical in
noncomputable def loopW {σ : Type} (F : σ → Option (Ex × σ)) (s : σ) : Option (Ex × σ) :=
  if h : ∃ n r, loopN F n s = some r then loopN F h.choose s else none

section
variable (P : Program) (H : Nat → Option (List Nat)) (C : Oracle)
/-- Behind the first one of two parts: nothing is forgotten, or all that it assigns but for what is listed. -/
def joinE (e : Env) (K : List Nat) (L : Option (List Nat)) (e' : Env) : Env := match L with
  | none => e'
  | some L => headE e L K (L.map e')
/-- The table's keys: loops (even), joins (odd). -/
def loopH (c : Code) : List Nat := (H (2 * (firstReg c).getD 0)).getD []
def joinH (b : Code) : Option (List Nat) := H (2 * (firstReg b).getD 0 + 1)
noncomputable def den : Code → Env → Heap → Option (Ex × Env × Heap)
  | .skip, e, h => some (.normal, e, h)
  | .region _ ops d, e, h => (regionA P C ops.toList d e h).map fun (e, h) => (.normal, e, h)
  | .seq a b, e, h => (den a e h).bind fun (x, e', h') => match x with
    | .normal => den b (joinE e (asg a) (joinH H b) e') h'
    | _ => some (x, e', h')
  | .cond c a b, e, h => (ev P e c).bind fun v => match v with
    | .bool t => if t then den a e h else den b e h
    | _ => none
  | .block id c, e, h => (den c e h).map fun (x, e, h) => (if x = .exit id then .normal else x, e, h)
  | .loop c, e, h =>
    let L := loopH H c
    let K := asg c
    (loopW (fun (s : Vs × Heap) => (den c (headE e L K s.1) s.2).map fun (x, e', h') => (x, (L.map e', h'))) (L.map e, h)).map fun (x, s) => (x, headE e L K s.1, s.2)
  | .exit id, e, h => some (.exit id, e, h)
  | .ret, e, h => some (.ret, e, h)
  | .scope c, e, h => den c e h
  | .label _, e, h => some (.normal, e, h)
  | _, _, _ => none
def resA (P : Program) (e : Env) (h : Heap) : List ResultVar → Option (List Value)
  | [] => some []
  | .tmp t :: r => (e t).bind fun v => (resA P e h r).map (v :: ·)
  | .cell a t :: r => (e a).bind fun p => (loadA P t h p).bind fun v => (resA P e h r).map (v :: ·)
def packR : List Value → Value
  | [v] => v
  | l => .tuple l.toArray
def argE (args : List Value) (ntmps : Nat) : Env := fun n => if n < args.length then args[n]? else if n < ntmps then some undef else none
noncomputable def funA (fn : Func) (args : List Value) (h : Heap) : Option (Value × Heap) := if fn.name = "runtime.NumGoroutine" then none else match fn.body with
  | none => none
  | some c => if (asg c).all (· < fn.ntmps) then (den P H C c (argE args fn.ntmps) h).bind fun (x, e, h) => (match x with
    | .exit _ => none
    | _ => (resA P e h fn.results.toList).map fun l => (packR l, h)) else none
end
/-- The table of the loops' variables: function, first region of the body. -/
abbrev Hints := FuncId → Nat → Option (List Nat)
section
variable (P : Program) (H : Hints) (X : FuncId → Option (List Value → Heap → Option (Value × Heap)))
noncomputable def callN : Nat → Oracle
  | 0, _, _, _ => none
  | n + 1, f, args, h => match X f with
    | some g => g args h
    | none => match P.funcs[f]? with
      | none => none
      | some fn => funA P (H f) (callN n) fn args h
open Classical in
noncomputable def call (f : FuncId) (args : List Value) (h : Heap) : Option (Value × Heap) :=
  if k : ∃ n r, callN P H X n f args h = some r then callN P H X k.choose f args h else none
end
end Go.Proofs.Ytlihmncbhaimkaa.Am
