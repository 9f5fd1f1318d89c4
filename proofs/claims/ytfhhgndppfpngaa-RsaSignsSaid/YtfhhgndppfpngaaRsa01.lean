/- A plain evaluator of the model's code and what is kept: definitions, first laws. No condition. -/
import Derived.Calls
import Derived.Orders
import Derived.LoopN
import Derived.Laws.Sem
import Derived.Below
import Derived.Laws.Entries
import Derived.Laws.Cells
import Derived.Lib.ConvBytes
import Derived.Lib.Strings
import Derived.Laws.BytesString
set_option linter.unusedSimpArgs false
set_option linter.unusedVariables false
set_option linter.unusedVariables false
namespace Go.Ev

/-- A value that nothing changes any more: a slice is the row of its cells. -/
inductive PV where
  | int (k : IntKind) (n : Int)
  | bool (b : Bool)
  | str (l : List Nat)
  | nilp
  | nilf
  | und
  | any
  | u8u
  | nsl (nil : Bool)
  | fn (f : Fn) (first caps : List PV)
  | sl (n : Nat) (x : Bool) (cs : List PV)
  | agg (cs : List PV)
  | tup (cs : List PV)
  deriving Inhabited

/-- A value of a running call: it may name a block that is still written. -/
inductive AV where
  | p (x : PV)
  | ms (id ver off n sz : Nat)
  | pt (id ver off : Nat)
  | ip (cs : List PV)
  | fn (f : Fn) (first caps : List AV)
  | agg (cs : List AV)
  | tup (cs : List AV)
  deriving Inhabited

/-- A block of the call's own. -/
structure ABlk where
  ver : Nat
  fz : Bool
  cells : List AV
  deriving Inhabited

def mapO {α β : Type} (f : α → Option β) : List α → Option (List β)
  | [] => some []
  | x :: xs => match f x with
    | none => none
    | some y => match mapO f xs with
      | none => none
      | some ys => some (y :: ys)

def ofVal1 : Value → Option PV
  | .bool b => some (.bool b)
  | .int k n => some (.int k n)
  | .string s => some (.str (s.data.toList.map UInt8.toNat))
  | .pointer none => some .nilp
  | .slice none 0 0 => some (.nsl true)
  | .nilFunc => some .nilf
  | _ => none

def ofVal : Value → Option PV
  | .agg cs => match mapO ofVal1 cs.toList with
    | some xs => some (.agg xs)
    | none => none
  | .tuple vs => if vs.size = 0 then some .und else none
  | v => ofVal1 v

def AV.pure? : AV → Option PV
  | .p x => some x
  | _ => none
def mkAgg (cs : List AV) : AV := match mapO AV.pure? cs with
  | some xs => .p (.agg xs)
  | none => .agg cs
def mkTup (cs : List AV) : AV := match mapO AV.pure? cs with
  | some xs => .p (.tup xs)
  | none => .tup cs

/-- May it stand in a cell? -/
def AV.isCell : AV → Bool
  | .p .und | .p .any | .p (.agg _) | .p (.tup _) | .agg _ | .tup _ => false
  | _ => true
/-- The cells of a value. -/
def cellsOf : AV → Option (List AV)
  | .p (.agg xs) => if (xs.map AV.p).all AV.isCell then some (xs.map .p) else none
  | .agg cs => if cs.all AV.isCell then some cs else none
  | a => if a.isCell then some [a] else none

def setAt (cells : List AV) (off : Nat) : List AV → List AV
  | [] => cells
  | c :: cs => setAt (cells.set off c) (off + 1) cs

def afill (place : Nat → Option (Nat × Nat)) (cells : List AV) : List (Nat × AV) → Option (List AV)
  | [] => some cells
  | (i, v) :: rest => match place i with
    | none => none
    | some (off, size) => match cellsOf v with
      | none => none
      | some cs => if cs.length ≠ size ∨ off + cs.length > cells.length then none else afill place (setAt cells off cs) rest

/-! ### Numbers and strings -/
def u8 (b : Nat) : PV := .int .u8 (b : Int)
def ibits (k : IntKind) (r : BitVec k.bits) : Option PV := some (.int k (k.wrap r.toNat))
def ibin (op : BinOp) (k : IntKind) (a b : Int) : Option PV :=
  match op with
  | .add => some (.int k (k.wrap (a + b)))
  | .sub => some (.int k (k.wrap (a - b)))
  | .mul => some (.int k (k.wrap (a * b)))
  | .quo => if b = 0 then none else some (.int k (k.wrap (a.tdiv b)))
  | .rem => if b = 0 then none else some (.int k (a.tmod b))
  | .and => ibits k (BitVec.ofInt k.bits a &&& BitVec.ofInt k.bits b)
  | .or => ibits k (BitVec.ofInt k.bits a ||| BitVec.ofInt k.bits b)
  | .xor => ibits k (BitVec.ofInt k.bits a ^^^ BitVec.ofInt k.bits b)
  | .andNot => ibits k (BitVec.ofInt k.bits a &&& ~~~(BitVec.ofInt k.bits b))
  | .eql => some (.bool (a == b))
  | .neq => some (.bool (a != b))
  | .lss => some (.bool (a < b))
  | .leq => some (.bool (a ≤ b))
  | .gtr => some (.bool (a > b))
  | .geq => some (.bool (a ≥ b))
  | _ => none
def ishift (op : BinOp) (k : IntKind) (a b : Int) : Option PV :=
  if b < 0 then none else
  match op with
  | .shl => some (.int k (k.wrap (a * 2 ^ (min b.toNat k.bits))))
  | .shr => some (.int k (a.fdiv (2 ^ (min b.toNat k.bits))))
  | _ => none
def less : List Nat → List Nat → Bool
  | _, [] => false
  | [], _ :: _ => true
  | a :: x, b :: y => decide (a < b) || (a == b && less x y)
def sbin (op : BinOp) (a b : List Nat) : Option PV :=
  match op with
  | .add => if ((a.length + b.length : Nat) : Int) > IntKind.i64.max then none else some (.str (a ++ b))
  | .eql => some (.bool (a == b))
  | .neq => some (.bool !(a == b))
  | .lss => some (.bool (less a b))
  | .leq => some (.bool (less a b || a == b))
  | .gtr => some (.bool !(less a b || a == b))
  | .geq => some (.bool !(less a b))
  | _ => none

/-- Are two cells one? (numbers, truths, strings) -/
def eqc : PV → PV → Option Bool
  | .int k a, .int k' b => if k = k' then some (a == b) else none
  | .bool a, .bool b => some (a == b)
  | .str a, .str b => some (a == b)
  | _, _ => none

/-! ### Types -/
def sizeT (P : Program) (t : TypeId) : Option Nat := (P.info? t).map (·.size)
def bytesT (P : Program) (t : TypeId) : Option Nat := (P.info? t).map (·.bytes)
def zeroT (P : Program) (t : TypeId) : Option (List AV) :=
  match (P.info? t).bind (·.zero) with
  | some z => match ofVal z with
    | some x => cellsOf (.p x)
    | none => none
  | none => none
def aggT (P : Program) (t : TypeId) : Option Bool :=
  match P.underlying t with
  | some (.struct _) => some true
  | some (.array _ _) => some true
  | some _ => some false
  | none => none

/-! ### Memory of the call's own -/
def mark (ids : List Nat) (H : List ABlk) : List ABlk := ids.foldl (fun H i => H.modify i fun B => { B with fz := true }) H
def blkRead (H : List ABlk) (id ver off n : Nat) : Option (List AV) :=
  match H[id]? with
  | none => none
  | some B => if B.ver = ver ∧ off + n ≤ B.cells.length then some ((B.cells.drop off).take n) else none

mutual
/-- The same, nothing told of capacities. -/
def norm : PV → PV
  | .sl n _ cs => .sl n false (normL cs)
  | .agg cs => .agg (normL cs)
  | .tup cs => .tup (normL cs)
  | .fn f a b => .fn f (normL a) (normL b)
  | .nsl _ => .sl 0 false []
  | x => x
def normL : List PV → List PV
  | [] => []
  | x :: xs => norm x :: normL xs
end
/-- A value as one that nothing changes any more; strict: the blocks that it names are such already. -/
def frz (st : Bool) (H : List ABlk) : Nat → AV → Option PV
  | _, .p x => some (norm x)
  | 0, _ => none
  | k + 1, .ms id ver off n sz => match H[id]? with
    | none => none
    | some B => if B.ver = ver ∧ off + n * sz ≤ B.cells.length ∧ (st = false ∨ B.fz = true) then
        match mapO (frz st H k) ((B.cells.drop off).take (n * sz)) with
        | some cs => some (.sl n false cs)
        | none => none
      else none
  | k + 1, .fn f a b => match mapO (frz st H k) a, mapO (frz st H k) b with
    | some xs, some ys => some (.fn f xs ys)
    | _, _ => none
  | k + 1, .agg cs => match mapO (frz st H k) cs with
    | some xs => some (.agg xs)
    | none => none
  | k + 1, .tup cs => match mapO (frz st H k) cs with
    | some xs => some (.tup xs)
    | none => none
  | _, _ => none
/-- The blocks that a value names. -/
def ids (H : List ABlk) : Nat → AV → List Nat
  | 0, _ => []
  | k + 1, .ms id _ off n sz => id :: match H[id]? with
    | none => []
    | some B => ((B.cells.drop off).take (n * sz)).flatMap (ids H k)
  | k + 1, .fn _ a b => a.flatMap (ids H k) ++ b.flatMap (ids H k)
  | k + 1, .agg cs => cs.flatMap (ids H k)
  | k + 1, .tup cs => cs.flatMap (ids H k)
  | _, _ => []
def deep : Nat := 6

mutual
def shift (k : Nat) : AV → AV
  | .p x => .p x
  | .ms id ver off n sz => .ms (id + k) ver off n sz
  | .pt id ver off => .pt (id + k) ver off
  | .ip cs => .ip cs
  | .fn f a b => .fn f (shiftL k a) (shiftL k b)
  | .agg cs => .agg (shiftL k cs)
  | .tup cs => .tup (shiftL k cs)
def shiftL (k : Nat) : List AV → List AV
  | [] => []
  | x :: xs => shift k x :: shiftL k xs
end
def shiftB (k : Nat) (B : ABlk) : ABlk := { B with cells := shiftL k B.cells }

/-- The program; contracts that are given; how a function is called (0: it is handed what nothing changes; 1: its answer is the caller's own; 2: it works on the caller's memory; 3: as it comes; 4, 5: as 0, 1, and a slice of no elements is tried as nil and as none; 6: bytealg.MakeNoZero; 9: it may not be called); which slots live beyond a region. -/
structure Cfg where
  P : Program
  O : FuncId → List PV → Option PV
  md : FuncId → Nat
  lv : FuncId → List Bool
  pa : Bool := false

/-- One slice, of no elements. -/
def empty1 : List PV → Bool
  | [.sl 0 _ []] => true
  | _ => false
/-- A slice of no elements and no room. -/
def isE0 : AV → Bool
  | .p (.nsl true) => true
  | .p (.sl 0 true _) => true
  | _ => false
abbrev CallE := FuncId → List AV → List ABlk → Option (AV × List ABlk)

mutual
/-- Does a value name no memory? -/
def scalar : PV → Bool
  | .sl _ _ cs => cs.isEmpty
  | .fn .. => false
  | .agg cs => scalarL cs
  | .tup cs => scalarL cs
  | _ => true
def scalarL : List PV → Bool
  | [] => true
  | x :: xs => scalar x && scalarL xs
end
mutual
/-- Does a value name no memory but blocks of its own? -/
def ownA : AV → Bool
  | .p x => scalar x
  | .ms .. => true
  | .pt .. => true
  | .ip _ => false
  | .fn .. => false
  | .agg cs => ownL cs
  | .tup cs => ownL cs
def ownL : List AV → Bool
  | [] => true
  | x :: xs => ownA x && ownL xs
end
/-- What nothing changes is told; what was handed to the call is such from now on, unless the answer names no memory. -/
def tell (ok : Bool) (H H1 : List ABlk) (x : PV) : Option (AV × List ABlk) :=
  if scalar x then some (.p x, H) else if ok then some (.p x, H1) else none
def evCall (C : Cfg) (call : CallE) (st : Bool) (f : FuncId) (args : List AV) (H : List ABlk) : Option (AV × List ABlk) :=
  if 9 ≤ C.md f then none else
  if C.md f = 2 then call f args H else
  match mapO (frz false H deep) args with
  | none => if C.md f = 3 then call f args H else none
  | some xs =>
    let ok := !st || (mapO (frz true H deep) args).isSome
    let H1 := if st then H else mark (args.flatMap (ids H deep)) H
    match C.O f xs with
    | some r => tell ok H H1 r
    | none =>
      if (C.md f = 4 ∨ C.md f = 5) ∧ empty1 xs = true then
        match call f [.p (.nsl true)] [], call f [.p (.nsl false)] [] with
        | some (r1, _), some (r2, _) => if isE0 r1 = true ∧ isE0 r2 = true then tell ok H H1 (.sl 0 true []) else none
        | _, _ => none
      else
      match call f (xs.map .p) [] with
      | none => none
      | some (r, Hc) =>
        if C.md f = 1 ∨ C.md f = 5 then if (ownA r && Hc.all fun B => ownL B.cells) = true then some (shift H.length r, H ++ Hc.map (shiftB H.length)) else if ok then some (shift H1.length r, H1 ++ Hc.map (shiftB H1.length)) else none else
        match frz false Hc deep r with
        | some x => tell ok H H1 x
        | none => none

def opv (t : List AV) : Operand → Option AV
  | .tmp i => match t[i]? with
    | some x => some x
    | none => some (.p .und)
  | .const v => match ofVal v with
    | some x => some (.p x)
    | none => none
  | .global _ => none
  | .func f => some (.p (.fn (.func f) [] []))

abbrev Env := Operand → Option AV

def lenOf : AV → Option Nat
  | .p (.sl n _ _) => some n
  | .p (.nsl _) => some 0
  | .p (.str l) => some l.length
  | .ms _ _ _ n _ => some n
  | _ => none
/-- The cells of a source of 'append' or 'copy', its first n elements. -/
def srcCells (H : List ABlk) (size n : Nat) : AV → Option (List AV)
  | .p (.nsl _) => if n = 0 then some [] else none
  | .p (.sl m _ cs) => if n ≤ m ∧ n * size ≤ cs.length then some ((cs.take (n * size)).map .p) else none
  | .p (.str l) => if n ≤ l.length ∧ size = 1 then some ((l.take n).map fun b => .p (u8 b)) else none
  | .ms id ver off m sz => if n ≤ m ∧ sz = size then blkRead H id ver off (n * size) else none
  | _ => none
def isIntT (P : Program) (t : TypeId) : Option Bool := match P.underlying t with
  | some (.int _) => some true
  | some _ => some false
  | none => none
def elemT (P : Program) (t : TypeId) : Option TypeId := match P.underlying t with
  | some (.slice e) => some e
  | _ => none

/-- What 'append' lays behind a slice: how many elements, their cells. -/
def evNew (C : Cfg) (xT : TypeId) (size bytes : Nat) (z : List AV) (x : AV) (H : List ABlk) : Option (Nat × List AV) :=
  match isIntT C.P xT with
  | none => none
  | some true => match x with
    | .p (.int .i64 l) => if 0 ≤ l ∧ l * bytes ≤ 140737488355328 then some (l.toNat, (List.replicate l.toNat z).flatten) else none
    | _ => none
  | some false => match lenOf x with
    | none => none
    | some m => match srcCells H size m x with
      | none => none
      | some cs => some (m, cs)
def evAppend2 (s : AV) (size bytes m : Nat) (ncs : List AV) (H : List ABlk) : Option (AV × List ABlk) :=
  match s with
  | .p (.nsl true) =>
    if m = 0 then some (.p (.nsl true), H) else
    if m * bytes ≤ 140737488355328 ∧ ncs.all AV.isCell then some (.ms H.length 0 0 m size, H ++ [⟨0, false, ncs⟩]) else none
  | .p (.sl n xx cs) =>
    if m = 0 then some (.p (.sl n xx cs), H) else
    if xx = true ∧ cs.length = n * size ∧ (n + m) * bytes ≤ 140737488355328 ∧ ncs.all AV.isCell ∧ (cs.map AV.p).all AV.isCell then
      some (.ms H.length 0 0 (n + m) size, H ++ [⟨0, false, cs.map .p ++ ncs⟩])
    else none
  | .ms id ver off n sz =>
    match H[id]? with
    | none => none
    | some B =>
      if B.ver = ver ∧ B.fz = false ∧ off = 0 ∧ sz = size ∧ B.cells.length = n * sz ∧ (n + m) * bytes ≤ 140737488355328 ∧ ncs.all AV.isCell then
        some (.ms id (ver + 1) 0 (n + m) sz, H.set id ⟨ver + 1, false, B.cells ++ ncs⟩)
      else none
  | _ => none
def evAppend (C : Cfg) (argTypes : Array TypeId) (s x : AV) (H : List ABlk) : Option (AV × List ABlk) :=
  match argTypes[0]?, argTypes[1]? with
  | some sT, some xT =>
    match elemT C.P sT with
    | none => none
    | some e =>
      match sizeT C.P e, bytesT C.P e, zeroT C.P e with
      | some size, some bytes, some z =>
        if size = 0 ∨ bytes = 0 ∨ z.length ≠ size then none else
        match evNew C xT size bytes z x H with
        | none => none
        | some (m, ncs) => evAppend2 s size bytes m ncs H
      | _, _, _ => none
  | _, _ => none

/-- An 'append' that tells a row that nothing changes any more. -/
def evAppendS (C : Cfg) (argTypes : Array TypeId) (s x : AV) : Option AV :=
  match argTypes[0]?, argTypes[1]?, s, x with
  | some sT, some xT, .p (.sl n xx cs), .p x =>
    match elemT C.P sT with
    | none => none
    | some e =>
      match sizeT C.P e, bytesT C.P e, zeroT C.P e with
      | some size, some bytes, some z =>
        if size = 0 ∨ bytes = 0 ∨ z.length ≠ size then none else
        match evNew C xT size bytes z (.p x) [] with
        | none => none
        | some (m, ncs) =>
          if m ≠ 0 ∧ xx = true ∧ cs.length = n * size ∧ (n + m) * bytes ≤ 140737488355328 then
            match mapO AV.pure? ncs with
            | some ys => some (.p (.sl (n + m) false (cs ++ ys)))
            | none => none
          else none
      | _, _, _ => none
  | _, _, _, _ => none

def evCopy (C : Cfg) (argTypes : Array TypeId) (d x : AV) (H : List ABlk) : Option (AV × List ABlk) :=
  match argTypes[0]? with
  | some dT =>
    match elemT C.P dT with
    | none => none
    | some e =>
      match sizeT C.P e, lenOf d, lenOf x with
      | some size, some dn, some xn =>
        let n := Nat.min xn dn
        match srcCells H size n x with
        | none => none
        | some cs =>
          match d with
          | .ms id ver off _ sz =>
            match H[id]? with
            | none => none
            | some B => if B.ver = ver ∧ B.fz = false ∧ sz = size ∧ cs.length = n * size ∧ off + n * size ≤ B.cells.length ∧ cs.all AV.isCell then
                some (.p (.int .i64 n), H.set id { B with cells := setAt B.cells off cs })
              else none
          | .p (.sl ..) => if n = 0 then some (.p (.int .i64 0), H) else none
          | _ => none
      | _, _, _ => none
  | none => none

def evLen (C : Cfg) (argTypes : Array TypeId) (x : AV) : Option PV :=
  match argTypes[0]? with
  | none => none
  | some t => match C.P.underlying t with
    | some .string => match x with
      | .p (.str l) => some (.int .i64 l.length)
      | _ => none
    | some (.slice _) => match x with
      | .p (.sl n _ _) => some (.int .i64 n)
      | .p (.nsl _) => some (.int .i64 0)
      | .ms _ _ _ n _ => some (.int .i64 n)
      | _ => none
    | some (.array n _) => some (.int .i64 n)
    | some (.pointer a) => match C.P.underlying a with
      | some (.array n _) => some (.int .i64 n)
      | _ => none
    | _ => none

def max2 (x y : AV) : Option AV := match x, y with
  | .p (.int k a), .p (.int _ b) => some (.p (.int k (if b > a then b else a)))
  | _, _ => none
def min2 (x y : AV) : Option AV := match x, y with
  | .p (.int k a), .p (.int _ b) => some (.p (.int k (if b < a then b else a)))
  | _, _ => none

def evBuiltin (C : Cfg) (st : Bool) (b : Builtin) (argTypes : Array TypeId) (args : List AV) (H : List ABlk) : Option (AV × List ABlk) :=
  match b, args with
  | .append, [s, x] => if (st && C.pa) = true then (match evAppendS C argTypes s x with
    | some r => some (r, H)
    | none => none) else evAppend C argTypes s x H
  | .copy, [d, x] => evCopy C argTypes d x H
  | .len, [x] => match evLen C argTypes x with
    | some r => some (.p r, H)
    | none => none
  | .max, [x, y] => match max2 x y with
    | some r => some (r, H)
    | none => none
  | .min, [x, y] => match min2 x y with
    | some r => some (r, H)
    | none => none
  | _, _ => none

def bnd : Option AV → Nat → Nat → Option Nat
  | none, d, _ => some d
  | some (.p (.int _ i)), _, y => if 0 ≤ i ∧ i ≤ (y : Int) then some i.toNat else none
  | _, _, _ => none
/-- A slice's bounds of so many elements: low, high. -/
def bounds (n : Nat) (lo hi : Option AV) : Option (Nat × Nat) :=
  match bnd hi n n with
  | none => none
  | some h => match bnd lo 0 h with
    | none => none
    | some l => some (l, h)

def optO (ρ : Env) : Option Operand → Option (Option AV)
  | none => some none
  | some o => match ρ o with
    | some a => some (some a)
    | none => none

def evSlice (P : Program) (t : TypeId) (x : AV) (lo hi mx : Option AV) : Option AV :=
  match P.underlying t, x with
  | some .string, .p (.str l) => match mx, bounds l.length lo hi with
    | none, some (a, b) => some (.p (.str ((l.drop a).take (b - a))))
    | _, _ => none
  | some (.slice e), .p (.sl n xx cs) => match sizeT P e, mx, bounds n lo hi with
    | some size, none, some (a, b) => if size = 0 ∨ cs.length ≠ n * size then none else some (.p (.sl (b - a) (xx && b == n) ((cs.drop (a * size)).take ((b - a) * size))))
    | some size, some (.p (.int k m)), some (a, b) => if size = 0 ∨ cs.length ≠ n * size then none else
        if hi.isSome = true ∧ (b : Int) ≤ m ∧ m ≤ (n : Int) then some (.p (.sl (b - a) (decide ((b : Int) = m)) ((cs.drop (a * size)).take ((b - a) * size)))) else none
    | _, _, _ => none
  | some (.slice e), .ms id ver off n sz => match sizeT P e, mx, bounds n lo hi with
    | some size, none, some (a, b) => if size = sz then some (.ms id ver (off + a * sz) (b - a) sz) else none
    | some size, some (.p (.int k m)), some (a, b) => if size = sz ∧ hi.isSome = true ∧ (b : Int) ≤ m ∧ m ≤ (n : Int) then some (.ms id ver (off + a * sz) (b - a) sz) else none
    | _, _, _ => none
  | _, _ => none

def partA (P : Program) (t : TypeId) (cs : List AV) (off : Nat) : Option AV :=
  match aggT P t, sizeT P t with
  | some true, some n => if off + n ≤ cs.length then some (mkAgg ((cs.drop off).take n)) else none
  | some false, some _ => cs[off]?
  | _, _ => none
def aggCells : AV → Option (List AV)
  | .p (.agg xs) => some (xs.map .p)
  | .agg cs => some cs
  | _ => none

def eqField (d : Option TypeDesc) (x y : Option PV) : Option Bool :=
  match d, x, y with
  | some (TypeDesc.int _), some (PV.int k a), some (PV.int k' b) => if k = k' then some (a == b) else none
  | some TypeDesc.bool, some (PV.bool a), some (PV.bool b) => some (a == b)
  | some TypeDesc.string, some (PV.str a), some (PV.str b) => some (a == b)
  | _, _, _ => none
def eqFields (P : Program) (xs ys : List PV) : List Field → Option Bool
  | [] => some true
  | f :: fs => if f.name = "_" then eqFields P xs ys fs else
    match eqField (P.underlying f.type) xs[f.offset]? ys[f.offset]? with
    | some true => eqFields P xs ys fs
    | some false => some false
    | none => none
/-- '==' of two values of a type. -/
def evEq (P : Program) (t : TypeId) (x y : AV) : Option Bool :=
  match P.underlying t, x, y with
  | some .bool, .p (.bool a), .p (.bool b) => some (a == b)
  | some (.pointer _), .p .nilp, .p .nilp => some true
  | some (.pointer _), .p .nilp, .pt .. => some false
  | some (.pointer _), .pt .., .p .nilp => some false
  | some (.func ..), .p .nilf, .p .nilf => some true
  | some (.func ..), .p (.fn ..), .p .nilf => some false
  | some (.func ..), .fn .., .p .nilf => some false
  | some (.slice _), .p (.nsl b), .p (.nsl true) => some b
  | some (.slice _), .p (.sl n _ _), .p (.nsl true) => if n = 0 then none else some false
  | some (.slice _), .ms .., .p (.nsl true) => some false
  | some (.struct fs), .p (.agg xs), .p (.agg ys) =>
    if P.stoodInHeld t = false ∧ P.eqGuardType P.depth t = false then
      eqFields P xs ys fs.toList
    else none
  | _, _, _ => none

def evBin (P : Program) (op : BinOp) (t : TypeId) (x y : AV) : Option AV :=
  match x, y with
  | .p (.int k a), .p (.int k' b) =>
    match op with
    | .shl => (ishift .shl k a b).map .p
    | .shr => (ishift .shr k a b).map .p
    | op => if k = k' then (ibin op k a b).map .p else none
  | .p (.str a), .p (.str b) => (sbin op a b).map .p
  | x, y => match op with
    | .eql => (evEq P t x y).map fun b => .p (.bool b)
    | .neq => (evEq P t x y).map fun b => .p (.bool !b)
    | _ => none

def evUn (op : UnOp) (x : AV) : Option AV :=
  match op, x with
  | .neg, .p (.int k n) => (ibin .sub k 0 n).map .p
  | .xor, .p (.int k n) => (ibin .xor k (if k.signed then -1 else k.max) n).map .p
  | .not, .p (.bool b) => some (.p (.bool !b))
  | _, _ => none

def toByte : PV → Option Nat
  | .int .u8 n => some (n.toNat % 256)
  | _ => none

/-- Bytes as a string. -/
def evBytes (P : Program) (e : TypeId) (x : AV) (H : List ABlk) : Option (AV × List ABlk) :=
  match P.underlying e with
  | some (.int .u8) => match lenOf x with
    | none => none
    | some n => match x with
      | .p (.str _) => none
      | x => match srcCells H 1 n x with
        | none => none
        | some cs => match mapO AV.pure? cs with
          | none => none
          | some xs => match mapO toByte xs with
            | none => none
            | some l => some (.p (.str l), H)
  | _ => none
/-- Conversions that look at no memory; those that make or read some are told apart. -/
def evConv (P : Program) (st : Bool) (src dst : TypeId) (x : AV) (H : List ABlk) : Option (AV × List ABlk) :=
  match P.underlying src, P.underlying dst, x with
  | some (.int _), some (.int k), .p (.int _ n) => some (.p (.int k (k.wrap n)), H)
  | some .string, some .string, .p (.str l) => some (.p (.str l), H)
  | some .string, some (.slice e), .p (.str l) => match P.underlying e with
    | some (.int .u8) => if st then some (.p (.sl l.length false (l.map u8)), H) else
        some (.ms H.length 0 0 l.length 1, H ++ [⟨0, false, l.map fun b => .p (u8 b)⟩])
    | _ => none
  | some (.slice e), some .string, x => evBytes P e x H
  | _, _, _ => none

def evLoad (P : Program) (t : TypeId) (x : AV) (H : List ABlk) : Option AV :=
  match x, sizeT P t, aggT P t with
  | .pt id ver off, some n, some true => match blkRead H id ver off n with
    | some cs => some (mkAgg cs)
    | none => none
  | .pt id ver off, some _, some false => match blkRead H id ver off 1 with
    | some [c] => some c
    | _ => none
  | .ip cs, some n, some true => if n ≤ cs.length then some (.p (.agg (cs.take n))) else none
  | .ip (c :: _), some _, some false => some (.p c)
  | _, _, _ => none
def evStore (P : Program) (t : TypeId) (a v : AV) (H : List ABlk) : Option (List ABlk) :=
  match a, sizeT P t, cellsOf v with
  | .pt id ver off, some n, some cs => match H[id]? with
    | none => none
    | some B => if B.ver = ver ∧ B.fz = false ∧ cs.length = n ∧ off + n ≤ B.cells.length then
        some (H.set id { B with cells := setAt B.cells off cs })
      else none
  | _, _, _ => none

def evBuild (P : Program) (t : TypeId) (parts : List (Nat × AV)) : Option AV :=
  match zeroT P t, P.underlying t with
  | some z, some (.struct fs) =>
    match mapO (fun f : Field => (sizeT P f.type).map fun s => (f.offset, s)) fs.toList with
    | none => none
    | some places => match afill (fun i => places[i]?) z parts with
      | some cs => some (mkAgg cs)
      | none => none
  | some z, some (.array _ e) => match sizeT P e with
    | none => none
    | some s => match afill (fun i => some (i * s, s)) z parts with
      | some cs => some (mkAgg cs)
      | none => none
  | _, _ => none

def evBuildSlice (P : Program) (st : Bool) (t : TypeId) (len : Nat) (parts : List (Nat × AV)) (H : List ABlk) : Option (AV × List ABlk) :=
  match elemT P t with
  | none => none
  | some e => match sizeT P e, zeroT P e with
    | some size, some z =>
      if size = 0 ∨ z.length ≠ size ∨ len * size > 16777216 then none else
      match afill (fun i => some (i * size, size)) (List.replicate len z).flatten parts with
      | none => none
      | some cs => match mapO AV.pure? cs with
        | some xs => some (.p (.sl len true xs), H)
        | none => if st then none else some (.ms H.length 0 0 len size, H ++ [⟨0, false, cs⟩])
    | _, _ => none

def evMakeSlice (P : Program) (st : Bool) (t : TypeId) (l c : AV) (H : List ABlk) : Option (AV × List ABlk) :=
  match elemT P t, l, c with
  | some e, .p (.int .i64 l), .p (.int .i64 c) => match sizeT P e, bytesT P e, zeroT P e with
    | some size, some bytes, some z =>
      if size = 0 ∨ z.length ≠ size then none else
      if 0 ≤ l ∧ l ≤ c ∧ c ≤ 9223372036854775807 ∧ bytes * c ≤ 281474976710656 then
        if st then
          if l = c then match mapO AV.pure? (List.replicate l.toNat z).flatten with
            | some xs => some (.p (.sl l.toNat true xs), H)
            | none => none
          else none
        else some (.ms H.length 0 0 l.toNat size, H ++ [⟨0, false, (List.replicate l.toNat z).flatten⟩])
      else none
    | _, _, _ => none
  | _, _, _ => none

def evFieldAddr (P : Program) (s : TypeId) (x : AV) (i : Nat) : Option AV :=
  match P.underlying s with
  | some (.struct fs) => match fs[i]? with
    | none => none
    | some f => match sizeT P f.type with
      | none => none
      | some n => if n = 0 then none else match x with
        | .pt id ver off => some (.pt id ver (off + f.offset))
        | .ip cs => some (.ip (cs.drop f.offset))
        | _ => none
  | _ => none
def evField (P : Program) (s : TypeId) (x : AV) (i : Nat) : Option AV :=
  match P.underlying s with
  | some (.struct fs) => match fs[i]? with
    | none => none
    | some f => match aggCells x with
      | none => none
      | some cs => partA P f.type cs f.offset
  | _ => none
def evIndexAddr (P : Program) (t : TypeId) (x i : AV) : Option AV :=
  match P.underlying t, x, i with
  | some (.slice e), .p (.sl n _ cs), .p (.int _ i) => match sizeT P e with
    | some size => if 0 ≤ i ∧ i < (n : Int) ∧ i.toNat * size < cs.length then some (.ip (cs.drop (i.toNat * size))) else none
    | none => none
  | some (.slice e), .ms id ver off n sz, .p (.int _ i) => match sizeT P e with
    | some size => if 0 ≤ i ∧ i < (n : Int) ∧ sz = size then some (.pt id ver (off + i.toNat * size)) else none
    | none => none
  | some (.array n e), .pt id ver off, .p (.int _ i) => match sizeT P e with
    | some size => if 0 ≤ i ∧ i < (n : Int) then some (.pt id ver (off + i.toNat * size)) else none
    | none => none
  | some (.array n e), .ip cs, .p (.int _ i) => match sizeT P e with
    | some size => if 0 ≤ i ∧ i < (n : Int) then some (.ip (cs.drop (i.toNat * size))) else none
    | none => none
  | _, _, _ => none
def evIndex (P : Program) (t : TypeId) (x i : AV) : Option AV :=
  match P.underlying t, i with
  | some (.array n e), .p (.int _ i) => match sizeT P e, aggCells x with
    | some size, some cs => if 0 ≤ i ∧ i < (n : Int) then partA P e cs (i.toNat * size) else none
    | _, _ => none
  | some .string, .p (.int _ i) => match x with
    | .p (.str l) => if 0 ≤ i then match l[i.toNat]? with
        | some b => some (.p (u8 b))
        | none => none
      else none
    | _ => none
  | _, _ => none
def evExtract (x : AV) (i : Nat) : Option AV :=
  match x with
  | .p (.tup cs) => match cs[i]? with
    | some c => some (.p c)
    | none => none
  | .tup cs => cs[i]?
  | _ => none
def evNilCheck : AV → Option AV
  | .pt id ver off => some (.pt id ver off)
  | .ip cs => some (.ip cs)
  | .p (.fn (.func f) a b) => some (.p (.fn (.func f) a b))
  | .fn (.func f) a b => some (.fn (.func f) a b)
  | _ => none
def mkFn (f : Fn) (a b : List AV) : AV := match mapO AV.pure? a, mapO AV.pure? b with
  | some xs, some ys => .p (.fn f xs ys)
  | _, _ => .fn f a b
def calleeOf : AV → Option (FuncId × List AV × List AV)
  | .p (.fn (.func f) a b) => some (f, a.map .p, b.map .p)
  | .fn (.func f) a b => some (f, a, b)
  | _ => none

/-- bytealg.MakeNoZero. -/
def evNoZero (st : Bool) (args : List AV) (H : List ABlk) : Option (AV × List ABlk) :=
  match args with
  | [.p (.int .i64 n)] => if st = false ∧ 0 ≤ n ∧ n ≤ 281474976710656 then some (.ms H.length 0 0 n.toNat 1, H ++ [⟨0, false, List.replicate n.toNat (.p .u8u)⟩]) else none
  | _ => none

def ret1 (H : List ABlk) : Option AV → Option (AV × List ABlk)
  | some x => some (x, H)
  | none => none

def parts (ρ : Env) (ps : Array (Nat × Operand)) : Option (List (Nat × AV)) :=
  mapO (fun q : Nat × Operand => match ρ q.2 with
    | some a => some (q.1, a)
    | none => none) ps.toList

def evOp (C : Cfg) (call : CallE) (st : Bool) (ρ : Env) (H : List ABlk) (o : Oper) : Option (AV × List ABlk) :=
  match o.op with
  | .move x => ret1 H (ρ x)
  | .assign x => ret1 H (ρ x)
  | .pick c a b => match ρ c, ρ a, ρ b with
    | some (.p (.bool t)), some x, some y => some (if t then x else y, H)
    | _, _, _ => none
  | .alloc e => match zeroT C.P e with
    | some z => some (.pt H.length 0 0, H ++ [⟨0, false, z⟩])
    | none => none
  | .box _ x => match ρ x with
    | none => none
    | some a => match cellsOf a with
      | some cs => some (.pt H.length 0 0, H ++ [⟨0, false, cs⟩])
      | none => none
  | .build t ps => match parts ρ ps with
    | none => none
    | some qs => ret1 H (evBuild C.P t qs)
  | .buildSlice t len ps => match parts ρ ps with
    | none => none
    | some qs => evBuildSlice C.P st t len qs H
  | .load t a => match ρ a with
    | none => none
    | some x => ret1 H (evLoad C.P t x H)
  | .store t a v => match ρ a, ρ v with
    | some x, some y => match evStore C.P t x y H with
      | some H' => some (.p .und, H')
      | none => none
    | _, _ => none
  | .nilCheck x => match ρ x with
    | none => none
    | some a => ret1 H (evNilCheck a)
  | .binOp op t x y _ => match ρ x, ρ y with
    | some a, some b => ret1 H (evBin C.P op t a b)
    | _, _ => none
  | .unOp op _ x => match ρ x with
    | some a => ret1 H (evUn op a)
    | none => none
  | .convert s d x => match ρ x with
    | some a => evConv C.P st s d a H
    | none => none
  | .makeFunc f a b => match mapO ρ a.toList, mapO ρ b.toList with
    | some xs, some ys => some (mkFn f xs ys, H)
    | _, _ => none
  | .makeSlice t l c => match ρ l, ρ c with
    | some a, some b => evMakeSlice C.P st t a b H
    | _, _ => none
  | .slice t x lo hi mx => match ρ x, optO ρ lo, optO ρ hi, optO ρ mx with
    | some a, some l, some h, some m => ret1 H (evSlice C.P t a l h m)
    | _, _, _, _ => none
  | .fieldAddr s x i => match ρ x with
    | some a => ret1 H (evFieldAddr C.P s a i)
    | none => none
  | .field s x i => match ρ x with
    | some a => ret1 H (evField C.P s a i)
    | none => none
  | .indexAddr t x i => match ρ x, ρ i with
    | some a, some b => ret1 H (evIndexAddr C.P t a b)
    | _, _ => none
  | .index t x i => match ρ x, ρ i with
    | some a, some b => ret1 H (evIndex C.P t a b)
    | _, _ => none
  | .extract x i => match ρ x with
    | some a => ret1 H (evExtract a i)
    | none => none
  | .call c => match mapO ρ c.args.toList with
    | none => none
    | some args => match c.callee with
      | .builtin b => evBuiltin C st b c.argTypes args H
      | .value f => match ρ f with
        | none => none
        | some g => match calleeOf g with
          | none => none
          | some (k, a, b) => if C.md k = 6 then evNoZero st (a ++ args ++ b) H else evCall C call st k (a ++ args ++ b) H
      | .invoke .. => none
  | _ => none

/-! ### Regions -/
structure St where
  t : List AV
  H : List ABlk

def putA (t : List AV) (d : Option Tmp) (x : AV) : List AV := match d with
  | some d => t.set d x
  | none => t
/-- Is an operation wanted? none: that is not known. -/
def wantedA (ops : Array Oper) (t : List AV) (o : Oper) : Option Bool :=
  match o.guard with
  | none => some true
  | some (j, want) => match (ops[j]?).bind (·.dst) with
    | none => some false
    | some d => match t[d]? with
      | some (.p (.bool b)) => some (b == want)
      | some (.p .und) => some false
      | _ => none
def evStep (C : Cfg) (call : CallE) (st : Bool) (ops : Array Oper) (o : Oper) (S : St) : Option St :=
  match wantedA ops S.t o with
  | none => none
  | some false => some ⟨putA S.t o.dst (.p .und), S.H⟩
  | some true => match evOp C call st (opv S.t) S.H o with
    | none => none
    | some (x, H) => some ⟨putA S.t o.dst x, H⟩
def evOps (C : Cfg) (call : CallE) (st : Bool) (ops : Array Oper) : List Oper → St → Option St
  | [], S => some S
  | o :: os, S => match evStep C call st ops o S with
    | none => none
    | some S1 => evOps C call st ops os S1
/-- The blocks of H are such as those of another row are. -/
def flags (H H1 : List ABlk) : List ABlk := List.zipWith (fun B B1 => { B with fz := B.fz || B1.fz }) H H1
def evRegion (C : Cfg) (call : CallE) (draw : Bool) (ops : Array Oper) (S : St) : Option St :=
  if draw then
    match evOps C call false ops ops.toList S with
    | none => none
    | some S1 => if S.H.length ≤ S1.H.length then evOps C call true ops ops.toList ⟨S.t, flags S.H S1.H⟩ else none
  else evOps C call false ops ops.toList S
def clean (lv : List Bool) (t : List AV) : List AV :=
  match lv, t with
  | b :: lv, x :: t => (if b then x else .p .any) :: clean lv t
  | _, t => t

/-! ### Code -/
inductive Ex where
  | normal
  | exit (id : Nat)
  | ret
  deriving DecidableEq

def iter (f : St → Option (Ex × St)) : Nat → St → Option (Ex × St)
  | 0, _ => none
  | n + 1, S => match f S with
    | some (.normal, S1) => iter f n S1
    | r => r
def evC (C : Cfg) (call : CallE) (lv : List Bool) (k : Nat) : Code → St → Option (Ex × St)
  | .skip, S => some (.normal, S)
  | .label _, S => some (.normal, S)
  | .region _ ops draw, S => match evRegion C call draw ops S with
    | none => none
    | some S1 => some (.normal, ⟨clean lv S1.t, S1.H⟩)
  | .seq a b, S => match evC C call lv k a S with
    | some (.normal, S1) => evC C call lv k b S1
    | r => r
  | .cond c a b, S => match opv S.t c with
    | some (.p (.bool t)) => if t then evC C call lv k a S else evC C call lv k b S
    | _ => none
  | .block id a, S => match evC C call lv k a S with
    | some (.exit i, S1) => if i = id then some (.normal, S1) else some (.exit i, S1)
    | r => r
  | .loop a, S => iter (evC C call lv k a) k S
  | .exit id, S => some (.exit id, S)
  | .ret, S => some (.ret, S)
  | _, _ => none

def evResult (C : Cfg) (S : St) : ResultVar → Option AV
  | .tmp t => opv S.t (.tmp t)
  | .cell a ty => match opv S.t (.tmp a) with
    | some x => evLoad C.P ty x S.H
    | none => none
def evResults (C : Cfg) (fn : Func) (S : St) : Option AV :=
  match mapO (evResult C S) fn.results.toList with
  | some [x] => some x
  | some xs => some (mkTup xs)
  | none => none
def evF (C : Cfg) : Nat → CallE
  | 0, _, _, _ => none
  | k + 1, f, args, H =>
    if 9 ≤ C.md f then none else
    match C.P.funcs[f]? with
    | none => none
    | some fn => match fn.body with
      | none => none
      | some c => match evC C (evF C k) (C.lv f) k c ⟨args ++ List.replicate (fn.ntmps - args.length) (.p .und), H⟩ with
        | some (.exit _, _) => none
        | some (_, S) => match evResults C fn S with
          | some x => some (x, S.H)
          | none => none
        | none => none

end Go.Ev
set_option linter.unusedVariables false
set_option linter.unusedSimpArgs false
namespace Go.Ev
open Go.RowKit

structure G where
  F : Nat → Prop
  φ : Nat → Nat

mutual
def rep (F : Nat → Prop) (w : World) : PV → Value → Prop
  | .int k n, v => v = .int k n
  | .bool b, v => v = .bool b
  | .str l, v => ∃ s, v = .string s ∧ s.data.toList.map UInt8.toNat = l
  | .nilp, v => v = .pointer none
  | .nilf, v => v = .nilFunc
  | .und, v => v = undef
  | .any, _ => True
  | .u8u, v => ∃ n, v = .int .u8 n
  | .nsl b, v => ∃ A cap, v = .slice A 0 cap ∧ (A = none → cap = 0) ∧ A.isNone = b
  | .fn f a b, v => ∃ as bs, v = .func f as bs ∧ repL F w a as.toList ∧ repL F w b bs.toList
  | .sl n x cs, v => ∃ A cap, v = .slice A n cap ∧ n ≤ cap ∧ (x = true → cap = n) ∧ (A = none → cap = 0) ∧ (cs = [] ∨ ∃ b off, A = some ⟨b, off, none⟩ ∧ F b ∧ repF F w b off cs)
  | .agg cs, v => ∃ vs, v = .agg vs ∧ repL F w cs vs.toList
  | .tup cs, v => ∃ vs, v = .tuple vs ∧ repL F w cs vs.toList
def repL (F : Nat → Prop) (w : World) : List PV → List Value → Prop
  | [], [] => True
  | x :: xs, v :: vs => rep F w x v ∧ repL F w xs vs
  | _, _ => False
def repF (F : Nat → Prop) (w : World) (b : Nat) : Nat → List PV → Prop
  | _, [] => True
  | off, x :: xs => (∃ u, w.cell? ⟨b, off, none⟩ = some u ∧ rep F w x u) ∧ repF F w b (off + 1) xs
end
mutual
def repA (g : G) (w : World) (H : List ABlk) : AV → Value → Prop
  | .p x, v => rep g.F w x v
  | .ms id ver off n sz, v => ∃ A cap, v = .slice (some A) n cap ∧ n ≤ cap ∧ ∃ B, H[id]? = some B ∧ ver ≤ B.ver ∧
      (B.ver = ver → (cap = 0 ∨ A = ⟨g.φ id, off, none⟩) ∧ ∃ c e fr, w.heap[g.φ id]? = some (.cells c e fr) ∧ off + cap * sz ≤ c.size)
  | .pt id ver off, v => ∃ A, v = .pointer (some A) ∧ ∃ B, H[id]? = some B ∧ ver ≤ B.ver ∧ (B.ver = ver → A = ⟨g.φ id, off, none⟩)
  | .ip cs, v => ∃ b off, v = .pointer (some ⟨b, off, none⟩) ∧ g.F b ∧ repF g.F w b off cs
  | .fn f a b, v => ∃ as bs, v = .func f as bs ∧ repLA g w H a as.toList ∧ repLA g w H b bs.toList
  | .agg cs, v => ∃ vs, v = .agg vs ∧ repLA g w H cs vs.toList
  | .tup cs, v => ∃ vs, v = .tuple vs ∧ repLA g w H cs vs.toList
def repLA (g : G) (w : World) (H : List ABlk) : List AV → List Value → Prop
  | [], [] => True
  | x :: xs, v :: vs => repA g w H x v ∧ repLA g w H xs vs
  | _, _ => False
end

def dom (g : G) (H : List ABlk) (b : Nat) : Prop := ∃ id B, H[id]? = some B ∧ g.φ id = b

structure Inv (g : G) (w : World) (H : List ABlk) : Prop where
  F : ∀ b, g.F b → b < w.heap.size
  blk : ∀ id B, H[id]? = some B → ∃ c e fr, w.heap[g.φ id]? = some (.cells c e fr) ∧ (∀ j, j < c.size → ¬ (fr.1 ≤ j ∧ j < fr.2)) ∧
    B.cells.length ≤ c.size ∧ repLA g w H B.cells (c.toList.take B.cells.length) ∧ B.cells.all AV.isCell = true ∧ (B.fz = true ↔ g.F (g.φ id))
  inj : ∀ i j Bi Bj, H[i]? = some Bi → H[j]? = some Bj → Bi.fz = false → Bj.fz = false → g.φ i = g.φ j → i = j

structure Ext (g : G) (w : World) (H : List ABlk) (g' : G) (w' : World) (H' : List ABlk) : Prop where
  F : ∀ b, g.F b → g'.F b
  keep : ∀ b, g.F b → w'.heap[b]? = w.heap[b]?
  blk : ∀ id B, H[id]? = some B → ∃ B', H'[id]? = some B' ∧ B.ver ≤ B'.ver ∧ (B'.ver = B.ver → g'.φ id = g.φ id ∧
    ∀ c e fr, w.heap[g.φ id]? = some (.cells c e fr) → ∃ c' fr', w'.heap[g.φ id]? = some (.cells c' e fr') ∧ c'.size = c.size)
  out : ∀ b, b < w.heap.size → ¬ g.F b → ¬ dom g H b → w'.heap[b]? = w.heap[b]?
  size : w.heap.size ≤ w'.heap.size
  os : w'.os = w.os
  tape : w'.tape = w.tape
  output : w'.output = w.output
  newF : ∀ b, g'.F b → g.F b ∨ w.heap.size ≤ b ∨ dom g H b
  newφ : ∀ b, dom g' H' b → dom g H b ∨ w.heap.size ≤ b

/-! ### Lists of values -/
theorem repL_length {F : Nat → Prop} {w : World} : ∀ {cs vs}, repL F w cs vs → cs.length = vs.length
  | [], [], _ => rfl
  | _ :: _, _ :: _, h => by simp only [repL] at h; simp [repL_length h.2]
  | [], _ :: _, h => by simp [repL] at h
  | _ :: _, [], h => by simp [repL] at h
theorem repLA_length {g : G} {w : World} {H : List ABlk} : ∀ {cs vs}, repLA g w H cs vs → cs.length = vs.length
  | [], [], _ => rfl
  | _ :: _, _ :: _, h => by simp only [repLA] at h; simp [repLA_length h.2]
  | [], _ :: _, h => by simp [repLA] at h
  | _ :: _, [], h => by simp [repLA] at h
theorem repL_iff {F : Nat → Prop} {w : World} : ∀ {cs vs}, repL F w cs vs ↔ cs.length = vs.length ∧ ∀ (i : Nat) (x : PV), cs[i]? = some x → ∃ v, vs[i]? = some v ∧ rep F w x v
  | [], [] => by simp [repL]
  | x :: xs, v :: vs => by
    simp only [repL, repL_iff (cs := xs) (vs := vs), List.length_cons]
    constructor
    · rintro ⟨h, hl, hi⟩
      refine ⟨by omega, fun i y hy => ?_⟩
      cases i with
      | zero => simp at hy; subst hy; exact ⟨v, by simp, h⟩
      | succ i => simp at hy; obtain ⟨u, hu, hr⟩ := hi i y hy; exact ⟨u, by simpa using hu, hr⟩
    · rintro ⟨hl, hi⟩
      refine ⟨?_, by omega, fun i y hy => ?_⟩
      · obtain ⟨u, hu, hr⟩ := hi 0 x (by simp); simp at hu; subst hu; exact hr
      · obtain ⟨u, hu, hr⟩ := hi (i + 1) y (by simpa using hy); exact ⟨u, by simpa using hu, hr⟩
  | [], _ :: _ => by simp [repL]
  | _ :: _, [] => by simp [repL]
theorem repLA_iff {g : G} {w : World} {H : List ABlk} : ∀ {cs vs}, repLA g w H cs vs ↔ cs.length = vs.length ∧ ∀ (i : Nat) (x : AV), cs[i]? = some x → ∃ v, vs[i]? = some v ∧ repA g w H x v
  | [], [] => by simp [repLA]
  | x :: xs, v :: vs => by
    simp only [repLA, repLA_iff (cs := xs) (vs := vs), List.length_cons]
    constructor
    · rintro ⟨h, hl, hi⟩
      refine ⟨by omega, fun i y hy => ?_⟩
      cases i with
      | zero => simp at hy; subst hy; exact ⟨v, by simp, h⟩
      | succ i => simp at hy; obtain ⟨u, hu, hr⟩ := hi i y hy; exact ⟨u, by simpa using hu, hr⟩
    · rintro ⟨hl, hi⟩
      refine ⟨?_, by omega, fun i y hy => ?_⟩
      · obtain ⟨u, hu, hr⟩ := hi 0 x (by simp); simp at hu; subst hu; exact hr
      · obtain ⟨u, hu, hr⟩ := hi (i + 1) y (by simpa using hy); exact ⟨u, by simpa using hu, hr⟩
  | [], _ :: _ => by simp [repLA]
  | _ :: _, [] => by simp [repLA]
theorem repF_iff {F : Nat → Prop} {w : World} {b : Nat} : ∀ {cs off}, repF F w b off cs ↔ ∀ (i : Nat) (x : PV), cs[i]? = some x → ∃ u, w.cell? ⟨b, off + i, none⟩ = some u ∧ rep F w x u
  | [], off => by simp [repF]
  | x :: xs, off => by
    simp only [repF, repF_iff (cs := xs) (off := off + 1)]
    constructor
    · rintro ⟨h, hi⟩ i y hy
      cases i with
      | zero => simp at hy; subst hy; exact h
      | succ i => simp at hy; obtain ⟨u, hu, hr⟩ := hi i y hy; exact ⟨u, by rw [← hu]; congr 2; omega, hr⟩
    · intro hi
      refine ⟨hi 0 x (by simp), fun i y hy => ?_⟩
      obtain ⟨u, hu, hr⟩ := hi (i + 1) y (by simpa using hy)
      exact ⟨u, by rw [← hu]; congr 2; omega, hr⟩
theorem repLA_map {g : G} {w : World} {H : List ABlk} : ∀ {xs vs}, repLA g w H (xs.map .p) vs ↔ repL g.F w xs vs
  | [], [] => by simp [repL, repLA]
  | x :: xs, v :: vs => by simp [repL, repLA, repA, repLA_map (xs := xs) (vs := vs)]
  | [], _ :: _ => by simp [repL, repLA]
  | _ :: _, [] => by simp [repL, repLA]
theorem repLA_append {g : G} {w : World} {H : List ABlk} {xs ys vs us} (h1 : repLA g w H xs vs) (h2 : repLA g w H ys us) : repLA g w H (xs ++ ys) (vs ++ us) := by
  induction xs generalizing vs with
  | nil => cases vs with
    | nil => exact h2
    | cons => simp [repLA] at h1
  | cons x xs ih => cases vs with
    | nil => simp [repLA] at h1
    | cons v vs => simp only [repLA] at h1; simp only [List.cons_append, repLA]; exact ⟨h1.1, ih h1.2⟩
theorem repLA_take {g : G} {w : World} {H : List ABlk} (n : Nat) : ∀ {xs vs}, repLA g w H xs vs → repLA g w H (xs.take n) (vs.take n) := by
  induction n with
  | zero => intro xs vs h; simp [repLA]
  | succ n ih =>
    intro xs vs h
    match xs, vs, h with
    | [], [], _ => simp [repLA]
    | x :: xs, v :: vs, h => simp only [repLA] at h; simp only [List.take_succ_cons, repLA]; exact ⟨h.1, ih h.2⟩
theorem repLA_drop {g : G} {w : World} {H : List ABlk} (n : Nat) : ∀ {xs vs}, repLA g w H xs vs → repLA g w H (xs.drop n) (vs.drop n) := by
  induction n with
  | zero => intro xs vs h; simpa using h
  | succ n ih =>
    intro xs vs h
    match xs, vs, h with
    | [], [], _ => simp [repLA]
    | x :: xs, v :: vs, h => simp only [repLA] at h; simpa using ih h.2
theorem repLA_set {g : G} {w : World} {H : List ABlk} {x v} (hx : repA g w H x v) : ∀ {xs vs} (n : Nat), repLA g w H xs vs → repLA g w H (xs.set n x) (vs.set n v)
  | [], [], n, _ => by simp [repLA]
  | y :: xs, u :: vs, 0, h => by simp only [repLA] at h; simp only [List.set_cons_zero, repLA]; exact ⟨hx, h.2⟩
  | y :: xs, u :: vs, n + 1, h => by simp only [repLA] at h; simp only [List.set_cons_succ, repLA]; exact ⟨h.1, repLA_set hx n h.2⟩
theorem mapO_spec {α β : Type} {f : α → Option β} : ∀ {xs ys}, mapO f xs = some ys → xs.length = ys.length ∧ ∀ (i : Nat) (x : α), xs[i]? = some x → ∃ y, ys[i]? = some y ∧ f x = some y
  | [], ys, h => by simp [mapO] at h; subst h; simp
  | x :: xs, ys, h => by
    simp only [mapO] at h
    cases hx : f x with
    | none => rw [hx] at h; simp at h
    | some y =>
      rw [hx] at h
      cases hxs : mapO f xs with
      | none => rw [hxs] at h; simp at h
      | some zs =>
        rw [hxs] at h; simp at h; subst h
        obtain ⟨hl, hi⟩ := mapO_spec hxs
        refine ⟨by simp [hl], fun i z hz => ?_⟩
        cases i with
        | zero => simp at hz; subst hz; exact ⟨y, by simp, hx⟩
        | succ i => simp at hz; obtain ⟨u, hu, hr⟩ := hi i z hz; exact ⟨u, by simpa using hu, hr⟩
theorem mapO_pure {cs : List AV} {xs : List PV} (h : mapO AV.pure? cs = some xs) : cs = xs.map .p := by
  induction cs generalizing xs with
  | nil => simp [mapO] at h; subst h; rfl
  | cons c cs ih =>
    simp only [mapO] at h
    cases c with
    | p x =>
      simp only [AV.pure?] at h
      cases hxs : mapO AV.pure? cs with
      | none => rw [hxs] at h; simp at h
      | some zs => rw [hxs] at h; simp at h; subst h; simp [ih hxs]
    | _ => simp [AV.pure?] at h

/-! ### What is kept -/
section
variable {F F' : Nat → Prop} {w w' : World}
theorem rep_repL_mono (hF : ∀ b, F b → F' b) (hk : ∀ b, F b → w'.heap[b]? = w.heap[b]?) :
    (∀ x v, rep F w x v → rep F' w' x v) ∧ (∀ xs vs, repL F w xs vs → repL F' w' xs vs) ∧ (∀ xs b off, F b → repF F w b off xs → repF F' w' b off xs) := by
  suffices h : ∀ n, (∀ x : PV, SizeOf.sizeOf x ≤ n → ∀ v, rep F w x v → rep F' w' x v) ∧ (∀ xs : List PV, SizeOf.sizeOf xs ≤ n → ∀ vs, repL F w xs vs → repL F' w' xs vs) ∧ (∀ xs : List PV, SizeOf.sizeOf xs ≤ n → ∀ b off, F b → repF F w b off xs → repF F' w' b off xs) from
    ⟨fun x v => (h (SizeOf.sizeOf x)).1 x (Nat.le_refl _) v, fun xs vs => (h (SizeOf.sizeOf xs)).2.1 xs (Nat.le_refl _) vs, fun xs b off => (h (SizeOf.sizeOf xs)).2.2 xs (Nat.le_refl _) b off⟩
  intro n
  induction n with
  | zero =>
    refine ⟨fun x hx => ?_, fun xs hx => ?_, fun xs hx => ?_⟩
    · cases x <;> simp at hx <;> omega
    · cases xs <;> simp at hx
    · cases xs <;> simp at hx
  | succ n ih =>
    obtain ⟨ih1, ih2, ih3⟩ := ih
    refine ⟨fun x hx v h => ?_, fun xs hx vs h => ?_, fun xs hx b off hb h => ?_⟩
    · cases x with
      | sl m e cs =>
        simp at hx
        simp only [rep] at h ⊢
        obtain ⟨A, cap, rfl, h1, h2, h4, h3⟩ := h
        refine ⟨A, cap, rfl, h1, h2, h4, h3.imp id ?_⟩
        rintro ⟨b, off, rfl, hb, hr⟩
        exact ⟨b, off, rfl, hF b hb, ih3 cs (by omega) b off hb hr⟩
      | agg cs =>
        simp at hx
        simp only [rep] at h ⊢
        obtain ⟨vs, rfl, hr⟩ := h
        exact ⟨vs, rfl, ih2 cs (by omega) _ hr⟩
      | tup cs =>
        simp at hx
        simp only [rep] at h ⊢
        obtain ⟨vs, rfl, hr⟩ := h
        exact ⟨vs, rfl, ih2 cs (by omega) _ hr⟩
      | fn f a b =>
        simp at hx
        simp only [rep] at h ⊢
        obtain ⟨as, bs, rfl, hr, hs⟩ := h
        exact ⟨as, bs, rfl, ih2 a (by omega) _ hr, ih2 b (by omega) _ hs⟩
      | _ => first | (simp only [rep] at h ⊢; done) | (simp only [rep] at h ⊢; exact h)
    · match xs, vs, h with
      | [], [], _ => simp [repL]
      | x :: xs, v :: vs, h =>
        simp at hx
        simp only [repL] at h ⊢
        exact ⟨ih1 x (by omega) v h.1, ih2 xs (by omega) vs h.2⟩
    · match xs, h with
      | [], _ => simp [repF]
      | x :: xs, h =>
        simp at hx
        simp only [repF] at h ⊢
        obtain ⟨⟨u, hu, hr⟩, h2⟩ := h
        exact ⟨⟨u, (World.cell?_of_block (w := w) (a := ⟨b, off, none⟩) (hk b hb)).trans hu, ih1 x (by omega) u hr⟩, ih3 xs (by omega) b _ hb h2⟩
end
theorem rep_mono {F F' : Nat → Prop} {w w' : World} (hF : ∀ b, F b → F' b) (hk : ∀ b, F b → w'.heap[b]? = w.heap[b]?) {x v} (h : rep F w x v) : rep F' w' x v := (rep_repL_mono hF hk).1 x v h
theorem repF_mono {F F' : Nat → Prop} {w w' : World} (hF : ∀ b, F b → F' b) (hk : ∀ b, F b → w'.heap[b]? = w.heap[b]?) {xs b off} (hb : F b) (h : repF F w b off xs) : repF F' w' b off xs := (rep_repL_mono hF hk).2.2 xs b off hb h

theorem repA_repLA_mono {g g' : G} {w w' : World} {H H' : List ABlk} (hx : Ext g w H g' w' H') :
    (∀ x v, repA g w H x v → repA g' w' H' x v) ∧ (∀ xs vs, repLA g w H xs vs → repLA g' w' H' xs vs) := by
  suffices h : ∀ n, (∀ x : AV, SizeOf.sizeOf x ≤ n → ∀ v, repA g w H x v → repA g' w' H' x v) ∧ (∀ xs : List AV, SizeOf.sizeOf xs ≤ n → ∀ vs, repLA g w H xs vs → repLA g' w' H' xs vs) from
    ⟨fun x v => (h (SizeOf.sizeOf x)).1 x (Nat.le_refl _) v, fun xs vs => (h (SizeOf.sizeOf xs)).2 xs (Nat.le_refl _) vs⟩
  intro n
  induction n with
  | zero =>
    refine ⟨fun x hx => ?_, fun xs hx => ?_⟩
    · cases x <;> simp at hx <;> omega
    · cases xs <;> simp at hx
  | succ n ih =>
    obtain ⟨ih1, ih2⟩ := ih
    refine ⟨fun x hs v h => ?_, fun xs hs vs h => ?_⟩
    · cases x with
      | p x => simp only [repA] at h ⊢; exact rep_mono hx.F hx.keep h
      | ms id ver off m sz =>
        simp only [repA] at h ⊢
        obtain ⟨A, cap, rfl, hc, B, hB, hv, h⟩ := h
        obtain ⟨B', hB', hv', h'⟩ := hx.blk id B hB
        refine ⟨A, cap, rfl, hc, B', hB', by omega, fun he => ?_⟩
        obtain ⟨ha, c, e, fr, hcell, hsz⟩ := h (by omega)
        obtain ⟨hφ, hcc⟩ := h' (by omega)
        obtain ⟨c', fr', hc', hs'⟩ := hcc c e fr hcell
        exact ⟨by rw [hφ]; exact ha, c', e, fr', by rw [hφ]; exact hc', by omega⟩
      | pt id ver off =>
        simp only [repA] at h ⊢
        obtain ⟨A, rfl, B, hB, hv, h⟩ := h
        obtain ⟨B', hB', hv', h'⟩ := hx.blk id B hB
        exact ⟨A, rfl, B', hB', by omega, fun he => by rw [(h' (by omega)).1]; exact h (by omega)⟩
      | ip cs =>
        simp only [repA] at h ⊢
        obtain ⟨b, off, rfl, hb, hr⟩ := h
        exact ⟨b, off, rfl, hx.F b hb, repF_mono hx.F hx.keep hb hr⟩
      | agg cs =>
        simp at hs
        simp only [repA] at h ⊢
        obtain ⟨vs, rfl, hr⟩ := h
        exact ⟨vs, rfl, ih2 cs (by omega) _ hr⟩
      | tup cs =>
        simp at hs
        simp only [repA] at h ⊢
        obtain ⟨vs, rfl, hr⟩ := h
        exact ⟨vs, rfl, ih2 cs (by omega) _ hr⟩
      | fn f a b =>
        simp at hs
        simp only [repA] at h ⊢
        obtain ⟨as, bs, rfl, hr, hs2⟩ := h
        exact ⟨as, bs, rfl, ih2 a (by omega) _ hr, ih2 b (by omega) _ hs2⟩
    · match xs, vs, h with
      | [], [], _ => simp [repLA]
      | x :: xs, v :: vs, h =>
        simp at hs
        simp only [repLA] at h ⊢
        exact ⟨ih1 x (by omega) v h.1, ih2 xs (by omega) vs h.2⟩
theorem repA_mono {g g' : G} {w w' : World} {H H' : List ABlk} (hx : Ext g w H g' w' H') {x v} (h : repA g w H x v) : repA g' w' H' x v := (repA_repLA_mono hx).1 x v h
theorem repLA_mono {g g' : G} {w w' : World} {H H' : List ABlk} (hx : Ext g w H g' w' H') {x v} (h : repLA g w H x v) : repLA g' w' H' x v := (repA_repLA_mono hx).2 x v h

theorem Ext.refl (g : G) (w : World) (H : List ABlk) : Ext g w H g w H :=
  ⟨fun _ h => h, fun _ _ => rfl, fun id B h => ⟨B, h, Nat.le_refl _, fun _ => ⟨rfl, fun c e fr hc => ⟨c, fr, hc, rfl⟩⟩⟩, fun _ _ _ _ => rfl, Nat.le_refl _, rfl, rfl, rfl, fun _ h => .inl h, fun _ h => .inl h⟩
theorem Ext.trans {g g' g'' : G} {w w' w'' : World} {H H' H'' : List ABlk} (h : Ext g w H g' w' H') (k : Ext g' w' H' g'' w'' H'') : Ext g w H g'' w'' H'' where
  F b hb := k.F b (h.F b hb)
  keep b hb := (k.keep b (h.F b hb)).trans (h.keep b hb)
  blk id B hB := by
    obtain ⟨B', hB', hv, h1⟩ := h.blk id B hB
    obtain ⟨B'', hB'', hv', k1⟩ := k.blk id B' hB'
    refine ⟨B'', hB'', by omega, fun he => ?_⟩
    obtain ⟨hφ, hc⟩ := h1 (by omega)
    obtain ⟨kφ, kc⟩ := k1 (by omega)
    refine ⟨kφ.trans hφ, fun c e fr hcell => ?_⟩
    obtain ⟨c', fr', hc', hs'⟩ := hc c e fr hcell
    obtain ⟨c'', fr'', hc'', hs''⟩ := kc c' e fr' (by rw [hφ]; exact hc')
    exact ⟨c'', fr'', by rw [← hφ]; exact hc'', by omega⟩
  out b hb hF hd := by
    refine (k.out b (Nat.lt_of_lt_of_le hb h.size) (fun hF' => ?_) (fun hd' => ?_)).trans (h.out b hb hF hd)
    · rcases h.newF b hF' with h' | h' | h'
      · exact hF h'
      · omega
      · exact hd h'
    · rcases h.newφ b hd' with h' | h'
      · exact hd h'
      · omega
  size := Nat.le_trans h.size k.size
  os := k.os.trans h.os
  tape := k.tape.trans h.tape
  output := k.output.trans h.output
  newF b hb := by
    rcases k.newF b hb with h' | h' | h'
    · exact h.newF b h'
    · exact .inr (.inl (Nat.le_trans h.size h'))
    · rcases h.newφ b h' with h'' | h''
      · exact .inr (.inr h'')
      · exact .inr (.inl h'')
  newφ b hb := by
    rcases k.newφ b hb with h' | h'
    · exact h.newφ b h'
    · exact .inr (Nat.le_trans h.size h')
end Go.Ev
set_option linter.unusedVariables false
set_option linter.unusedSimpArgs false
namespace Go.Ev
open Go.RowKit

theorem lt_of_get {α : Type} {l : List α} {i : Nat} {x : α} (h : l[i]? = some x) : i < l.length := by
  rcases Nat.lt_or_ge i l.length with h' | h'
  · exact h'
  · simp [List.getElem?_eq_none h'] at h
theorem lt_of_aget {α : Type} {l : Array α} {i : Nat} {x : α} (h : l[i]? = some x) : i < l.size := by
  rcases Nat.lt_or_ge i l.size with h' | h'
  · exact h'
  · simp [Array.getElem?_eq_none h'] at h

/-- The world with one block another. -/
def putB (w : World) (b : Nat) (o : Obj) : World := { w with heap := w.heap.setIfInBounds b o }
theorem putB_get (w : World) (b : Nat) (o : Obj) (k : Nat) : (putB w b o).heap[k]? = if b = k then (if b < w.heap.size then some o else none) else w.heap[k]? := by
  simp only [putB, Array.getElem?_setIfInBounds]
def pushB (w : World) (o : Obj) : World := { w with heap := w.heap.push o }
theorem pushB_get (w : World) (o : Obj) (k : Nat) : (pushB w o).heap[k]? = if k = w.heap.size then some o else w.heap[k]? := by
  simp only [pushB, Array.getElem?_push]
theorem pushB_size (w : World) (o : Obj) : (pushB w o).heap.size = w.heap.size + 1 := by simp [pushB]

/-! ### A new block -/
def gNew (g : G) (n b : Nat) : G := { F := g.F, φ := fun i => if i = n then b else g.φ i }
theorem new_ext {g : G} {w : World} {H : List ABlk} (hi : Inv g w H) (o : Obj) (B : ABlk) : Ext g w H (gNew g H.length w.heap.size) (pushB w o) (H ++ [B]) where
  F b h := h
  keep b h := by
    have := hi.F b h
    rw [pushB_get, if_neg (by omega)]
  blk id B0 h := by
    have hlt := lt_of_get h
    refine ⟨B0, by rw [List.getElem?_append_left hlt]; exact h, Nat.le_refl _, fun _ => ⟨by simp only [gNew]; rw [if_neg (by omega)], fun c e fr hc => ⟨c, fr, ?_, rfl⟩⟩⟩
    have := lt_of_aget hc
    rw [pushB_get, if_neg (by omega)]; exact hc
  out b h1 h2 h3 := by rw [pushB_get, if_neg (by omega)]
  size := by rw [pushB_size]; omega
  os := rfl
  tape := rfl
  output := rfl
  newF b h := .inl h
  newφ b h := by
    obtain ⟨id, B0, hB, hb⟩ := h
    simp only [gNew] at hb
    by_cases he : id = H.length
    · rw [if_pos he] at hb; exact .inr (by omega)
    · rw [if_neg he] at hb
      have hlt := lt_of_get hB
      simp at hlt
      rw [List.getElem?_append_left (by omega)] at hB
      exact .inl ⟨id, B0, hB, hb⟩
theorem new_inv {g : G} {w : World} {H : List ABlk} (hi : Inv g w H) (c : Array Value) (e : TypeId) (fr : Nat × Nat) (hfr : ∀ j, j < c.size → ¬ (fr.1 ≤ j ∧ j < fr.2)) (v : Nat) (cs : List AV)
    (hl : cs.length ≤ c.size) (hr : repLA g w H cs (c.toList.take cs.length)) (hc : cs.all AV.isCell = true) :
    Inv (gNew g H.length w.heap.size) (pushB w (.cells c e fr)) (H ++ [⟨v, false, cs⟩]) := by
  have hx := new_ext hi (.cells c e fr) ⟨v, false, cs⟩
  refine ⟨fun b h => ?_, fun id B hB => ?_, fun i j Bi Bj hBi hBj fi fj he => ?_⟩
  · have := hi.F b h; rw [pushB_size]; omega
  · by_cases he : id = H.length
    · subst he
      rw [List.getElem?_append_right (Nat.le_refl _)] at hB
      simp at hB
      subst hB
      have hφ : (gNew g H.length w.heap.size).φ H.length = w.heap.size := by simp [gNew]
      refine ⟨c, e, fr, by rw [hφ, pushB_get, if_pos rfl], hfr, hl, repLA_mono hx hr, hc, by simp, fun h => ?_⟩
      rw [hφ] at h
      have := hi.F _ h
      omega
    · have hlt := lt_of_get hB
      simp at hlt
      rw [List.getElem?_append_left (by omega)] at hB
      obtain ⟨c0, e0, fr0, h1, h2, h3, h4, h5, h6⟩ := hi.blk id B hB
      have hφ : (gNew g H.length w.heap.size).φ id = g.φ id := by simp [gNew, he]
      refine ⟨c0, e0, fr0, ?_, h2, h3, repLA_mono hx h4, h5, by rw [hφ]; exact h6⟩
      have := lt_of_aget h1
      rw [hφ, pushB_get, if_neg (by omega)]; exact h1
  · have key : ∀ (i : Nat) (B : ABlk), (H ++ [⟨v, false, cs⟩])[i]? = some B → (i < H.length ∧ H[i]? = some B ∧ (gNew g H.length w.heap.size).φ i = g.φ i ∧ g.φ i < w.heap.size) ∨ (i = H.length ∧ (gNew g H.length w.heap.size).φ i = w.heap.size) := by
      intro i B hB
      by_cases he : i = H.length
      · exact .inr ⟨he, by simp [gNew, he]⟩
      · have hlt := lt_of_get hB
        simp at hlt
        rw [List.getElem?_append_left (by omega)] at hB
        obtain ⟨c0, e0, fr0, h1, _⟩ := hi.blk i B hB
        exact .inl ⟨by omega, hB, by simp [gNew, he], lt_of_aget h1⟩
    rcases key i Bi hBi with ⟨a1, a2, a3, a4⟩ | ⟨a1, a2⟩ <;> rcases key j Bj hBj with ⟨b1, b2, b3, b4⟩ | ⟨b1, b2⟩
    · exact hi.inj i j Bi Bj a2 b2 fi fj (by rw [← a3, ← b3]; exact he)
    · omega
    · omega
    · omega

/-! ### Marks -/
structure FzUp (H H' : List ABlk) : Prop where
  len : H'.length = H.length
  blk : ∀ (id : Nat) (B : ABlk), H[id]? = some B → ∃ B', H'[id]? = some B' ∧ B'.ver = B.ver ∧ B'.cells = B.cells ∧ (B.fz = true → B'.fz = true)
theorem FzUp.refl (H : List ABlk) : FzUp H H := ⟨rfl, fun id B h => ⟨B, h, rfl, rfl, fun x => x⟩⟩
theorem FzUp.trans {H H' H'' : List ABlk} (h : FzUp H H') (k : FzUp H' H'') : FzUp H H'' :=
  ⟨k.len.trans h.len, fun id B hB => by
    obtain ⟨B', hB', a1, a2, a3⟩ := h.blk id B hB
    obtain ⟨B'', hB'', b1, b2, b3⟩ := k.blk id B' hB'
    exact ⟨B'', hB'', b1.trans a1, b2.trans a2, fun h => b3 (a3 h)⟩⟩
theorem fzUp_modify (H : List ABlk) (i : Nat) : FzUp H (H.modify i fun B => { B with fz := true }) :=
  ⟨by simp, fun id B hB => by
    by_cases h : i = id
    · subst h; exact ⟨{ B with fz := true }, by simp [hB], rfl, rfl, fun _ => rfl⟩
    · exact ⟨B, by rw [List.getElem?_modify, hB]; simp [h], rfl, rfl, fun h => h⟩⟩
theorem fzUp_mark (ids : List Nat) : ∀ H : List ABlk, FzUp H (mark ids H) := by
  induction ids with
  | nil => exact fun H => .refl H
  | cons i ids ih => exact fun H => (fzUp_modify H i).trans (ih _)
theorem mark_fz (ids : List Nat) : ∀ (H : List ABlk) (id : Nat) (B' : ABlk), id ∈ ids → (mark ids H)[id]? = some B' → B'.fz = true := by
  induction ids with
  | nil => intro H id B' h; simp at h
  | cons i ids ih =>
    intro H id B' h hB
    rcases List.mem_cons.1 h with h | h
    · subst h
      have hlt := lt_of_get hB
      rw [(fzUp_mark (id :: ids) H).len] at hlt
      obtain ⟨B0, hB0⟩ : ∃ B0, H[id]? = some B0 := ⟨_, List.getElem?_eq_getElem hlt⟩
      have h1 : (H.modify id fun B => { B with fz := true })[id]? = some { B0 with fz := true } := by simp [hB0]
      obtain ⟨B'', hB'', _, _, hz⟩ := (fzUp_mark ids _).blk id _ h1
      have : (mark (id :: ids) H)[id]? = some B'' := hB''
      rw [this] at hB; cases hB
      exact hz rfl
    · exact ih _ id B' h hB
theorem fzUp_flags {H H1 : List ABlk} (h : H.length ≤ H1.length) : FzUp H (flags H H1) := by
  refine ⟨by simp [flags]; omega, fun id B hB => ?_⟩
  have hlt := lt_of_get hB
  obtain ⟨B1, hB1⟩ : ∃ B1, H1[id]? = some B1 := ⟨_, List.getElem?_eq_getElem (by omega)⟩
  exact ⟨{ B with fz := B.fz || B1.fz }, by simp [flags, List.getElem?_zipWith, hB, hB1], rfl, rfl, fun h => by simp [h]⟩
def gFz (g : G) (H' : List ABlk) : G := { F := fun b => g.F b ∨ ∃ (id : Nat) (B' : ABlk), H'[id]? = some B' ∧ B'.fz = true ∧ g.φ id = b, φ := g.φ }
theorem fz_ext {g : G} {w : World} {H H' : List ABlk} (hi : Inv g w H) (hu : FzUp H H') : Ext g w H (gFz g H') w H' where
  F b h := .inl h
  keep _ _ := rfl
  blk id B hB := by
    obtain ⟨B', hB', h1, h2, h3⟩ := hu.blk id B hB
    exact ⟨B', hB', by omega, fun _ => ⟨rfl, fun c e fr hc => ⟨c, fr, hc, rfl⟩⟩⟩
  out _ _ _ _ := rfl
  size := Nat.le_refl _
  os := rfl
  tape := rfl
  output := rfl
  newF b h := by
    rcases h with h | ⟨id, B', hB', _, hb⟩
    · exact .inl h
    · have hlt := lt_of_get hB'
      rw [hu.len] at hlt
      exact .inr (.inr ⟨id, _, List.getElem?_eq_getElem hlt, hb⟩)
  newφ b h := by
    obtain ⟨id, B', hB', hb⟩ := h
    have hlt := lt_of_get hB'
    rw [hu.len] at hlt
    exact .inl ⟨id, _, List.getElem?_eq_getElem hlt, hb⟩
theorem fz_inv {g : G} {w : World} {H H' : List ABlk} (hi : Inv g w H) (hu : FzUp H H') : Inv (gFz g H') w H' := by
  have hx := fz_ext hi hu
  have back : ∀ (id : Nat) (B' : ABlk), H'[id]? = some B' → ∃ B, H[id]? = some B ∧ B'.ver = B.ver ∧ B'.cells = B.cells ∧ (B.fz = true → B'.fz = true) := by
    intro id B' hB'
    have hlt := lt_of_get hB'
    rw [hu.len] at hlt
    obtain ⟨B'', hB'', h1, h2, h3⟩ := hu.blk id _ (List.getElem?_eq_getElem hlt)
    rw [hB'] at hB''; cases hB''
    exact ⟨_, List.getElem?_eq_getElem hlt, h1, h2, h3⟩
  refine ⟨fun b h => ?_, fun id B' hB' => ?_, fun i j Bi Bj hBi hBj fi fj he => ?_⟩
  · rcases h with h | ⟨id, B', hB', _, hb⟩
    · exact hi.F b h
    · obtain ⟨B, hB, _⟩ := back id B' hB'
      obtain ⟨c, e, fr, hc, _⟩ := hi.blk id B hB
      rw [← hb]; exact lt_of_aget hc
  · obtain ⟨B, hB, h1, h2, h3⟩ := back id B' hB'
    obtain ⟨c, e, fr, c1, c2, c3, c4, c5, c6⟩ := hi.blk id B hB
    refine ⟨c, e, fr, c1, c2, by rw [h2]; exact c3, by rw [h2]; exact repLA_mono hx c4, by rw [h2]; exact c5, fun h => .inr ⟨id, B', hB', h, rfl⟩, fun h => ?_⟩
    rcases h with h | ⟨id2, B2', hB2', hz2, hb2⟩
    · exact h3 (c6.2 h)
    · obtain ⟨B2, hB2, k1, k2, k3⟩ := back id2 B2' hB2'
      cases hz : B'.fz with
      | true => rfl
      | false =>
        have hBf : B.fz = false := by cases hb : B.fz with | false => rfl | true => simp [h3 hb] at hz
        cases hb2z : B2.fz with
        | true =>
          obtain ⟨_, _, _, _, _, _, _, _, d6⟩ := hi.blk id2 B2 hB2
          have := d6.1 hb2z
          have hb2' : g.φ id2 = g.φ id := hb2
          rw [hb2'] at this
          have := c6.2 this
          simp [hBf] at this
        | false =>
          have := hi.inj id2 id B2 B hB2 hB hb2z hBf hb2
          subst this
          rw [hB'] at hB2'; cases hB2'
          simp [hz] at hz2
  · obtain ⟨Bi0, hBi0, _, _, h3⟩ := back i Bi hBi
    obtain ⟨Bj0, hBj0, _, _, k3⟩ := back j Bj hBj
    have e1 : Bi0.fz = false := by cases hb : Bi0.fz with | false => rfl | true => simp [h3 hb] at fi
    have e2 : Bj0.fz = false := by cases hb : Bj0.fz with | false => rfl | true => simp [k3 hb] at fj
    exact hi.inj i j Bi0 Bj0 hBi0 hBj0 e1 e2 he

/-! ### A block is written -/
theorem put_ext {g : G} {w : World} {H : List ABlk} (hi : Inv g w H) {id : Nat} {B : ABlk} (hB : H[id]? = some B) (hf : B.fz = false) {c : Array Value} {e : TypeId} {fr : Nat × Nat}
    (hc : w.heap[g.φ id]? = some (.cells c e fr)) (c' : Array Value) (hs : c'.size = c.size) (B' : ABlk) (hv : B.ver ≤ B'.ver) :
    Ext g w H g (putB w (g.φ id) (.cells c' e fr)) (H.set id B') where
  F b h := h
  keep b h := by
    rw [putB_get, if_neg]
    intro he
    subst he
    obtain ⟨_, _, _, _, _, _, _, _, d6⟩ := hi.blk id B hB
    simp [d6.2 h] at hf
  blk id2 B2 hB2 := by
    by_cases he : id = id2
    · subst he
      rw [hB] at hB2; cases hB2
      refine ⟨B', by rw [List.getElem?_set_self (lt_of_get hB)], hv, fun _ => ⟨rfl, fun c2 e2 fr2 hc2 => ?_⟩⟩
      rw [hc] at hc2; cases hc2
      exact ⟨c', fr, by rw [putB_get, if_pos rfl, if_pos (lt_of_aget hc)], hs⟩
    · refine ⟨B2, by rw [List.getElem?_set_ne he]; exact hB2, Nat.le_refl _, fun _ => ⟨rfl, fun c2 e2 fr2 hc2 => ?_⟩⟩
      by_cases hφ : g.φ id = g.φ id2
      · rw [← hφ, hc] at hc2; cases hc2
        exact ⟨c', fr, by rw [← hφ, putB_get, if_pos rfl, if_pos (lt_of_aget hc)], hs⟩
      · exact ⟨c2, fr2, by rw [putB_get, if_neg hφ]; exact hc2, rfl⟩
  out b h1 h2 h3 := by
    rw [putB_get, if_neg]
    intro he
    exact h3 ⟨id, B, hB, he⟩
  size := by simp [putB]
  os := rfl
  tape := rfl
  output := rfl
  newF b h := .inl h
  newφ b h := by
    obtain ⟨id2, B2, hB2, hb⟩ := h
    have hlt := lt_of_get hB2
    simp at hlt
    exact .inl ⟨id2, _, List.getElem?_eq_getElem hlt, hb⟩
theorem put_inv {g : G} {w : World} {H : List ABlk} (hi : Inv g w H) {id : Nat} {B : ABlk} (hB : H[id]? = some B) (hf : B.fz = false) {c : Array Value} {e : TypeId} {fr : Nat × Nat}
    (hc : w.heap[g.φ id]? = some (.cells c e fr)) (c' : Array Value) (hs : c'.size = c.size) (v : Nat) (cs : List AV) (hv : B.ver ≤ v)
    (hl : cs.length ≤ c'.size) (hr : repLA g w H cs (c'.toList.take cs.length)) (hcell : cs.all AV.isCell = true) :
    Inv g (putB w (g.φ id) (.cells c' e fr)) (H.set id ⟨v, false, cs⟩) := by
  have hx := put_ext hi hB hf hc c' hs ⟨v, false, cs⟩ hv
  obtain ⟨c0, e0, fr0, d1, d2, d3, d4, d5, d6⟩ := hi.blk id B hB
  rw [hc] at d1; cases d1
  refine ⟨fun b h => ?_, fun id2 B2 hB2 => ?_, fun i j Bi Bj hBi hBj fi fj he => ?_⟩
  · have := hi.F b h; simpa [putB] using this
  · by_cases he : id = id2
    · subst he
      rw [List.getElem?_set_self (lt_of_get hB)] at hB2; cases hB2
      refine ⟨c', e, fr, by rw [putB_get, if_pos rfl, if_pos (lt_of_aget hc)], fun j hj => d2 j (by omega), hl, repLA_mono hx hr, hcell, by simp, fun h => ?_⟩
      simp [d6.2 h] at hf
    · rw [List.getElem?_set_ne he] at hB2
      obtain ⟨c2, e2, fr2, k1, k2, k3, k4, k5, k6⟩ := hi.blk id2 B2 hB2
      by_cases hφ : g.φ id = g.φ id2
      · cases hz : B2.fz with
        | false => exact absurd (hi.inj id id2 B B2 hB hB2 hf hz hφ) he
        | true =>
          have := k6.1 hz
          rw [← hφ] at this
          simp [d6.2 this] at hf
      · exact ⟨c2, e2, fr2, by rw [putB_get, if_neg hφ]; exact k1, k2, k3, repLA_mono hx k4, k5, k6⟩
  · have key : ∀ (i : Nat) (Bi : ABlk), (H.set id ⟨v, false, cs⟩)[i]? = some Bi → Bi.fz = false → ∃ B0, H[i]? = some B0 ∧ B0.fz = false := by
      intro i Bi hBi fi
      by_cases he : id = i
      · subst he; exact ⟨B, hB, hf⟩
      · rw [List.getElem?_set_ne he] at hBi; exact ⟨Bi, hBi, fi⟩
    obtain ⟨Bi0, a1, a2⟩ := key i Bi hBi fi
    obtain ⟨Bj0, b1, b2⟩ := key j Bj hBj fj
    exact hi.inj i j Bi0 Bj0 a1 b1 a2 b2 he

/-! ### A block goes on in a new one -/
def gMove (g : G) (id b : Nat) : G := { F := g.F, φ := fun i => if i = id then b else g.φ i }
theorem move_ext {g : G} {w : World} {H : List ABlk} (hi : Inv g w H) {id : Nat} {B : ABlk} (hB : H[id]? = some B) (o : Obj) (B' : ABlk) (hv : B.ver < B'.ver) :
    Ext g w H (gMove g id w.heap.size) (pushB w o) (H.set id B') where
  F b h := h
  keep b h := by
    have := hi.F b h
    rw [pushB_get, if_neg (by omega)]
  blk id2 B2 hB2 := by
    by_cases he : id = id2
    · subst he
      rw [hB] at hB2; cases hB2
      exact ⟨B', by rw [List.getElem?_set_self (lt_of_get hB)], by omega, fun h => by omega⟩
    · refine ⟨B2, by rw [List.getElem?_set_ne he]; exact hB2, Nat.le_refl _, fun _ => ⟨by simp only [gMove]; rw [if_neg (by omega)], fun c2 e2 fr2 hc2 => ⟨c2, fr2, ?_, rfl⟩⟩⟩
      have := lt_of_aget hc2
      rw [pushB_get, if_neg (by omega)]; exact hc2
  out b h1 h2 h3 := by rw [pushB_get, if_neg (by omega)]
  size := by rw [pushB_size]; omega
  os := rfl
  tape := rfl
  output := rfl
  newF b h := .inl h
  newφ b h := by
    obtain ⟨id2, B2, hB2, hb⟩ := h
    have hlt := lt_of_get hB2
    simp at hlt
    simp only [gMove] at hb
    by_cases he : id2 = id
    · rw [if_pos he] at hb; exact .inr (by omega)
    · rw [if_neg he] at hb; exact .inl ⟨id2, _, List.getElem?_eq_getElem hlt, hb⟩
theorem move_inv {g : G} {w : World} {H : List ABlk} (hi : Inv g w H) {id : Nat} {B : ABlk} (hB : H[id]? = some B) (c : Array Value) (e : TypeId) (fr : Nat × Nat) (hfr : ∀ j, j < c.size → ¬ (fr.1 ≤ j ∧ j < fr.2)) (v : Nat) (cs : List AV) (hv : B.ver < v)
    (hl : cs.length ≤ c.size) (hr : repLA g w H cs (c.toList.take cs.length)) (hc : cs.all AV.isCell = true) :
    Inv (gMove g id w.heap.size) (pushB w (.cells c e fr)) (H.set id ⟨v, false, cs⟩) := by
  have hx := move_ext hi hB (.cells c e fr) ⟨v, false, cs⟩ hv
  refine ⟨fun b h => ?_, fun id2 B2 hB2 => ?_, fun i j Bi Bj hBi hBj fi fj he => ?_⟩
  · have := hi.F b h; rw [pushB_size]; omega
  · by_cases he : id = id2
    · subst he
      rw [List.getElem?_set_self (lt_of_get hB)] at hB2; cases hB2
      have hφ : (gMove g id w.heap.size).φ id = w.heap.size := by simp [gMove]
      refine ⟨c, e, fr, by rw [hφ, pushB_get, if_pos rfl], hfr, hl, repLA_mono hx hr, hc, by simp, fun h => ?_⟩
      rw [hφ] at h
      have := hi.F _ h
      omega
    · rw [List.getElem?_set_ne he] at hB2
      obtain ⟨c0, e0, fr0, h1, h2, h3, h4, h5, h6⟩ := hi.blk id2 B2 hB2
      have hφ : (gMove g id w.heap.size).φ id2 = g.φ id2 := by simp only [gMove]; rw [if_neg (by omega)]
      refine ⟨c0, e0, fr0, ?_, h2, h3, repLA_mono hx h4, h5, by rw [hφ]; exact h6⟩
      have := lt_of_aget h1
      rw [hφ, pushB_get, if_neg (by omega)]; exact h1
  · have key : ∀ (i : Nat) (Bi : ABlk), (H.set id ⟨v, false, cs⟩)[i]? = some Bi → (i = id ∧ (gMove g id w.heap.size).φ i = w.heap.size) ∨ (i ≠ id ∧ H[i]? = some Bi ∧ (gMove g id w.heap.size).φ i = g.φ i ∧ g.φ i < w.heap.size) := by
      intro i Bi hBi
      by_cases he : id = i
      · subst he; exact .inl ⟨rfl, by simp [gMove]⟩
      · rw [List.getElem?_set_ne he] at hBi
        obtain ⟨c0, e0, fr0, h1, _⟩ := hi.blk i Bi hBi
        exact .inr ⟨by omega, hBi, by simp only [gMove]; rw [if_neg (by omega)], lt_of_aget h1⟩
    rcases key i Bi hBi with ⟨a1, a2⟩ | ⟨a1, a2, a3, a4⟩ <;> rcases key j Bj hBj with ⟨b1, b2⟩ | ⟨b1, b2, b3, b4⟩
    · omega
    · omega
    · omega
    · exact hi.inj i j Bi Bj a2 b2 fi fj (by rw [← a3, ← b3]; exact he)

/-! ### The count of draws -/
theorem drawn_ext (g : G) (w : World) (H : List ABlk) (n : Nat) : Ext g w H g { w with drawn := n } H :=
  ⟨fun _ h => h, fun _ _ => rfl, fun id B h => ⟨B, h, Nat.le_refl _, fun _ => ⟨rfl, fun c e fr hc => ⟨c, fr, hc, rfl⟩⟩⟩, fun _ _ _ _ => rfl, Nat.le_refl _, rfl, rfl, rfl, fun _ h => .inl h, fun _ h => .inl h⟩
theorem drawn_inv {g : G} {w : World} {H : List ABlk} (hi : Inv g w H) (n : Nat) : Inv g { w with drawn := n } H :=
  ⟨hi.F, fun id B hB => by
    obtain ⟨c, e, fr, h1, h2, h3, h4, h5, h6⟩ := hi.blk id B hB
    exact ⟨c, e, fr, h1, h2, h3, repLA_mono (drawn_ext g w H n) h4, h5, h6⟩, hi.inj⟩
end Go.Ev
set_option linter.unusedVariables false
set_option linter.unusedSimpArgs false
namespace Go.Ev
open Go.RowKit
variable {P : Program}

/-! ### Shapes -/
theorem ofVal1_rep {F : Nat → Prop} {w : World} {v : Value} {x : PV} (h : ofVal1 v = some x) : rep F w x v ∧ (AV.p x).isCell = true := by
  unfold ofVal1 at h
  split at h <;> first | (simp at h; done) | (simp at h; subst h)
  · exact ⟨by simp [rep], rfl⟩
  · exact ⟨by simp [rep], rfl⟩
  · exact ⟨by simp only [rep]; exact ⟨_, rfl, rfl⟩, rfl⟩
  · exact ⟨by simp [rep], rfl⟩
  · exact ⟨by simp only [rep]; exact ⟨none, 0, rfl, fun _ => rfl, rfl⟩, rfl⟩
  · exact ⟨by simp [rep], rfl⟩
theorem mapO_ofVal1 {F : Nat → Prop} {w : World} : ∀ {vs : List Value} {xs : List PV}, mapO ofVal1 vs = some xs → repL F w xs vs
  | [], xs, h => by simp [mapO] at h; subst h; simp [repL]
  | v :: vs, xs, h => by
    simp only [mapO] at h
    cases hv : ofVal1 v with
    | none => rw [hv] at h; simp at h
    | some y =>
      rw [hv] at h
      cases hs : mapO ofVal1 vs with
      | none => rw [hs] at h; simp at h
      | some ys =>
        rw [hs] at h; simp at h; subst h
        exact ⟨(ofVal1_rep hv).1, mapO_ofVal1 hs⟩
theorem ofVal_rep {F : Nat → Prop} {w : World} {v : Value} {x : PV} (h : ofVal v = some x) : rep F w x v := by
  unfold ofVal at h
  split at h
  · rename_i cs
    cases hs : mapO ofVal1 cs.toList with
    | none => rw [hs] at h; simp at h
    | some xs => rw [hs] at h; simp at h; subst h; simp only [rep]; exact ⟨cs, rfl, mapO_ofVal1 hs⟩
  · rename_i vs
    split at h
    · rename_i hz
      simp at h; subst h
      have : vs = #[] := Array.eq_empty_of_size_eq_zero hz
      subst this
      simp [rep, undef]
    · simp at h
  · exact (ofVal1_rep h).1
theorem opv_rep {g : G} {w : World} {H : List ABlk} {t : List AV} {a : Act} (ht : repLA g w H t a.tmps.toList) {o : Operand} {x : AV} (h : opv t o = some x) : repA g w H x (a.eval o) := by
  cases o with
  | tmp i =>
    simp only [opv] at h
    obtain ⟨hl, hi⟩ := repLA_iff.1 ht
    cases hx : t[i]? with
    | some y =>
      rw [hx] at h; simp at h; subst h
      obtain ⟨v, hv, hr⟩ := hi i y hx
      have : a.tmps[i]? = some v := by rw [← Array.getElem?_toList]; exact hv
      simp only [Act.eval, Array.getD_eq_getD_getElem?, this, Option.getD_some]; exact hr
    | none =>
      rw [hx] at h; simp at h; subst h
      have h1 : t.length ≤ i := by simpa using hx
      have : a.tmps[i]? = none := by simp; simp at hl; omega
      simp only [Act.eval, Array.getD_eq_getD_getElem?, this, Option.getD_none, repA, rep]
  | const v =>
    simp only [opv] at h
    cases hv : ofVal v with
    | none => rw [hv] at h; simp at h
    | some y => rw [hv] at h; simp at h; subst h; exact ofVal_rep hv
  | global k => simp [opv] at h
  | func f => simp [opv] at h; subst h; simp only [repA, rep, Act.eval]; exact ⟨#[], #[], rfl, by simp [repL], by simp [repL]⟩

theorem isCell_one {g : G} {w : World} {H : List ABlk} {x : AV} {v : Value} (h : repA g w H x v) (hc : x.isCell = true) : v.oneCell' = true := by
  cases x with
  | p x =>
    simp only [repA] at h
    cases x <;> simp [AV.isCell] at hc <;> simp only [rep] at h
    · subst h; rfl
    · subst h; rfl
    · obtain ⟨s, rfl, _⟩ := h; rfl
    · subst h; rfl
    · subst h; rfl
    · obtain ⟨_, rfl⟩ := h; rfl
    · obtain ⟨_, _, rfl, _⟩ := h; rfl
    · obtain ⟨_, _, rfl, _⟩ := h; rfl
    · obtain ⟨_, _, rfl, _⟩ := h; rfl
  | ms => simp only [repA] at h; obtain ⟨_, _, rfl, _⟩ := h; rfl
  | pt => simp only [repA] at h; obtain ⟨_, rfl, _⟩ := h; rfl
  | ip => simp only [repA] at h; obtain ⟨_, _, rfl, _⟩ := h; rfl
  | fn => simp only [repA] at h; obtain ⟨_, _, rfl, _⟩ := h; rfl
  | agg => simp [AV.isCell] at hc
  | tup => simp [AV.isCell] at hc
theorem cells_one {v : Value} (h : v.oneCell' = true) : v.cells = #[v] := by cases v <;> simp [Value.oneCell'] at h <;> rfl
theorem all_one {g : G} {w : World} {H : List ABlk} {cs : List AV} {vs : List Value} (h : repLA g w H cs vs) (hc : cs.all AV.isCell = true) : ∀ v ∈ vs, v.oneCell' = true := by
  obtain ⟨hl, hi⟩ := repLA_iff.1 h
  intro v hv
  obtain ⟨i, hi'⟩ := List.getElem?_of_mem hv
  have hlt := lt_of_get hi'
  obtain ⟨u, hu, hr⟩ := hi i cs[i] (List.getElem?_eq_getElem (by omega))
  rw [hi'] at hu; cases hu
  exact isCell_one hr (List.all_eq_true.1 hc _ (List.getElem_mem _))
theorem cellsOf_rep {g : G} {w : World} {H : List ABlk} {x : AV} {v : Value} {cs : List AV} (h : repA g w H x v) (hc : cellsOf x = some cs) : repLA g w H cs v.cells.toList ∧ cs.all AV.isCell = true := by
  have one : x.isCell = true → cs = [x] → repLA g w H cs v.cells.toList ∧ cs.all AV.isCell = true := by
    intro h1 h2
    subst h2
    rw [cells_one (isCell_one h h1)]
    exact ⟨by simp [repLA, h], by simp [h1]⟩
  unfold cellsOf at hc
  split at hc
  · rename_i xs
    split at hc
    · rename_i hall
      simp at hc; subst hc
      simp only [repA, rep] at h
      obtain ⟨vs, rfl, hr⟩ := h
      exact ⟨repLA_map.2 hr, hall⟩
    · simp at hc
  · rename_i xs
    split at hc
    · rename_i hall
      simp at hc; subst hc
      simp only [repA] at h
      obtain ⟨vs, rfl, hr⟩ := h
      exact ⟨hr, hall⟩
    · simp at hc
  · split at hc
    · rename_i h1; simp at hc; exact one h1 hc.symm
    · simp at hc
theorem mkAgg_rep {g : G} {w : World} {H : List ABlk} {cs : List AV} {vs : List Value} (h : repLA g w H cs vs) : repA g w H (mkAgg cs) (.agg vs.toArray) := by
  unfold mkAgg
  split
  · rename_i xs hx
    rw [mapO_pure hx] at h
    simp only [repA, rep]
    exact ⟨_, rfl, by simpa using repLA_map.1 h⟩
  · simp only [repA]; exact ⟨_, rfl, by simpa using h⟩
theorem mkTup_rep {g : G} {w : World} {H : List ABlk} {cs : List AV} {vs : List Value} (h : repLA g w H cs vs) : repA g w H (mkTup cs) (.tuple vs.toArray) := by
  unfold mkTup
  split
  · rename_i xs hx
    rw [mapO_pure hx] at h
    simp only [repA, rep]
    exact ⟨_, rfl, by simpa using repLA_map.1 h⟩
  · simp only [repA]; exact ⟨_, rfl, by simpa using h⟩
theorem aggCells_rep {g : G} {w : World} {H : List ABlk} {x : AV} {v : Value} {cs : List AV} (h : repA g w H x v) (hc : aggCells x = some cs) : ∃ vs, v = .agg vs ∧ repLA g w H cs vs.toList := by
  unfold aggCells at hc
  split at hc
  · simp at hc; subst hc; simp only [repA, rep] at h; obtain ⟨vs, rfl, hr⟩ := h; exact ⟨vs, rfl, repLA_map.2 hr⟩
  · simp at hc; subst hc; simp only [repA] at h; exact h
  · simp at hc

/-! ### Types -/
theorem sizeT_run {t : TypeId} {n : Nat} (h : sizeT P t = some n) (w : World) : (sizeOf t).run P w = .ok n w := by
  unfold sizeT at h
  cases hi : P.info? t with
  | none => rw [hi] at h; simp at h
  | some i => rw [hi] at h; simp at h; subst h; simp [sizeOf, typeInfo, hi]
theorem bytesT_run {t : TypeId} {n : Nat} (h : bytesT P t = some n) (w : World) : ∃ i, (typeInfo t).run P w = .ok i w ∧ i.bytes = n := by
  unfold bytesT at h
  cases hi : P.info? t with
  | none => rw [hi] at h; simp at h
  | some i => rw [hi] at h; simp at h; exact ⟨i, by simp [typeInfo, hi], h⟩
theorem aggT_run {t : TypeId} {b : Bool} (h : aggT P t = some b) (w : World) : (isAgg t).run P w = .ok b w := by
  unfold aggT at h
  unfold isAgg
  simp only [Sem.run_bind]
  split at h <;> rename_i hu <;> first | (simp at h; done) | (simp at h; subst h; rw [run_underlying hu])
  · rfl
  · rfl
  · rename_i d h1 h2
    cases d <;> first | rfl | exact absurd rfl (h1 _) | exact absurd rfl (h2 _ _)
theorem zeroT_run {t : TypeId} {cs : List AV} (h : zeroT P t = some cs) (g : G) (w : World) (H : List ABlk) : ∃ z, (zeroValue t).run P w = .ok z w ∧ repLA g w H cs z.cells.toList ∧ cs.all AV.isCell = true := by
  unfold zeroT at h
  cases hi : P.info? t with
  | none => rw [hi] at h; simp at h
  | some i =>
    rw [hi] at h
    simp only [Option.bind_some] at h
    cases hz : i.zero with
    | none => rw [hz] at h; simp at h
    | some z =>
      rw [hz] at h
      simp only at h
      cases hx : ofVal z with
      | none => rw [hx] at h; simp at h
      | some x =>
        rw [hx] at h
        simp only at h
        have hr : repA g w H (.p x) z := by simp only [repA]; exact ofVal_rep hx
        obtain ⟨h1, h2⟩ := cellsOf_rep hr h
        exact ⟨z, by simp [zeroValue, typeInfo, hi, hz], h1, h2⟩
theorem elemT_run {t e : TypeId} (h : elemT P t = some e) (w : World) : (underlying t).run P w = .ok (.slice e) w := by
  unfold elemT at h
  split at h
  · rename_i hu; simp at h; subst h; exact run_underlying hu w
  · simp at h

/-! ### Numbers, strings -/
theorem ibin_run {op : BinOp} {k : IntKind} {a b : Int} {x : PV} (h : ibin op k a b = some x) (t : TypeId) (F : Nat → Prop) (w : World) :
    ∃ v, (binOp op t (.int k a) (.int k b)).run P w = .ok v w ∧ rep F w x v := by
  cases op <;> simp only [ibin, ibits] at h <;> first
    | (simp at h; done)
    | (simp at h; subst h; refine ⟨_, ?_, by simp only [rep]; rfl⟩; simp [binOp, Op.intArith, Op.intBits, Op.intCmp]; done)
    | (split at h
       · simp at h
       · rename_i hb; simp at h; subst h; refine ⟨_, ?_, by simp only [rep]; rfl⟩; simp [binOp, Op.intDiv, hb])
theorem ishift_run {op : BinOp} {k k' : IntKind} {a b : Int} {x : PV} (hop : op = .shl ∨ op = .shr) (h : ishift op k a b = some x) (t : TypeId) (F : Nat → Prop) (w : World) :
    ∃ v, (binOp op t (.int k a) (.int k' b)).run P w = .ok v w ∧ rep F w x v := by
  unfold ishift at h
  split at h
  · simp at h
  · rename_i hb
    rcases hop with rfl | rfl <;> simp at h <;> subst h <;> refine ⟨_, ?_, by simp only [rep]; rfl⟩ <;> simp [binOp, Op.shift, hb]
theorem less_eq : ∀ (a b : List UInt8), less (a.map UInt8.toNat) (b.map UInt8.toNat) = Op.bytesLess a b
  | _, [] => by cases ‹List UInt8› <;> simp [less, Op.bytesLess]
  | [], _ :: _ => by simp [less, Op.bytesLess]
  | a :: x, b :: y => by
    simp only [List.map_cons, less, Op.bytesLess, less_eq x y]
    have h1 : decide (a.toNat < b.toNat) = decide (a < b) := by simp [UInt8.lt_iff_toNat_lt]
    have h2 : (a.toNat == b.toNat) = (a == b) := by
      rw [Bool.eq_iff_iff]; simp [UInt8.toNat_inj]
    rw [h1, h2]
theorem map_toNat_eq (a b : List UInt8) : (a.map UInt8.toNat == b.map UInt8.toNat) = (a == b) := by
  rw [Bool.eq_iff_iff]
  simp only [beq_iff_eq]
  constructor
  · intro h
    exact (List.map_inj_right (fun x y => UInt8.toNat_inj.1)).1 h
  · rintro rfl; rfl
theorem sbin_run {op : BinOp} {a b : List Nat} {x : PV} (h : sbin op a b = some x) (t : TypeId) {s u : ByteArray} (hs : s.data.toList.map UInt8.toNat = a) (hu : u.data.toList.map UInt8.toNat = b) (F : Nat → Prop) (w : World) :
    ∃ v, (binOp op t (.string s) (.string u)).run P w = .ok v w ∧ rep F w x v := by
  subst hs hu
  have hb : ∀ op, binOp op t (.string s) (.string u) = Op.stringOp op s u := by intro op; cases op <;> rfl
  rw [hb]
  cases op
  case add =>
    simp only [sbin] at h
    split at h
    · cases h
    · rename_i hn
      cases h
      refine ⟨.string (s ++ u), ?_, by simp only [rep]; exact ⟨_, rfl, by simp⟩⟩
      have hn' : ¬ ((s.size + u.size : Nat) : Int) > IntKind.i64.max := by
        have e1 : (List.map UInt8.toNat s.data.toList).length = s.size := by rw [List.length_map, Array.length_toList]; rfl
        have e2 : (List.map UInt8.toNat u.data.toList).length = u.size := by rw [List.length_map, Array.length_toList]; rfl
        rw [e1, e2] at hn
        exact hn
      simp only [Op.stringOp]
      rw [if_neg hn']
      rfl
  all_goals
    simp only [sbin, less_eq, map_toNat_eq] at h
    first
      | (simp at h; done)
      | (simp at h; subst h; refine ⟨_, ?_, by simp only [rep]; rfl⟩; simp [Op.stringOp, Lib.toList_data]; done)
end Go.Ev
set_option linter.unusedVariables false
set_option linter.unusedSimpArgs false
namespace Go.Ev
open Go.RowKit
variable {P : Program} {g : G} {w : World} {H : List ABlk}

theorem addr_add (b o j : Nat) : (⟨b, o, none⟩ : Addr).add j = ⟨b, o + j, none⟩ := by unfold Addr.add; split <;> simp_all

/-! ### '==' -/
theorem evEq_run_d {d : Nat} {t : TypeId} {x y : AV} {a b : Value} {r : Bool} (hs : ∀ xs ys, ¬ (x = .p (.agg xs) ∧ y = .p (.agg ys))) (h : evEq P t x y = some r) (hx : repA g w H x a) (hy : repA g w H y b) : (Op.equalIn (d + 1) t a b).run P w = .ok r w := by
  unfold evEq at h
  split at h
  case h_1 hu => cases h; simp only [repA, rep] at hx hy; subst hx hy; simp [Op.equalIn, run_underlying hu]
  case h_2 hu => cases h; simp only [repA, rep] at hx hy; subst hx hy; simp [Op.equalIn, run_underlying hu]
  case h_3 hu => cases h; simp only [repA, rep] at hx hy; obtain ⟨A, rfl, _⟩ := hy; subst hx; simp [Op.equalIn, run_underlying hu]
  case h_4 hu => cases h; simp only [repA, rep] at hx hy; obtain ⟨A, rfl, _⟩ := hx; subst hy; simp [Op.equalIn, run_underlying hu]
  case h_5 hu => cases h; simp only [repA, rep] at hx hy; subst hx hy; simp [Op.equalIn, run_underlying hu]
  case h_6 hu => cases h; simp only [repA, rep] at hx hy; obtain ⟨_, _, rfl, _⟩ := hx; subst hy; simp [Op.equalIn, run_underlying hu]
  case h_7 hu => cases h; simp only [repA, rep] at hx hy; obtain ⟨_, _, rfl, _⟩ := hx; subst hy; simp [Op.equalIn, run_underlying hu]
  case h_8 hu =>
    cases h; simp only [repA, rep] at hx hy
    obtain ⟨A, cap, rfl, _, hA⟩ := hx
    obtain ⟨A', cap', rfl, _, hA'⟩ := hy
    cases A' with
    | some _ => simp at hA'
    | none => cases A with
      | none => simp at hA; subst hA; simp [Op.equalIn, run_underlying hu]
      | some _ => simp at hA; subst hA; simp [Op.equalIn, run_underlying hu]
  case h_9 hu =>
    split at h
    · cases h
    · rename_i hn
      cases h; simp only [repA, rep] at hx hy
      obtain ⟨A, cap, rfl, h1, _, h3, _⟩ := hx
      obtain ⟨A', cap', rfl, _, hA'⟩ := hy
      cases A' with
      | some _ => simp at hA'
      | none => cases A with
        | none => have := h3 rfl; omega
        | some _ => simp [Op.equalIn, run_underlying hu]
  case h_10 hu =>
    cases h; simp only [repA, rep] at hx hy
    obtain ⟨A, cap, rfl, _⟩ := hx
    obtain ⟨A', cap', rfl, _, hA'⟩ := hy
    cases A' with
    | some _ => simp at hA'
    | none => simp [Op.equalIn, run_underlying hu]
  case h_11 hu => exact absurd ⟨rfl, rfl⟩ (hs _ _)
  case h_12 => cases h
theorem eqField_run {d : Nat} {t : TypeId} {x y : Option PV} {F : Nat → Prop} {r : Bool} (h : eqField (P.underlying t) x y = some r) : ∃ x0 y0, x = some x0 ∧ y = some y0 ∧ aggT P t = some false ∧ ∀ a b, rep F w x0 a → rep F w y0 b → (Op.equalIn (d + 1) t a b).run P w = .ok r w := by
  unfold eqField at h
  split at h
  case h_1 hu =>
    refine ⟨_, _, rfl, rfl, by simp [aggT, hu], fun a b ha hb => ?_⟩
    simp only [rep] at ha hb; subst ha hb
    split at h
    · rename_i hk; subst hk; cases h; simp [Op.equalIn, run_underlying hu]
    · cases h
  case h_2 hu =>
    refine ⟨_, _, rfl, rfl, by simp [aggT, hu], fun a b ha hb => ?_⟩
    simp only [rep] at ha hb; subst ha hb
    cases h; simp [Op.equalIn, run_underlying hu]
  case h_3 hu =>
    refine ⟨_, _, rfl, rfl, by simp [aggT, hu], fun a b ha hb => ?_⟩
    simp only [rep] at ha hb; obtain ⟨s, rfl, rfl⟩ := ha; obtain ⟨u, rfl, rfl⟩ := hb
    cases h
    simp only [Op.equalIn, Sem.run_bind, run_underlying hu, Result.andThen_ok]
    show Result.ok (s == u) w = _
    rw [map_toNat_eq]
    have e : (s == u) = (s.data == u.data) := by cases s; cases u; rfl
    rw [e]
    congr 1
    rw [Bool.eq_iff_iff]
    simp
  case h_4 => cases h
theorem part_run {t : TypeId} {cs : List AV} {off : Nat} {x : AV} {vs : Array Value} (h : partA P t cs off = some x) (hr : repLA g w H cs vs.toList) : ∃ v, (part t vs off).run P w = .ok v w ∧ repA g w H x v := by
  unfold partA at h
  split at h
  case h_1 n h1 h2 =>
    split at h
    · rename_i hle
      cases h
      refine ⟨.agg (vs.extract off (off + n)), ?_, ?_⟩
      · simp [part, aggT_run h1, sizeT_run h2]
      · have := mkAgg_rep (repLA_take n (repLA_drop off hr))
        have e : (((vs.toList.drop off).take n).toArray : Array Value) = vs.extract off (off + n) := by
          apply Array.ext'
          simp [List.extract_eq_take_drop]
        rwa [e] at this
    · cases h
  case h_2 n h1 h2 =>
    obtain ⟨hl, hi⟩ := repLA_iff.1 hr
    obtain ⟨v, hv, hx⟩ := hi off x h
    refine ⟨v, ?_, hx⟩
    have : vs[off]? = some v := by rw [← Array.getElem?_toList]; exact hv
    simp [part, aggT_run h1, this]
  case h_3 => cases h
theorem part_cell {t : TypeId} {vs : Array Value} {off : Nat} {v : Value} (h1 : aggT P t = some false) (h : vs[off]? = some v) : (part t vs off).run P w = .ok v w := by
  simp [part, aggT_run h1, h]
theorem fields_run {F : Nat → Prop} {n : Nat} (hn : ∃ d, n = d + 1) {xs ys : List PV} {a b : Array Value} (ha : repL F w xs a.toList) (hb : repL F w ys b.toList) : ∀ (fs : List Field) (r : Bool), eqFields P xs ys fs = some r →
    (forIn fs ((none : Option Bool), ()) fun f __s => if f.name ≠ "_" then do
        let x ← part f.type a f.offset
        let y ← part f.type b f.offset
        let e ← Op.equalIn n f.type x y
        if (!e) = true then pure (ForInStep.done (some false, ())) else pure (ForInStep.yield (none, ()))
      else pure (ForInStep.yield (none, ())) : Sem (Option Bool × Unit)).run P w = .ok (if r then none else some false, ()) w
  | [], r, h => by simp [eqFields] at h; subst h; simp
  | f :: fs, r, h => by
    simp only [eqFields] at h
    rw [List.forIn_cons]
    simp only [Sem.run_bind]
    by_cases hnm : f.name = "_"
    · rw [if_pos hnm] at h
      rw [if_neg (by simpa using hnm)]
      simp only [Sem.run_pure, Result.andThen_ok]
      exact fields_run hn ha hb fs r h
    · rw [if_neg hnm] at h
      rw [if_pos (by simpa using hnm)]
      obtain ⟨d, rfl⟩ := hn
      cases he : eqField (P.underlying f.type) xs[f.offset]? ys[f.offset]? with
      | none => rw [he] at h; cases h
      | some q =>
        rw [he] at h
        obtain ⟨x0, y0, hx0, hy0, hag, hq⟩ := eqField_run (P := P) (w := w) (F := F) (d := d) he
        obtain ⟨v, hv, hvr⟩ := (repL_iff.1 ha).2 _ _ hx0
        obtain ⟨u, hu, hur⟩ := (repL_iff.1 hb).2 _ _ hy0
        rw [Array.getElem?_toList] at hv hu
        simp only [Sem.run_bind, part_cell hag hv, part_cell hag hu, Result.andThen_ok, hq v u hvr hur]
        cases q with
        | true => simp only at h; simp only [Bool.not_true, Bool.false_eq_true, if_false, Sem.run_pure, Result.andThen_ok]; exact fields_run ⟨d, rfl⟩ ha hb fs r h
        | false => simp only at h; cases h; simp
theorem eqStruct_run {n : Nat} {t : TypeId} {fs : Array Field} {xs ys : List PV} {a b : Value} {r : Bool} {F : Nat → Prop} (hu : P.underlying t = some (.struct fs)) (h1 : P.stoodInHeld t = false) (h : eqFields P xs ys fs.toList = some r)
    (ha : rep F w (.agg xs) a) (hb : rep F w (.agg ys) b) : (Op.equalIn (n + 2) t a b).run P w = .ok r w := by
  simp only [rep] at ha hb
  obtain ⟨vs, rfl, ha⟩ := ha
  obtain ⟨us, rfl, hb⟩ := hb
  obtain ⟨m, hm⟩ : ∃ m, m = n + 1 := ⟨_, rfl⟩
  rw [show n + 2 = m + 1 by omega]
  simp only [Op.equalIn, Sem.run_bind, run_underlying hu, Result.andThen_ok, run_program, h1]
  simp only [Bool.false_eq_true, if_false, ← Array.forIn_toList, Sem.run_bind]
  rw [fields_run ⟨n, hm⟩ ha hb _ r h]
  cases r <;> simp
theorem equal_two (t : TypeId) (x y : Value) : ∃ n, Op.equal t x y = Op.equalIn (n + 2) t x y := ⟨9998, rfl⟩
theorem evEq_run {t : TypeId} {x y : AV} {a b : Value} {r : Bool} (h : evEq P t x y = some r) (hx : repA g w H x a) (hy : repA g w H y b) : (Op.equal t a b).run P w = .ok r w := by
  obtain ⟨n, hn⟩ := equal_two t a b
  rw [hn]
  by_cases hs : ∀ xs ys, ¬ (x = .p (.agg xs) ∧ y = .p (.agg ys))
  · exact evEq_run_d hs h hx hy
  · simp only [Classical.not_forall, Classical.not_not] at hs
    obtain ⟨xs, ys, rfl, rfl⟩ := hs
    unfold evEq at h
    split at h <;> first | (cases h; done) | skip
    all_goals (rename_i e1 e2; first | (simp at e1; done) | skip)
    rename_i fs xs' ys' hu
    cases e1; cases e2
    split at h
    · rename_i hc
      exact eqStruct_run hu hc.1 h hx hy
    · cases h
end Go.Ev
set_option linter.unusedVariables false
set_option linter.unusedSimpArgs false
namespace Go.Ev
open Go.RowKit
variable {P : Program} {g : G} {w : World} {H : List ABlk}

theorem eqGuard_run {op : BinOp} {t : TypeId} {xo yo : Operand} {a b : Value} (h1 : a ≠ .nilIface) (h2 : ∀ c, a = .agg c → P.eqGuardType P.depth t = false) : (eqGuard op t xo yo a b).run P w = .ok () w := by
  unfold eqGuard
  by_cases ho : op = .eql ∨ op = .neq
  · cases a <;> cases b <;> first
      | (exact absurd rfl h1)
      | (rcases ho with rfl | rfl <;> simp [h2 _ rfl]; done)
      | (rcases ho with rfl | rfl <;> rfl)
  · cases op <;> first | (simp at ho; done) | rfl
theorem binOp_eql (t : TypeId) (a b : Value) (h : ∀ k n k' n', ¬ (a = .int k n ∧ b = .int k' n')) (h2 : ∀ s u, ¬ (a = .string s ∧ b = .string u)) (h3 : ∀ k n k' n', ¬ (a = .float k n ∧ b = .float k' n')) (h4 : ∀ k n m k' n' m', ¬ (a = .complex k n m ∧ b = .complex k' n' m')) :
    binOp .eql t a b = (do pure (.bool (← Op.equal t a b))) ∧ binOp .neq t a b = (do pure (.bool (!(← Op.equal t a b)))) := by
  cases a <;> cases b <;> first
    | exact ⟨rfl, rfl⟩
    | exact absurd ⟨rfl, rfl⟩ (h _ _ _ _)
    | exact absurd ⟨rfl, rfl⟩ (h2 _ _)
    | exact absurd ⟨rfl, rfl⟩ (h3 _ _ _ _)
    | exact absurd ⟨rfl, rfl⟩ (h4 _ _ _ _ _ _)

/-- What 'evEq' compares is no interface, no number, no string. -/
theorem evEq_shape {t : TypeId} {x y : AV} {a b : Value} {r : Bool} (h : evEq P t x y = some r) (hx : repA g w H x a) (hy : repA g w H y b) :
    a ≠ .nilIface ∧ (∀ c, a = .agg c → P.eqGuardType P.depth t = false) ∧ (∀ k n, a ≠ .int k n) ∧ (∀ s, a ≠ .string s) ∧ (∀ k n, a ≠ .float k n) ∧ (∀ k n m, a ≠ .complex k n m) := by
  unfold evEq at h
  split at h
  case h_1 => simp only [repA, rep] at hx; subst hx; simp
  case h_2 => simp only [repA, rep] at hx; subst hx; simp
  case h_3 => simp only [repA, rep] at hx; subst hx; simp
  case h_4 => simp only [repA, rep] at hx; obtain ⟨A, rfl, _⟩ := hx; simp
  case h_5 => simp only [repA, rep] at hx; subst hx; simp
  case h_6 => simp only [repA, rep] at hx; obtain ⟨_, _, rfl, _⟩ := hx; simp
  case h_7 => simp only [repA, rep] at hx; obtain ⟨_, _, rfl, _⟩ := hx; simp
  case h_8 => simp only [repA, rep] at hx; obtain ⟨_, _, rfl, _⟩ := hx; simp
  case h_9 => simp only [repA, rep] at hx; obtain ⟨_, _, rfl, _⟩ := hx; simp
  case h_10 => simp only [repA, rep] at hx; obtain ⟨_, _, rfl, _⟩ := hx; simp
  case h_11 =>
    simp only [repA, rep] at hx; obtain ⟨_, rfl, _⟩ := hx
    split at h
    · rename_i hc; exact ⟨by simp, fun _ _ => hc.2, by simp, by simp, by simp, by simp⟩
    · cases h
  case h_12 => cases h

theorem evBin_run {op : BinOp} {t : TypeId} {x y z : AV} {a b : Value} (xo yo : Operand) (h : evBin P op t x y = some z) (hx : repA g w H x a) (hy : repA g w H y b) :
    ∃ v, (do eqGuard op t xo yo a b; binOp op t a b : Sem Value).run P w = .ok v w ∧ repA g w H z v := by
  unfold evBin at h
  split at h
  · rename_i k n k' n'
    simp only [repA, rep] at hx hy; subst hx hy
    simp only [Sem.run_bind, eqGuard_run (P := P) (w := w) (op := op) (t := t) (xo := xo) (yo := yo) (a := .int k n) (b := .int k' n') (by simp) (by simp), Result.andThen_ok]
    split at h
    · simp only [Option.map_eq_some_iff] at h; obtain ⟨q, hq, rfl⟩ := h
      simp only [repA]; exact ishift_run (.inl rfl) hq t _ w
    · simp only [Option.map_eq_some_iff] at h; obtain ⟨q, hq, rfl⟩ := h
      simp only [repA]; exact ishift_run (.inr rfl) hq t _ w
    · split at h
      · rename_i hk; subst hk
        simp only [Option.map_eq_some_iff] at h; obtain ⟨q, hq, rfl⟩ := h
        simp only [repA]; exact ibin_run hq t _ w
      · cases h
  · simp only [repA, rep] at hx hy
    obtain ⟨s, rfl, hs⟩ := hx
    obtain ⟨u, rfl, hu⟩ := hy
    simp only [Option.map_eq_some_iff] at h; obtain ⟨q, hq, rfl⟩ := h
    simp only [Sem.run_bind, eqGuard_run (P := P) (w := w) (op := op) (t := t) (xo := xo) (yo := yo) (a := .string s) (b := .string u) (by simp) (by simp), Result.andThen_ok]
    simp only [repA]; exact sbin_run hq t hs hu _ w
  · have key : ∀ r, evEq P t x y = some r → a ≠ .nilIface ∧ (∀ c, a = .agg c → P.eqGuardType P.depth t = false) ∧ binOp .eql t a b = (do pure (.bool (← Op.equal t a b))) ∧ binOp .neq t a b = (do pure (.bool (!(← Op.equal t a b)))) := by
      intro r hr
      obtain ⟨h1, h2, h3, h4, h5, h6⟩ := evEq_shape hr hx hy
      obtain ⟨k1, k2⟩ := binOp_eql t a b (fun k n k' n' h => h3 k n h.1) (fun s u h => h4 s h.1) (fun k n k' n' h => h5 k n h.1) (fun k n m k' n' m' h => h6 k n m h.1)
      exact ⟨h1, h2, k1, k2⟩
    split at h
    · simp only [Option.map_eq_some_iff] at h; obtain ⟨r, hr, rfl⟩ := h
      obtain ⟨h1, h2, k1, _⟩ := key r hr
      refine ⟨.bool r, ?_, by simp only [repA, rep]⟩
      simp only [Sem.run_bind, eqGuard_run (P := P) (w := w) (t := t) (xo := xo) (yo := yo) (b := b) h1 h2, Result.andThen_ok, k1, evEq_run hr hx hy, Sem.run_pure]
    · simp only [Option.map_eq_some_iff] at h; obtain ⟨r, hr, rfl⟩ := h
      obtain ⟨h1, h2, _, k2⟩ := key r hr
      refine ⟨.bool !r, ?_, by simp only [repA, rep]⟩
      simp only [Sem.run_bind, eqGuard_run (P := P) (w := w) (t := t) (xo := xo) (yo := yo) (b := b) h1 h2, Result.andThen_ok, k2, evEq_run hr hx hy, Sem.run_pure]
    · cases h

theorem evUn_run {op : UnOp} {x z : AV} {a : Value} (h : evUn op x = some z) (hx : repA g w H x a) : ∃ v, (Op.unary op a).run P w = .ok v w ∧ repA g w H z v := by
  unfold evUn at h
  split at h
  · simp only [repA, rep] at hx; subst hx
    simp only [ibin, Option.map_some, Option.some.injEq] at h; subst h
    exact ⟨_, rfl, by simp only [repA, rep]⟩
  · simp only [repA, rep] at hx; subst hx
    simp only [ibin, ibits, Option.map_some, Option.some.injEq] at h; subst h
    exact ⟨_, rfl, by simp only [repA, rep]⟩
  · simp only [repA, rep] at hx; subst hx
    cases h
    exact ⟨_, rfl, by simp only [repA, rep]⟩
  · cases h

/-! ### Slicing -/
def optR (g : G) (w : World) (H : List ABlk) (x : Option AV) (v : Option Value) : Prop := match x, v with
  | none, none => True
  | some x, some v => repA g w H x v
  | _, _ => False
theorem sliceBound_run {x : AV} {v : Value} {d y k y' : Nat} {code : BoundsCode} (h : bnd (some x) d y = some k) (hx : repA g w H x v) (hy : y ≤ y') :
    (Instr.sliceBound v y' code).run P w = .ok k w ∧ k ≤ y := by
  unfold bnd at h
  split at h
  · rename_i e; cases e
  · rename_i e; cases e
    simp only [repA, rep] at hx; subst hx
    split at h
    · rename_i hc
      cases h
      refine ⟨?_, by omega⟩
      simp only [Instr.sliceBound, asIntOf, Sem.run_bind, Sem.run_pure, Result.andThen_ok]
      rw [if_pos (by omega)]; rfl
    · cases h
  · cases h
theorem bounds_run {n cap : Nat} (hn : n ≤ cap) (isS : Bool) {lo hi : Option AV} {vl vh : Option Value} {a b : Nat} (h : bounds n lo hi = some (a, b)) (hl : optR g w H lo vl) (hh : optR g w H hi vh) :
    (Instr.sliceBounds isS n cap vl vh none).run P w = .ok (a, b, cap) w ∧ a ≤ b ∧ b ≤ n := by
  unfold bounds at h
  cases hb : bnd hi n n with
  | none => rw [hb] at h; cases h
  | some b0 =>
    rw [hb] at h
    simp only at h
    cases ha : bnd lo 0 b0 with
    | none => rw [ha] at h; cases h
    | some a0 =>
      rw [ha] at h; cases h
      have h2 : (match vh with | some v => Instr.sliceBound v cap (if isS then .sliceAcap else .sliceAlen) | none => (pure n : Sem Nat)).run P w = .ok b w ∧ b ≤ n := by
        cases hi with
        | none => cases vh with
          | none => simp only [bnd] at hb; cases hb; exact ⟨rfl, Nat.le_refl _⟩
          | some v => simp [optR] at hh
        | some x => cases vh with
          | none => simp [optR] at hh
          | some v => exact sliceBound_run hb hh hn
      have h3 : (match vl with | some v => Instr.sliceBound v b .sliceB | none => (pure 0 : Sem Nat)).run P w = .ok a w ∧ a ≤ b := by
        cases lo with
        | none => cases vl with
          | none => simp only [bnd] at ha; cases ha; exact ⟨rfl, Nat.zero_le _⟩
          | some v => simp [optR] at hl
        | some x => cases vl with
          | none => simp [optR] at hl
          | some v => exact sliceBound_run ha hl (Nat.le_refl _)
      refine ⟨?_, h3.2, h2.2⟩
      cases vh with
      | none =>
        simp only [Sem.run_pure, Result.ok.injEq, and_true] at h2
        cases vl with
        | none => simp only [Sem.run_pure, Result.ok.injEq, and_true] at h3; simp [Instr.sliceBounds, h2.1, h3.1]
        | some u => simp [Instr.sliceBounds, h2.1, h3.1]
      | some v =>
        cases vl with
        | none => simp only [Sem.run_pure, Result.ok.injEq, and_true] at h3; simp [Instr.sliceBounds, h2.1, h3.1]
        | some u => simp [Instr.sliceBounds, h2.1, h3.1]
theorem bounds3_run {n cap : Nat} (hn : n ≤ cap) {lo hi : Option AV} {vl vh : Option Value} {a b : Nat} {k : IntKind} {m : Int} (h : bounds n lo hi = some (a, b)) (hs : hi.isSome = true) (hm1 : (b : Int) ≤ m) (hm2 : m ≤ (n : Int)) (hl : optR g w H lo vl) (hh : optR g w H hi vh) :
    (Instr.sliceBounds true n cap vl vh (some (.int k m))).run P w = .ok (a, b, m.toNat) w ∧ a ≤ b ∧ b ≤ n := by
  unfold bounds at h
  cases hi with
  | none => simp at hs
  | some x =>
  cases vh with
  | none => simp [optR] at hh
  | some v =>
  cases hb : bnd (some x) n n with
  | none => rw [hb] at h; cases h
  | some b0 =>
    rw [hb] at h
    simp only at h
    cases ha : bnd lo 0 b0 with
    | none => rw [ha] at h; cases h
    | some a0 =>
      rw [ha] at h; cases h
      have hb' : bnd (some x) n m.toNat = some b := by
        unfold bnd at hb ⊢
        split at hb
        · rename_i e; cases e
        · rename_i e; cases e
          split at hb
          · cases hb; simp only; rw [if_pos (by omega)]
          · cases hb
        · cases hb
      have h2 := sliceBound_run (P := P) (code := .slice3B) hb' hh (Nat.le_refl m.toNat)
      have h1 : (Instr.sliceBound (.int k m) cap .slice3Acap).run P w = .ok m.toNat w := by
        simp only [Instr.sliceBound, asIntOf, Sem.run_bind, Sem.run_pure, Result.andThen_ok]
        rw [if_pos (by omega)]; rfl
      have h3 : (match vl with | some v => Instr.sliceBound v b .slice3C | none => (pure 0 : Sem Nat)).run P w = .ok a w ∧ a ≤ b := by
        cases lo with
        | none => cases vl with
          | none => simp only [bnd] at ha; cases ha; exact ⟨rfl, Nat.zero_le _⟩
          | some v => simp [optR] at hl
        | some x => cases vl with
          | none => simp [optR] at hl
          | some v => exact sliceBound_run ha hl (Nat.le_refl _)
      refine ⟨?_, h3.2, by omega⟩
      cases vl with
      | none => simp only [Sem.run_pure, Result.ok.injEq, and_true] at h3; simp [Instr.sliceBounds, h1, h2.1, h3.1]
      | some u => simp [Instr.sliceBounds, h1, h2.1, h3.1]
theorem repF_drop {F : Nat → Prop} {b off : Nat} {cs : List PV} (n : Nat) (h : repF F w b off cs) : repF F w b (off + n) (cs.drop n) := by
  rw [repF_iff] at h ⊢
  intro i x hx
  rw [List.getElem?_drop] at hx
  obtain ⟨u, hu, hr⟩ := h _ _ hx
  exact ⟨u, by rw [← hu]; congr 2; omega, hr⟩
theorem repF_take {F : Nat → Prop} {b off : Nat} {cs : List PV} (n : Nat) (h : repF F w b off cs) : repF F w b off (cs.take n) := by
  rw [repF_iff] at h ⊢
  intro i x hx
  rw [List.getElem?_take] at hx
  split at hx
  · exact h _ _ hx
  · cases hx
/-- A piece of a slice that nothing changes. -/
theorem rep_slice {F : Nat → Prop} {n : Nat} {cs : List PV} {size a b m cap : Nat} {A : Option Addr} {x' : Bool} (hlen : cs.length = n * size) (hab : a ≤ b) (hbn : b ≤ n) (hbm : b ≤ m) (hmc : m ≤ cap) (hA : A = none → cap = 0)
    (hx : x' = true → m - a = b - a) (hr : cs = [] ∨ ∃ bk off, A = some ⟨bk, off, none⟩ ∧ F bk ∧ repF F w bk off cs) :
    rep F w (.sl (b - a) x' ((cs.drop (a * size)).take ((b - a) * size))) (.slice (if m = a then A else A.map (·.add (a * size))) (b - a) (m - a)) := by
  simp only [rep]
  refine ⟨_, _, rfl, by omega, hx, fun hn => ?_, ?_⟩
  · split at hn
    · omega
    · have := hA (by simpa using hn); omega
  · rcases hr with rfl | ⟨bk, off, rfl, hb, hr⟩
    · left; simp
    · by_cases hm : m = a
      · left
        have : b - a = 0 := by omega
        rw [this]; simp
      · right
        rw [if_neg hm]
        exact ⟨bk, off + a * size, by simp [addr_add], hb, repF_take _ (repF_drop _ hr)⟩
theorem evSlice_run {t : TypeId} {x z : AV} {lo hi mx : Option AV} {v : Value} {vl vh vm : Option Value} (h : evSlice P t x lo hi mx = some z) (hx : repA g w H x v) (hl : optR g w H lo vl) (hh : optR g w H hi vh) (hm : optR g w H mx vm) :
    ∃ u, (Instr.sliceAt t v vl vh vm).run P w = .ok u w ∧ repA g w H z u := by
  unfold evSlice at h
  split at h
  case h_1 l hu =>
    split at h
    case h_1 a b hb =>
      cases h
      cases vm with
      | some _ => simp [optR] at hm
      | none =>
        simp only [repA, rep] at hx
        obtain ⟨s, rfl, rfl⟩ := hx
        have hsz : (s.data.toList.map UInt8.toNat).length = s.size := by rw [List.length_map, Array.length_toList]; rfl
        rw [hsz] at hb
        obtain ⟨h1, h2, h3⟩ := bounds_run (P := P) (Nat.le_refl s.size) false hb hl hh
        refine ⟨.string (s.extract a b), ?_, ?_⟩
        · simp [Instr.sliceAt, Instr.slice, run_underlying hu, h1]
        · simp only [repA, rep]
          refine ⟨_, rfl, ?_⟩
          simp only [ByteArray.data_extract, Array.toList_extract, List.extract_eq_take_drop, List.map_take, List.map_drop]
    case h_2 => cases h
  case h_2 e n xx cs hu =>
    simp only [repA, rep] at hx
    obtain ⟨A, cap, rfl, hc, hex, hA, hr⟩ := hx
    split at h
    case h_1 size a b hsz hb =>
      split at h
      · cases h
      · rename_i hs
        cases h
        cases vm with
        | some _ => simp [optR] at hm
        | none =>
          obtain ⟨h1, h2, h3⟩ := bounds_run (P := P) hc true hb hl hh
          refine ⟨_, by simp only [Instr.sliceAt, Instr.slice, Sem.run_bind, run_underlying hu, Result.andThen_ok, h1, sizeT_run hsz, Sem.run_pure]; rfl, ?_⟩
          simp only [repA]
          refine rep_slice (by omega) h2 h3 (by omega) (Nat.le_refl _) hA (fun he => ?_) hr
          simp only [Bool.and_eq_true, beq_iff_eq] at he
          have := hex he.1; omega
    case h_2 size k m a b hsz hb =>
      split at h
      · cases h
      · rename_i hs
        split at h
        · rename_i hmm
          cases h
          cases vm with
          | none => simp [optR] at hm
          | some u =>
            simp only [optR, repA, rep] at hm; subst hm
            obtain ⟨h1, h2, h3⟩ := bounds3_run (P := P) (k := k) hc hb hmm.1 hmm.2.1 hmm.2.2 hl hh
            refine ⟨_, by simp only [Instr.sliceAt, Instr.slice, Sem.run_bind, run_underlying hu, Result.andThen_ok, h1, sizeT_run hsz, Sem.run_pure]; rfl, ?_⟩
            simp only [repA]
            refine rep_slice (by omega) h2 h3 (by omega) (by omega) hA (fun he => ?_) hr
            simp only [decide_eq_true_eq] at he
            omega
        · cases h
    case h_3 => cases h
  case h_3 e id ver off n sz hu =>
    simp only [repA] at hx
    obtain ⟨A, cap, rfl, hc, B, hB, hv, hr⟩ := hx
    split at h
    case h_1 size a b hsz hb =>
      split at h
      · rename_i hs
        subst hs
        cases h
        cases vm with
        | some _ => simp [optR] at hm
        | none =>
          obtain ⟨h1, h2, h3⟩ := bounds_run (P := P) hc true hb hl hh
          refine ⟨_, by simp only [Instr.sliceAt, Instr.slice, Sem.run_bind, run_underlying hu, Result.andThen_ok, h1, sizeT_run hsz, Sem.run_pure]; rfl, ?_⟩
          simp only [repA]
          refine ⟨if cap = a then A else A.add (a * size), cap - a, by split <;> rfl, by omega, B, hB, hv, fun he => ?_⟩
          obtain ⟨k1, c, e', fr, k2, k3⟩ := hr he
          by_cases hca : cap = a
          · refine ⟨.inl (by omega), c, e', fr, k2, ?_⟩
            have : cap - a = 0 := by omega
            rw [this]; subst hca; omega
          · rw [if_neg hca]
            refine ⟨?_, c, e', fr, k2, ?_⟩
            · rcases k1 with k1 | k1
              · omega
              · right; rw [k1, addr_add]
            · have : off + a * size + (cap - a) * size = off + cap * size := by
                rw [Nat.add_assoc, ← Nat.add_mul]; congr 2; omega
              omega
      · cases h
    case h_2 size k m a b hsz hb =>
      split at h
      · rename_i hs
        obtain ⟨hs, hsome, hm1, hm2⟩ := hs
        subst hs
        cases h
        cases vm with
        | none => simp [optR] at hm
        | some u =>
          simp only [optR, repA, rep] at hm; subst hm
          obtain ⟨h1, h2, h3⟩ := bounds3_run (P := P) (k := k) hc hb hsome hm1 hm2 hl hh
          refine ⟨_, by simp only [Instr.sliceAt, Instr.slice, Sem.run_bind, run_underlying hu, Result.andThen_ok, h1, sizeT_run hsz, Sem.run_pure]; rfl, ?_⟩
          simp only [repA]
          refine ⟨if m.toNat = a then A else A.add (a * size), m.toNat - a, by split <;> rfl, by omega, B, hB, hv, fun he => ?_⟩
          obtain ⟨k1, c, e', fr, k2, k3⟩ := hr he
          by_cases hca : m.toNat = a
          · refine ⟨.inl (by omega), c, e', fr, k2, ?_⟩
            have e0 : m.toNat - a = 0 := by omega
            have : a * size ≤ cap * size := Nat.mul_le_mul_right _ (by omega)
            rw [e0]; omega
          · rw [if_neg hca]
            refine ⟨?_, c, e', fr, k2, ?_⟩
            · rcases k1 with k1 | k1
              · omega
              · right; rw [k1, addr_add]
            · have e1 : off + a * size + (m.toNat - a) * size = off + m.toNat * size := by
                rw [Nat.add_assoc, ← Nat.add_mul]; congr 2; omega
              have : m.toNat * size ≤ cap * size := Nat.mul_le_mul_right _ (by omega)
              omega
      · cases h
    case h_3 => cases h
  case h_4 => cases h
end Go.Ev
set_option linter.unusedVariables false
set_option linter.unusedSimpArgs false
namespace Go.Ev
open Go.RowKit
variable {P : Program} {g : G} {w : World} {H : List ABlk}

theorem repLA_size {cs : List AV} {a : Array Value} (h : repLA g w H cs a.toList) : cs.length = a.size := (repLA_length h).trans (Array.length_toList)
theorem repLA_whole {cs : List AV} {a : Array Value} (h : repLA g w H cs a.toList) : repLA g w H cs (a.toList.take cs.length) := by
  rw [List.take_of_length_le (by rw [repLA_length h]; exact Nat.le_refl _)]; exact h
/-! ### Reading -/
theorem cell_of {b o : Nat} {c : Array Value} {e : TypeId} {fr : Nat × Nat} (h : w.heap[b]? = some (.cells c e fr)) : w.cell? ⟨b, o, none⟩ = c[o]? := by
  simp [World.cell?, h]
theorem load_list (b o : Nat) (vs : List Value) (h : ∀ j v, vs[j]? = some v → w.cell? ⟨b, o + j, none⟩ = some v) : (loadCells ⟨b, o, none⟩ vs.length).run P w = .ok vs.toArray w :=
  run_loadCells_list w ⟨b, o, none⟩ vs fun j v hv => by rw [addr_add]; exact h j v hv
theorem blkRead_run {id ver off n : Nat} {cs : List AV} (hi : Inv g w H) (h : blkRead H id ver off n = some cs) :
    ∃ B, H[id]? = some B ∧ B.ver = ver ∧ cs.length = n ∧ ∃ vs : List Value, vs.length = n ∧ repLA g w H cs vs ∧ cs.all AV.isCell = true ∧ ∀ j v, vs[j]? = some v → w.cell? ⟨g.φ id, off + j, none⟩ = some v := by
  unfold blkRead at h
  cases hB : H[id]? with
  | none => rw [hB] at h; cases h
  | some B =>
    rw [hB] at h
    simp only at h
    split at h
    · rename_i hc
      cases h
      obtain ⟨c, e, fr, h1, h2, h3, h4, h5, h6⟩ := hi.blk id B hB
      have hlen : ((B.cells.drop off).take n).length = n := by rw [List.length_take, List.length_drop]; omega
      refine ⟨B, rfl, hc.1, hlen, (((c.toList.take B.cells.length).drop off).take n), ?_, repLA_take n (repLA_drop off h4), ?_, fun j v hv => ?_⟩
      · rw [← repLA_length (repLA_take n (repLA_drop off h4)), hlen]
      · rw [List.all_eq_true] at h5 ⊢
        intro x hx
        exact h5 x (List.mem_of_mem_drop (List.mem_of_mem_take hx))
      · rw [cell_of h1, ← Array.getElem?_toList]
        rw [List.getElem?_take] at hv
        split at hv
        · rw [List.getElem?_drop, List.getElem?_take] at hv
          split at hv
          · exact hv
          · cases hv
        · cases hv
    · cases h
theorem repF_vals {F : Nat → Prop} {b off : Nat} : ∀ {cs : List PV}, repF F w b off cs → ∃ vs : List Value, repL F w cs vs ∧ ∀ j v, vs[j]? = some v → w.cell? ⟨b, off + j, none⟩ = some v
  | [], _ => ⟨[], by simp [repL], by simp⟩
  | x :: xs, h => by
    simp only [repF] at h
    obtain ⟨⟨u, hu, hr⟩, h2⟩ := h
    obtain ⟨vs, h3, h4⟩ := repF_vals h2
    refine ⟨u :: vs, by simp only [repL]; exact ⟨hr, h3⟩, fun j v hv => ?_⟩
    cases j with
    | zero => simp at hv; subst hv; exact hu
    | succ j => simp at hv; rw [← h4 j v hv]; congr 2; omega
theorem evLoad_run {t : TypeId} {x z : AV} {a : Value} (hi : Inv g w H) (h : evLoad P t x H = some z) (hx : repA g w H x a) : ∃ v, (Instr.loadAt t a).run P w = .ok v w ∧ repA g w H z v := by
  unfold evLoad at h
  split at h
  case h_1 id ver off n h1 h2 =>
    simp only [repA] at hx
    obtain ⟨A, rfl, B, hB, hv, hA⟩ := hx
    split at h
    · rename_i cs hr
      cases h
      obtain ⟨B', hB', hver, hl, vs, hvl, hrep, _, hcell⟩ := blkRead_run hi hr
      rw [hB] at hB'; cases hB'
      have := hA hver; subst this
      refine ⟨.agg vs.toArray, ?_, mkAgg_rep hrep⟩
      have := load_list (P := P) (g.φ id) off vs hcell
      rw [hvl] at this
      simp only [Instr.loadAt, Instr.sureAddr, loadVar, Sem.run_bind, Sem.run_pure, Result.andThen_ok, aggT_run h2, sizeT_run h1, Sem.run_ite, if_true, this]
    · cases h
  case h_2 id ver off n h1 h2 =>
    simp only [repA] at hx
    obtain ⟨A, rfl, B, hB, hv, hA⟩ := hx
    split at h
    · rename_i c hr
      cases h
      obtain ⟨B', hB', hver, hl, vs, hvl, hrep, _, hcell⟩ := blkRead_run hi hr
      rw [hB] at hB'; cases hB'
      have := hA hver; subst this
      match vs, hvl, hrep, hcell with
      | [v], _, hrep, hcell =>
        simp only [repLA, and_true] at hrep
        refine ⟨v, ?_, hrep⟩
        have := hcell 0 v (by simp)
        simp only [Instr.loadAt, Instr.sureAddr, loadVar, Sem.run_bind, Sem.run_pure, Result.andThen_ok, aggT_run h2, Sem.run_ite, Bool.false_eq_true, if_false, run_load, Nat.add_zero] at this ⊢
        rw [this]
    · cases h
  case h_3 cs n h1 h2 =>
    simp only [repA] at hx
    obtain ⟨b, off, rfl, hb, hr⟩ := hx
    split at h
    · rename_i hn
      cases h
      obtain ⟨vs, hrep, hcell⟩ := repF_vals (repF_take n hr)
      refine ⟨.agg vs.toArray, ?_, by simp only [repA, rep]; exact ⟨_, rfl, by simpa using hrep⟩⟩
      have := load_list (P := P) b off vs hcell
      have hl := repL_length hrep
      rw [List.length_take] at hl
      rw [show vs.length = n by omega] at this
      simp only [Instr.loadAt, Instr.sureAddr, loadVar, Sem.run_bind, Sem.run_pure, Result.andThen_ok, aggT_run h2, sizeT_run h1, Sem.run_ite, if_true, this]
    · cases h
  case h_4 c cs n h1 h2 =>
    simp only [repA] at hx
    obtain ⟨b, off, rfl, hb, hr⟩ := hx
    cases h
    simp only [repF] at hr
    obtain ⟨⟨u, hu, hru⟩, _⟩ := hr
    refine ⟨u, ?_, by simp only [repA]; exact hru⟩
    simp only [Instr.loadAt, Instr.sureAddr, loadVar, Sem.run_bind, Sem.run_pure, Result.andThen_ok, aggT_run h2, Sem.run_ite, Bool.false_eq_true, if_false, run_load, hu]
  case h_5 => cases h

/-! ### Writing -/
def setV (l : List Value) (off : Nat) : List Value → List Value
  | [] => l
  | v :: vs => setV (l.set off v) (off + 1) vs
theorem setV_length (vs : List Value) : ∀ l off, (setV l off vs).length = l.length := by
  induction vs with
  | nil => intro l off; rfl
  | cons v vs ih => intro l off; simp [setV, ih]
theorem setV_take (n : Nat) (vs : List Value) : ∀ l off, (setV l off vs).take n = setV (l.take n) off vs := by
  induction vs with
  | nil => intro l off; rfl
  | cons v vs ih => intro l off; simp only [setV, ih, List.take_set]
theorem repLA_setAt {cs : List AV} : ∀ {us : List Value} {xs : List AV} {vs : List Value} {off : Nat}, repLA g w H cs us → repLA g w H xs vs → repLA g w H (setAt xs off cs) (setV vs off us) := by
  induction cs with
  | nil => intro us xs vs off h1 h2; cases us with
    | nil => exact h2
    | cons => simp [repLA] at h1
  | cons c cs ih => intro us xs vs off h1 h2; cases us with
    | nil => simp [repLA] at h1
    | cons u us => simp only [repLA] at h1; simp only [setAt, setV]; exact ih h1.2 (repLA_set h1.1 off h2)
theorem setAt_length (cs : List AV) : ∀ xs off, (setAt xs off cs).length = xs.length := by
  induction cs with
  | nil => intro xs off; rfl
  | cons c cs ih => intro xs off; simp [setAt, ih]
theorem setAt_all (cs : List AV) : ∀ xs off, cs.all AV.isCell = true → xs.all AV.isCell = true → (setAt xs off cs).all AV.isCell = true := by
  induction cs with
  | nil => intro xs off _ h; exact h
  | cons c cs ih =>
    intro xs off h1 h2
    simp only [List.all_cons, Bool.and_eq_true] at h1
    refine ih _ _ h1.2 ?_
    rw [List.all_eq_true] at h2 ⊢
    intro x hx
    rcases List.mem_or_eq_of_mem_set hx with h | h
    · exact h2 x h
    · rw [h]; exact h1.1
theorem putB_self {b : Nat} {o : Obj} (h : w.heap[b]? = some o) : putB w b o = w := by
  have : w.heap.setIfInBounds b o = w.heap := by
    apply Array.ext_getElem?
    intro i
    rw [Array.getElem?_setIfInBounds]
    split
    · rename_i he; subst he; rw [h]; simp [lt_of_aget h]
    · rfl
  simp [putB, this]
theorem putB_putB (b : Nat) (o o' : Obj) : putB (putB w b o) b o' = putB w b o' := by
  simp [putB]
theorem setCell_put {b o : Nat} {c : Array Value} {e : TypeId} {fr : Nat × Nat} (v : Value) (h : w.heap[b]? = some (.cells c e fr)) : w.setCell ⟨b, o, none⟩ v = putB w b (.cells (c.setIfInBounds o v) e fr) := by
  simp only [World.setCell, putB]
  congr 1
  apply Array.ext_getElem?
  intro i
  rw [Array.getElem?_modify, Array.getElem?_setIfInBounds]
  by_cases hi : b = i
  · subst hi; rw [h]; simp [lt_of_aget h]
  · simp [hi]
theorem storeCells_run (b o : Nat) (e : TypeId) (fr : Nat × Nat) : ∀ (vs : List Value) (i : Nat) (cur : Array Value) (w : World), w.heap[b]? = some (.cells cur e fr) → (∀ j, j < cur.size → ¬ (fr.1 ≤ j ∧ j < fr.2)) → o + i + vs.length ≤ cur.size → (∀ v ∈ vs, v.oneCell' = true) →
    (storeCells ⟨b, o, none⟩ vs i).run P w = .ok () (putB w b (.cells (setV cur.toList (o + i) vs).toArray e fr))
  | [], i, cur, w, h, _, _, _ => by simp only [storeCells, setV]; rw [putB_self (by simpa using h)]; rfl
  | v :: vs, i, cur, w, h, hf, hl, h1 => by
    simp only [List.length_cons] at hl
    have hc : w.cell? ⟨b, o + i, none⟩ = some cur[o + i] := by rw [cell_of h]; exact Array.getElem?_eq_getElem (by omega)
    have hfr : w.frozen? ⟨b, o + i, none⟩ = false := by
      simp only [World.frozen?, h]
      have := hf (o + i) (by omega)
      simpa using this
    simp only [storeCells, Sem.run_bind, addr_add, run_store P w _ v _ (h1 v (by simp)), hc, hfr, Bool.false_eq_true, if_false, Result.andThen_ok]
    rw [setCell_put v h]
    rw [storeCells_run b o e fr vs (i + 1) (cur.setIfInBounds (o + i) v) _ (by rw [putB_get, if_pos rfl, if_pos (lt_of_aget h)]) (fun j hj => hf j (by simpa using hj)) (by simp; omega) (fun u hu => h1 u (by simp [hu]))]
    rw [putB_putB]
    simp only [setV, Array.toList_setIfInBounds]
    rw [show o + (i + 1) = o + i + 1 by omega]
/-- What a store into a block of the call's own does. -/
theorem write_run {id : Nat} {B : ABlk} {off : Nat} {cs : List AV} {us : List Value} (hi : Inv g w H) (hB : H[id]? = some B) (hf : B.fz = false) (hr : repLA g w H cs us) (hc : cs.all AV.isCell = true) (hl : off + cs.length ≤ B.cells.length) :
    ∃ w', (storeCells ⟨g.φ id, off, none⟩ us).run P w = .ok () w' ∧ Inv g w' (H.set id { B with cells := setAt B.cells off cs }) ∧ Ext g w H g w' (H.set id { B with cells := setAt B.cells off cs }) := by
  obtain ⟨c, e, fr, h1, h2, h3, h4, h5, h6⟩ := hi.blk id B hB
  have hlen := repLA_length hr
  refine ⟨_, storeCells_run (g.φ id) off e fr us 0 c w h1 h2 (by omega) (all_one hr hc), ?_, ?_⟩
  · have hsz : (setV c.toList (off + 0) us).toArray.size = c.size := by simp [setV_length]
    have : B.fz = false := hf
    have hbe : ({ B with cells := setAt B.cells off cs } : ABlk) = ⟨B.ver, false, setAt B.cells off cs⟩ := by rw [← hf]
    rw [hbe]
    refine put_inv hi hB hf h1 _ hsz B.ver (setAt B.cells off cs) (Nat.le_refl _) (by rw [setAt_length, hsz]; exact h3) ?_ (setAt_all _ _ _ hc h5)
    rw [setAt_length]
    show repLA g w H _ ((setV c.toList (off + 0) us).take _)
    rw [setV_take]
    exact repLA_setAt hr h4
  · exact put_ext hi hB hf h1 _ (by simp [setV_length]) _ (Nat.le_refl _)
theorem evStore_run {t : TypeId} {x y : AV} {a v : Value} {H' : List ABlk} (hi : Inv g w H) (h : evStore P t x y H = some H') (hx : repA g w H x a) (hy : repA g w H y v) :
    ∃ w', (Instr.storeAt t a v).run P w = .ok () w' ∧ Inv g w' H' ∧ Ext g w H g w' H' := by
  unfold evStore at h
  split at h
  case h_1 id ver off n cs h1 h2 =>
    simp only [repA] at hx
    obtain ⟨A, rfl, B0, hB0, hv, hA⟩ := hx
    rw [hB0] at h
    simp only at h
    split at h
    · rename_i hc
      cases h
      have := hA hc.1; subst this
      obtain ⟨hr, hcell⟩ := cellsOf_rep hy h2
      obtain ⟨w', hw, hinv, hext⟩ := write_run (P := P) hi hB0 hc.2.1 hr hcell (by rw [hc.2.2.1]; exact hc.2.2.2)
      refine ⟨w', ?_, hinv, hext⟩
      have hl := repLA_size hr
      simp only [Instr.storeAt, Instr.sureAddr, storeVar, Sem.run_bind, Sem.run_pure, Result.andThen_ok, sizeT_run h1]
      rw [if_neg (by omega)]
      exact hw
    · cases h
  case h_2 => cases h

/-! ### A new block -/
theorem newRow_run {e : TypeId} {c : Array Value} {cs : List AV} (hi : Inv g w H) (hl : cs.length ≤ c.size) (hr : repLA g w H cs (c.toList.take cs.length)) (hc : cs.all AV.isCell = true) :
    (newRow e c).run P w = .ok ⟨w.heap.size, 0, none⟩ (pushB w (.cells c e)) ∧ Inv (gNew g H.length w.heap.size) (pushB w (.cells c e)) (H ++ [⟨0, false, cs⟩]) ∧ Ext g w H (gNew g H.length w.heap.size) (pushB w (.cells c e)) (H ++ [⟨0, false, cs⟩]) :=
  ⟨by simp [newRow, pushB], new_inv hi c e (0, 0) (by intro j _; simp) 0 cs hl hr hc, new_ext hi _ _⟩
theorem pt_new {B : ABlk} (hv : B.ver = 0) : repA (gNew g H.length w.heap.size) (pushB w (.cells #[] 0)) (H ++ [B]) (.pt H.length 0 0) (.pointer (some ⟨w.heap.size, 0, none⟩)) := by
  simp only [repA]
  exact ⟨_, rfl, B, by simp, by omega, fun _ => by simp [gNew]⟩
theorem evBox_run {e : TypeId} {x : AV} {v : Value} {cs : List AV} (hi : Inv g w H) (hx : repA g w H x v) (hc : cellsOf x = some cs) :
    ∃ u w' g', (Instr.box e v).run P w = .ok u w' ∧ Inv g' w' (H ++ [⟨0, false, cs⟩]) ∧ Ext g w H g' w' (H ++ [⟨0, false, cs⟩]) ∧ repA g' w' (H ++ [⟨0, false, cs⟩]) (.pt H.length 0 0) u := by
  obtain ⟨hr, hcell⟩ := cellsOf_rep hx hc
  have hl := repLA_size hr
  obtain ⟨h1, h2, h3⟩ := newRow_run (P := P) (e := e) (c := v.cells) (cs := cs) hi (by omega) (repLA_whole hr) hcell
  refine ⟨_, _, _, by simp only [Instr.box, newVar, Sem.run_bind, h1, Result.andThen_ok, Sem.run_pure]; rfl, h2, h3, ?_⟩
  simp only [repA]
  exact ⟨_, rfl, _, by simp; rfl, by simp, fun _ => by simp [gNew]⟩
theorem evAlloc_run {e : TypeId} {cs : List AV} (hi : Inv g w H) (hz : zeroT P e = some cs) :
    ∃ u w' g', (Instr.alloc e true (.tuple #[])).run P w = .ok u w' ∧ Inv g' w' (H ++ [⟨0, false, cs⟩]) ∧ Ext g w H g' w' (H ++ [⟨0, false, cs⟩]) ∧ repA g' w' (H ++ [⟨0, false, cs⟩]) (.pt H.length 0 0) u := by
  obtain ⟨z, hz1, hr, hcell⟩ := zeroT_run hz g w H
  have hl := repLA_size hr
  obtain ⟨h1, h2, h3⟩ := newRow_run (P := P) (e := e) (c := z.cells) (cs := cs) hi (by omega) (repLA_whole hr) hcell
  refine ⟨_, _, _, by simp only [Instr.alloc, newVar, Sem.run_bind, hz1, h1, Result.andThen_ok, Sem.run_pure]; rfl, h2, h3, ?_⟩
  simp only [repA]
  exact ⟨_, rfl, _, by simp; rfl, by simp, fun _ => by simp [gNew]⟩
end Go.Ev
set_option linter.unusedVariables false
set_option linter.unusedSimpArgs false
namespace Go.Ev
open Go.RowKit
variable {P : Program} {g : G} {w : World} {H : List ABlk}

/-! ### Structs, arrays, slices that are written out -/
def repPs (g : G) (w : World) (H : List ABlk) : List (Nat × AV) → List (Nat × Value) → Prop
  | [], [] => True
  | (i, x) :: xs, (j, v) :: vs => i = j ∧ repA g w H x v ∧ repPs g w H xs vs
  | _, _ => False
theorem foldl_set (cs : List Value) : ∀ (cells : Array Value) (off j0 : Nat), ((cs.zipIdx j0).foldl (fun (a : Array Value) (q : Value × Nat) => a.setIfInBounds (off + q.2) q.1) cells) = (setV cells.toList (off + j0) cs).toArray := by
  induction cs with
  | nil => intro cells off j0; simp [setV]
  | cons c cs ih =>
    intro cells off j0
    simp only [List.zipIdx_cons, List.foldl_cons, setV]
    rw [ih]
    simp only [Array.toList_setIfInBounds]
    rw [show off + (j0 + 1) = off + j0 + 1 by omega]
theorem afill_run {place : Nat → Option (Nat × Nat)} : ∀ {ps : List (Nat × AV)} {qs : List (Nat × Value)} {cells : List AV} {vs : Array Value} {out : List AV}, afill place cells ps = some out → repPs g w H ps qs → repLA g w H cells vs.toList → cells.all AV.isCell = true →
    ∃ us : Array Value, Instr.fill place vs qs = some us ∧ repLA g w H out us.toList ∧ out.all AV.isCell = true ∧ out.length = cells.length
  | [], [], cells, vs, out, h, _, hr, hc => by simp only [afill] at h; cases h; exact ⟨vs, rfl, hr, hc, rfl⟩
  | (i, x) :: ps, (j, v) :: qs, cells, vs, out, h, hp, hr, hc => by
    simp only [repPs] at hp
    obtain ⟨rfl, hx, hp⟩ := hp
    simp only [afill] at h
    cases hpl : place i with
    | none => rw [hpl] at h; cases h
    | some q =>
      obtain ⟨off, size⟩ := q
      rw [hpl] at h
      simp only at h
      cases hcs : cellsOf x with
      | none => rw [hcs] at h; cases h
      | some cs =>
        rw [hcs] at h
        simp only at h
        split at h
        · cases h
        · rename_i hn
          obtain ⟨h1, h2⟩ := cellsOf_rep hx hcs
          have hl := repLA_size h1
          have hl2 := repLA_size hr
          obtain ⟨us, k1, k2, k3, k4⟩ := afill_run (vs := (setV vs.toList off v.cells.toList).toArray) h hp (by simpa using repLA_setAt h1 hr) (setAt_all _ _ _ h2 hc)
          refine ⟨us, ?_, k2, k3, by rw [k4, setAt_length]⟩
          simp only [Instr.fill, hpl]
          have hz : (v.cells.zipIdx.foldl (fun (a : Array Value) (q : Value × Nat) => a.setIfInBounds (off + q.2) q.1) vs) = (setV vs.toList off v.cells.toList).toArray := by
            rw [← Array.foldl_toList, Array.toList_zipIdx, foldl_set]
            simp
          have hc1 : ¬ ((v.cells.size ≠ size || decide (off + v.cells.size > vs.size)) = true) := by
            simp only [Bool.or_eq_true, decide_eq_true_eq]
            omega
          rw [if_neg hc1, ← k1]
          congr 1
  | [], _ :: _, _, _, _, _, hp, _, _ => by simp [repPs] at hp
  | _ :: _, [], _, _, _, _, hp, _, _ => by simp [repPs] at hp
theorem parts_rep {ρ : Env} {e : Operand → Value} (hρ : ∀ o x, ρ o = some x → repA g w H x (e o)) {ps : Array (Nat × Operand)} {qs : List (Nat × AV)} (h : parts ρ ps = some qs) : repPs g w H qs (ps.map fun (i, x) => (i, e x)).toList := by
  unfold parts at h
  rw [Array.toList_map]
  generalize ps.toList = l at h
  induction l generalizing qs with
  | nil => simp [mapO] at h; subst h; simp [repPs]
  | cons q l ih =>
    obtain ⟨i, o⟩ := q
    simp only [mapO] at h
    cases ho : ρ o with
    | none => rw [ho] at h; cases h
    | some x =>
      rw [ho] at h
      simp only at h
      split at h
      · cases h
      · rename_i ys hys
        cases h
        simp only [List.map_cons, repPs]
        exact ⟨trivial, hρ o x ho, ih hys⟩
theorem places_run {fs : List Field} {places : List (Nat × Nat)} (h : mapO (fun f : Field => (sizeT P f.type).map fun s => (f.offset, s)) fs = some places) :
    (fs.mapM fun f => (do pure (f.offset, ← sizeOf f.type) : Sem (Nat × Nat))).run P w = .ok places w := by
  induction fs generalizing places with
  | nil => simp [mapO] at h; subst h; simp
  | cons f fs ih =>
    simp only [mapO] at h
    cases hs : sizeT P f.type with
    | none => rw [hs] at h; simp at h
    | some s =>
      rw [hs] at h
      simp only [Option.map_some] at h
      split at h
      · cases h
      · rename_i ys hys
        cases h
        simp only [List.mapM_cons, Sem.run_bind, sizeT_run hs, Result.andThen_ok, Sem.run_pure, ih hys]
theorem evBuild_run {t : TypeId} {ps : List (Nat × AV)} {qs : Array (Nat × Value)} {z : AV} (h : evBuild P t ps = some z) (hp : repPs g w H ps qs.toList) : ∃ v, (Instr.build t qs).run P w = .ok v w ∧ repA g w H z v := by
  unfold evBuild at h
  split at h
  case h_1 zs fs h1 h2 =>
    obtain ⟨zv, hz, hzr, hzc⟩ := zeroT_run h1 g w H
    split at h
    · cases h
    · rename_i places hpl
      split at h
      · rename_i cs hf
        cases h
        obtain ⟨us, k1, k2, k3, k4⟩ := afill_run hf hp hzr hzc
        have hpr : (fs.mapM fun f => (do pure (f.offset, ← sizeOf f.type) : Sem (Nat × Nat))).run P w = .ok places.toArray w := by
          rw [Array.mapM_eq_mapM_toList]
          simp only [Sem.run_map, places_run hpl, Result.andThen_ok]
        refine ⟨.agg us, ?_, by simpa using mkAgg_rep k2⟩
        simp only [Instr.build, Sem.run_bind, hz, Result.andThen_ok, run_underlying h2, hpr]
        have : (fun x => places.toArray[x]?) = fun (i : Nat) => places[i]? := by funext i; simp
        rw [this, k1]
        rfl
      · cases h
  case h_2 zs n e h1 h2 =>
    obtain ⟨zv, hz, hzr, hzc⟩ := zeroT_run h1 g w H
    split at h
    · cases h
    · rename_i s hs
      split at h
      · rename_i cs hf
        cases h
        obtain ⟨us, k1, k2, k3, k4⟩ := afill_run hf hp hzr hzc
        refine ⟨.agg us, ?_, by simpa using mkAgg_rep k2⟩
        simp only [Instr.build, Sem.run_bind, hz, Result.andThen_ok, run_underlying h2, sizeT_run hs, k1, Sem.run_pure]
      · cases h
  case h_3 => cases h
theorem flat_get {α : Type} (z : List α) (n i : Nat) : (List.replicate n z).flatten[i]? = if i < n * z.length then z[i % z.length]? else none := by
  induction n generalizing i with
  | zero => simp
  | succ n ih =>
    rw [List.replicate_succ, List.flatten_cons]
    by_cases h : i < z.length
    · rw [List.getElem?_append_left h, Nat.mod_eq_of_lt h, if_pos (by rw [Nat.add_mul]; omega)]
    · have hi : i - z.length < n * z.length ↔ i < (n + 1) * z.length := by rw [Nat.add_mul]; omega
      rw [List.getElem?_append_right (by omega), ih]
      by_cases h2 : i - z.length < n * z.length
      · rw [if_pos h2, if_pos (hi.1 h2)]
        congr 1
        rw [show i = (i - z.length) + z.length by omega, Nat.add_mod_right]
        congr 1; omega
      · rw [if_neg h2, if_neg (fun h => h2 (hi.2 h))]
theorem zeros_rep {z : List AV} {zv : Array Value} {n m : Nat} (hr : repLA g w H z zv.toList) (hm : m = n * z.length) : repLA g w H (List.replicate n z).flatten ((Array.range m).map (fun i => zv[i % zv.size]!)).toList := by
  have hl := repLA_size hr
  rw [repLA_iff]
  refine ⟨by simp [hm, List.length_flatten], fun i x hx => ?_⟩
  rw [flat_get] at hx
  split at hx
  · rename_i hi
    obtain ⟨v, hv, hx⟩ := (repLA_iff.1 hr).2 _ _ hx
    refine ⟨v, ?_, hx⟩
    rw [Array.getElem?_toList] at hv
    rw [Array.getElem?_toList, Array.getElem?_map, Array.getElem?_range]
    rw [← hm] at hi
    simp only [hi, if_true, Option.map_some]
    rw [hl] at hv
    rw [getElem!_def, hv]
  · cases hx
theorem zeros_all {z : List AV} (h : z.all AV.isCell = true) (n : Nat) : (List.replicate n z).flatten.all AV.isCell = true := by
  rw [List.all_eq_true] at h ⊢
  intro x hx
  rw [List.mem_flatten] at hx
  obtain ⟨l, hl, hx⟩ := hx
  rw [List.mem_replicate] at hl
  rw [hl.2] at hx
  exact h x hx
theorem range0 : Array.range 0 = #[] := by simp [Array.range]
/-- A row of cells as a slice that nothing changes: a new block that is marked at once. -/
theorem newFrozen {e : TypeId} {c : Array Value} {fr : Nat × Nat} {xs : List PV} (hi : Inv g w H) (hl : xs.length ≤ c.size) (hr : repLA g w H (xs.map .p) (c.toList.take xs.length)) :
    ∃ g', Inv g' (pushB w (.cells c e fr)) H ∧ Ext g w H g' (pushB w (.cells c e fr)) H ∧ g'.F w.heap.size ∧ repF g'.F (pushB w (.cells c e fr)) w.heap.size 0 xs := by
  have hlt : ∀ (id : Nat) (B : ABlk), H[id]? = some B → g.φ id < w.heap.size := fun id B hB => by
    obtain ⟨c, e, fr, h1, _⟩ := hi.blk id B hB
    exact lt_of_aget h1
  have hx : Ext g w H ⟨fun b => g.F b ∨ b = w.heap.size, g.φ⟩ (pushB w (.cells c e fr)) H := by
    refine ⟨fun b h => .inl h, fun b h => ?_, fun id B hB => ⟨B, hB, Nat.le_refl _, fun _ => ⟨rfl, fun c2 e2 fr2 hc2 => ⟨c2, fr2, ?_, rfl⟩⟩⟩, fun b h1 h2 h3 => ?_, by rw [pushB_size]; omega, rfl, rfl, rfl, fun b h => ?_, fun b h => .inl h⟩
    · have := hi.F b h; rw [pushB_get, if_neg (by omega)]
    · have := lt_of_aget hc2; rw [pushB_get, if_neg (by omega)]; exact hc2
    · rw [pushB_get, if_neg (by omega)]
    · rcases h with h | h
      · exact .inl h
      · exact .inr (.inl (by omega))
  refine ⟨⟨fun b => g.F b ∨ b = w.heap.size, g.φ⟩, ⟨fun b h => ?_, fun id B hB => ?_, hi.inj⟩, hx, .inr rfl, ?_⟩
  · rw [pushB_size]
    rcases h with h | h
    · have := hi.F b h; omega
    · omega
  · obtain ⟨c0, e0, fr0, h1, h2, h3, h4, h5, h6⟩ := hi.blk id B hB
    have := lt_of_aget h1
    refine ⟨c0, e0, fr0, by (show (pushB w (.cells c e fr)).heap[g.φ id]? = _); rw [pushB_get, if_neg (by omega)]; exact h1, h2, h3, repLA_mono hx h4, h5, fun h => .inl (h6.1 h), fun h => ?_⟩
    rcases h with h | h
    · exact h6.2 h
    · simp only at h; omega
  · rw [repF_iff]
    intro i x hix
    obtain ⟨v, hv, hr2⟩ := (repLA_iff.1 (repLA_mono hx hr)).2 i (.p x) (by simp [hix])
    refine ⟨v, ?_, hr2⟩
    rw [List.getElem?_take] at hv
    split at hv
    · simp only [World.cell?, pushB_get, if_true]
      simpa using hv
    · cases hv
theorem evBuildSlice_run {st : Bool} {t : TypeId} {len : Nat} {ps : List (Nat × AV)} {qs : Array (Nat × Value)} {z : AV} {H' : List ABlk} (hi : Inv g w H) (h : evBuildSlice P st t len ps H = some (z, H')) (hp : repPs g w H ps qs.toList) :
    ∃ v w' g', (Instr.buildSlice t len qs).run P w = .ok v w' ∧ Inv g' w' H' ∧ Ext g w H g' w' H' ∧ repA g' w' H' z v := by
  unfold evBuildSlice at h
  split at h
  · cases h
  · rename_i e he
    split at h
    case h_2 => cases h
    case h_1 size zs h1 h2 =>
    split at h
    · cases h
    · rename_i hc
      obtain ⟨zv, hz, hzr, hzc⟩ := zeroT_run h2 g w H
      have hzl := repLA_size hzr
      have hsz : size ≠ 0 ∧ zs.length = size ∧ len * size ≤ 16777216 := by omega
      split at h
      · cases h
      · rename_i cs hf
        obtain ⟨us, k1, k2, k3, k4⟩ := afill_run hf hp (zeros_rep (n := len) (m := len * size) hzr (by rw [hsz.2.1])) (zeros_all hzc _)
        have hul := repLA_size k2
        have hlen : cs.length = len * size := by rw [k4]; simp [List.length_flatten, hsz.2.1]
        have hrun : (Instr.buildSlice t len qs).run P w = .ok (.slice (some ⟨w.heap.size, 0, none⟩) len len) (pushB w (.cells us e)) := by
          simp only [Instr.buildSlice, Sem.run_bind, elemT_run he, Result.andThen_ok, sizeT_run h1]
          rw [if_neg (by omega)]
          by_cases hk : len * size = 0
          · rw [hk, range0] at k1
            simp only [List.map_toArray, List.map_nil] at k1
            simp [hk, range0, k1, newRow, pushB]
          · simp [hk, hz, k1, newRow, pushB]
        split at h
        · rename_i xs hxs
          cases h
          have hpe := mapO_pure hxs
          subst hpe
          obtain ⟨g', i1, i2, i3, i4⟩ := newFrozen (e := e) (c := us) (xs := xs) hi (by simp at hul; omega) (by have := repLA_whole k2; simpa using this)
          refine ⟨_, _, g', hrun, i1, i2, ?_⟩
          simp only [repA, rep]
          exact ⟨_, _, rfl, Nat.le_refl _, fun _ => rfl, by simp, .inr ⟨_, _, rfl, i3, i4⟩⟩
        · split at h
          · cases h
          · cases h
            obtain ⟨i0, i1, i2⟩ := newRow_run (P := P) (e := e) (c := us) (cs := cs) hi (by omega) (repLA_whole k2) k3
            refine ⟨_, _, _, hrun, i1, i2, ?_⟩
            simp only [repA]
            refine ⟨_, _, rfl, Nat.le_refl _, _, by simp; rfl, by simp, fun _ => ⟨.inr (by simp [gNew]), us, e, (0, 0), by simp [gNew, pushB_get], by omega⟩⟩
theorem evMakeSlice_run {st : Bool} {t : TypeId} {x y z : AV} {a b : Value} {H' : List ABlk} (hi : Inv g w H) (h : evMakeSlice P st t x y H = some (z, H')) (hx : repA g w H x a) (hy : repA g w H y b) :
    ∃ v w' g', (Instr.makeSlice t a b).run P w = .ok v w' ∧ Inv g' w' H' ∧ Ext g w H g' w' H' ∧ repA g' w' H' z v := by
  unfold evMakeSlice at h
  split at h
  case h_2 => cases h
  case h_1 e l c he =>
  simp only [repA, rep] at hx hy; subst hx hy
  split at h
  case h_2 => cases h
  case h_1 size bytes zs h1 h2 h3 =>
  split at h
  · cases h
  rename_i hsz0
  have hsz : size ≠ 0 ∧ zs.length = size := by omega
  split at h
  case isFalse => cases h
  case isTrue hc =>
  obtain ⟨zv, hz, hzr, hzc⟩ := zeroT_run h3 g w H
  have hzl := repLA_size hzr
  obtain ⟨i, hti, hib⟩ := bytesT_run h2 w
  have hl : IntKind.i64.wrap l = l := by simp only [IntKind.wrap, IntKind.bits, IntKind.signed]; simp; omega
  have hcw : IntKind.i64.wrap c = c := by simp only [IntKind.wrap, IntKind.bits, IntKind.signed]; simp; omega
  have hbl : (bytes : Int) * l ≤ bytes * c := Int.mul_le_mul_of_nonneg_left hc.2.1 (by omega)
  have hrun : (Instr.makeSlice t (.int .i64 l) (.int .i64 c)).run P w = .ok (.slice (some ⟨w.heap.size, 0, none⟩) l.toNat c.toNat) (pushB w (.cells ((Array.range (c.toNat * size)).map (fun i => zv.cells[i % zv.cells.size]!)) e)) := by
    simp only [Instr.makeSlice, Sem.run_bind, elemT_run he, Result.andThen_ok, asInt, asIntOf, Sem.run_pure, hti, hib, hl, hcw]
    rw [if_neg]
    · simp only [Sem.run_bind, run_askRoom, Result.andThen_ok, sizeT_run h1]
      by_cases hk : c.toNat * size = 0
      · simp [hk, newRow, pushB, range0]
      · simp [hk, hz, newRow, pushB]
    · simp only [Bool.or_eq_true, decide_eq_true_eq]
      have : ¬ ((bytes : Int) * c > 2 ^ 48) := by have := hc.2.2.2; omega
      omega
  have hcl : ((Array.range (c.toNat * size)).map (fun i => zv.cells[i % zv.cells.size]!)).size = c.toNat * size := by simp
  have hle : l.toNat ≤ c.toNat := by omega
  have hzr2 := zeros_rep (n := c.toNat) (m := c.toNat * size) hzr (by rw [hsz.2])
  have hzr3 : repLA g w H (List.replicate l.toNat zs).flatten (((Array.range (c.toNat * size)).map (fun i => zv.cells[i % zv.cells.size]!)).toList.take (l.toNat * size)) := by
    have := repLA_take (l.toNat * size) hzr2
    have e1 : (List.replicate c.toNat zs).flatten.take (l.toNat * size) = (List.replicate l.toNat zs).flatten := by
      obtain ⟨d, hd⟩ : ∃ d, c.toNat = l.toNat + d := ⟨c.toNat - l.toNat, by omega⟩
      rw [hd, ← List.replicate_append_replicate, List.flatten_append, List.take_left' (by simp [List.length_flatten, hsz.2])]
    rwa [e1] at this
  have hfl : (List.replicate l.toNat zs).flatten.length = l.toNat * size := by simp [List.length_flatten, hsz.2]
  have hmul : l.toNat * size ≤ c.toNat * size := Nat.mul_le_mul_right _ hle
  split at h
  · split at h
    · rename_i hlc
      split at h
      · rename_i xs hxs
        cases h
        have hpe := mapO_pure hxs
        rw [hpe] at hzr3 hfl
        simp at hfl
        obtain ⟨g', i1, i2, i3, i4⟩ := newFrozen (e := e) (xs := xs) hi (by rw [hcl]; omega) (by rw [hfl]; exact hzr3)
        refine ⟨_, _, g', hrun, i1, i2, ?_⟩
        simp only [repA, rep]
        exact ⟨_, _, rfl, by omega, fun _ => by omega, by simp, .inr ⟨_, _, rfl, i3, i4⟩⟩
      · cases h
    · cases h
  · cases h
    obtain ⟨i0, i1, i2⟩ := newRow_run (P := P) (e := e) (cs := (List.replicate l.toNat zs).flatten) hi (by rw [hcl, hfl]; exact hmul) (by rw [hfl]; exact hzr3) (zeros_all hzc _)
    refine ⟨_, _, _, hrun, i1, i2, ?_⟩
    simp only [repA]
    refine ⟨_, _, rfl, by omega, _, by simp; rfl, by simp, fun _ => ⟨.inr (by simp [gNew]), _, e, (0, 0), by simp [gNew, pushB_get]; rfl, by simp⟩⟩
end Go.Ev
