/- A plain evaluator of the model's code over values without memory: definitions. -/
import Derived.Calls
import Derived.Orders
import Derived.LoopN
import Derived.Laws.Sem
set_option linter.unusedVariables false
namespace Go.Ev

/-- A value that nothing changes any more: a slice is the row of its cells. -/
inductive PV where
  | int (k : IntKind) (n : Int)
  | bool (b : Bool)
  | str (l : List Nat)
  | nilp
  | nilf
  | und
  | any
  | u8u
  | nsl (nil : Bool)
  | fn (f : Fn) (first caps : List PV)
  | sl (n : Nat) (x : Bool) (cs : List PV)
  | agg (cs : List PV)
  | tup (cs : List PV)
  deriving Inhabited

/-- A value of a running call: it may name a block that is still written. -/
inductive AV where
  | p (x : PV)
  | ms (id ver off n sz : Nat)
  | pt (id ver off : Nat)
  | ip (cs : List PV)
  | fn (f : Fn) (first caps : List AV)
  | agg (cs : List AV)
  | tup (cs : List AV)
  deriving Inhabited

/-- A block of the call's own. -/
structure ABlk where
  ver : Nat
  fz : Bool
  cells : List AV
  deriving Inhabited

def mapO {α β : Type} (f : α → Option β) : List α → Option (List β)
  | [] => some []
  | x :: xs => match f x with
    | none => none
    | some y => match mapO f xs with
      | none => none
      | some ys => some (y :: ys)

def ofVal1 : Value → Option PV
  | .bool b => some (.bool b)
  | .int k n => some (.int k n)
  | .string s => some (.str (s.data.toList.map UInt8.toNat))
  | .pointer none => some .nilp
  | .slice none 0 0 => some (.nsl true)
  | .nilFunc => some .nilf
  | _ => none

def ofVal : Value → Option PV
  | .agg cs => match mapO ofVal1 cs.toList with
    | some xs => some (.agg xs)
    | none => none
  | .tuple vs => if vs.size = 0 then some .und else none
  | v => ofVal1 v

def AV.pure? : AV → Option PV
  | .p x => some x
  | _ => none
def mkAgg (cs : List AV) : AV := match mapO AV.pure? cs with
  | some xs => .p (.agg xs)
  | none => .agg cs
def mkTup (cs : List AV) : AV := match mapO AV.pure? cs with
  | some xs => .p (.tup xs)
  | none => .tup cs

/-- May it stand in a cell? -/
def AV.isCell : AV → Bool
  | .p .und | .p .any | .p (.agg _) | .p (.tup _) | .agg _ | .tup _ => false
  | _ => true
/-- The cells of a value. -/
def cellsOf : AV → Option (List AV)
  | .p (.agg xs) => if (xs.map AV.p).all AV.isCell then some (xs.map .p) else none
  | .agg cs => if cs.all AV.isCell then some cs else none
  | a => if a.isCell then some [a] else none

def setAt (cells : List AV) (off : Nat) : List AV → List AV
  | [] => cells
  | c :: cs => setAt (cells.set off c) (off + 1) cs

def afill (place : Nat → Option (Nat × Nat)) (cells : List AV) : List (Nat × AV) → Option (List AV)
  | [] => some cells
  | (i, v) :: rest => match place i with
    | none => none
    | some (off, size) => match cellsOf v with
      | none => none
      | some cs => if cs.length ≠ size ∨ off + cs.length > cells.length then none else afill place (setAt cells off cs) rest

/-! ### Numbers and strings -/
def u8 (b : Nat) : PV := .int .u8 (b : Int)
def ibits (k : IntKind) (r : BitVec k.bits) : Option PV := some (.int k (k.wrap r.toNat))
def ibin (op : BinOp) (k : IntKind) (a b : Int) : Option PV :=
  match op with
  | .add => some (.int k (k.wrap (a + b)))
  | .sub => some (.int k (k.wrap (a - b)))
  | .mul => some (.int k (k.wrap (a * b)))
  | .quo => if b = 0 then none else some (.int k (k.wrap (a.tdiv b)))
  | .rem => if b = 0 then none else some (.int k (a.tmod b))
  | .and => ibits k (BitVec.ofInt k.bits a &&& BitVec.ofInt k.bits b)
  | .or => ibits k (BitVec.ofInt k.bits a ||| BitVec.ofInt k.bits b)
  | .xor => ibits k (BitVec.ofInt k.bits a ^^^ BitVec.ofInt k.bits b)
  | .andNot => ibits k (BitVec.ofInt k.bits a &&& ~~~(BitVec.ofInt k.bits b))
  | .eql => some (.bool (a == b))
  | .neq => some (.bool (a != b))
  | .lss => some (.bool (a < b))
  | .leq => some (.bool (a ≤ b))
  | .gtr => some (.bool (a > b))
  | .geq => some (.bool (a ≥ b))
  | _ => none
def ishift (op : BinOp) (k : IntKind) (a b : Int) : Option PV :=
  if b < 0 then none else
  match op with
  | .shl => some (.int k (k.wrap (a * 2 ^ (min b.toNat k.bits))))
  | .shr => some (.int k (a.fdiv (2 ^ (min b.toNat k.bits))))
  | _ => none
def less : List Nat → List Nat → Bool
  | _, [] => false
  | [], _ :: _ => true
  | a :: x, b :: y => decide (a < b) || (a == b && less x y)
def sbin (op : BinOp) (a b : List Nat) : Option PV :=
  match op with
  | .add => if ((a.length + b.length : Nat) : Int) > IntKind.i64.max then none else some (.str (a ++ b))
  | .eql => some (.bool (a == b))
  | .neq => some (.bool !(a == b))
  | .lss => some (.bool (less a b))
  | .leq => some (.bool (less a b || a == b))
  | .gtr => some (.bool !(less a b || a == b))
  | .geq => some (.bool !(less a b))
  | _ => none

/-- Are two cells one? (numbers, truths, strings) -/
def eqc : PV → PV → Option Bool
  | .int k a, .int k' b => if k = k' then some (a == b) else none
  | .bool a, .bool b => some (a == b)
  | .str a, .str b => some (a == b)
  | _, _ => none

/-! ### Types -/
def sizeT (P : Program) (t : TypeId) : Option Nat := (P.info? t).map (·.size)
def bytesT (P : Program) (t : TypeId) : Option Nat := (P.info? t).map (·.bytes)
def zeroT (P : Program) (t : TypeId) : Option (List AV) :=
  match (P.info? t).bind (·.zero) with
  | some z => match ofVal z with
    | some x => cellsOf (.p x)
    | none => none
  | none => none
def aggT (P : Program) (t : TypeId) : Option Bool :=
  match P.underlying t with
  | some (.struct _) => some true
  | some (.array _ _) => some true
  | some _ => some false
  | none => none

/-! ### Memory of the call's own -/
def mark (ids : List Nat) (H : List ABlk) : List ABlk := ids.foldl (fun H i => H.modify i fun B => { B with fz := true }) H
def blkRead (H : List ABlk) (id ver off n : Nat) : Option (List AV) :=
  match H[id]? with
  | none => none
  | some B => if B.ver = ver ∧ off + n ≤ B.cells.length then some ((B.cells.drop off).take n) else none

mutual
/-- The same, nothing told of capacities. -/
def norm : PV → PV
  | .sl n _ cs => .sl n false (normL cs)
  | .agg cs => .agg (normL cs)
  | .tup cs => .tup (normL cs)
  | .fn f a b => .fn f (normL a) (normL b)
  | .nsl _ => .sl 0 false []
  | x => x
def normL : List PV → List PV
  | [] => []
  | x :: xs => norm x :: normL xs
end
/-- A value as one that nothing changes any more; strict: the blocks that it names are such already. -/
def frz (st : Bool) (H : List ABlk) : Nat → AV → Option PV
  | _, .p x => some (norm x)
  | 0, _ => none
  | k + 1, .ms id ver off n sz => match H[id]? with
    | none => none
    | some B => if B.ver = ver ∧ off + n * sz ≤ B.cells.length ∧ (st = false ∨ B.fz = true) then
        match mapO (frz st H k) ((B.cells.drop off).take (n * sz)) with
        | some cs => some (.sl n false cs)
        | none => none
      else none
  | k + 1, .fn f a b => match mapO (frz st H k) a, mapO (frz st H k) b with
    | some xs, some ys => some (.fn f xs ys)
    | _, _ => none
  | k + 1, .agg cs => match mapO (frz st H k) cs with
    | some xs => some (.agg xs)
    | none => none
  | k + 1, .tup cs => match mapO (frz st H k) cs with
    | some xs => some (.tup xs)
    | none => none
  | _, _ => none
/-- The blocks that a value names. -/
def ids (H : List ABlk) : Nat → AV → List Nat
  | 0, _ => []
  | k + 1, .ms id _ off n sz => id :: match H[id]? with
    | none => []
    | some B => ((B.cells.drop off).take (n * sz)).flatMap (ids H k)
  | k + 1, .fn _ a b => a.flatMap (ids H k) ++ b.flatMap (ids H k)
  | k + 1, .agg cs => cs.flatMap (ids H k)
  | k + 1, .tup cs => cs.flatMap (ids H k)
  | _, _ => []
def deep : Nat := 6

mutual
def shift (k : Nat) : AV → AV
  | .p x => .p x
  | .ms id ver off n sz => .ms (id + k) ver off n sz
  | .pt id ver off => .pt (id + k) ver off
  | .ip cs => .ip cs
  | .fn f a b => .fn f (shiftL k a) (shiftL k b)
  | .agg cs => .agg (shiftL k cs)
  | .tup cs => .tup (shiftL k cs)
def shiftL (k : Nat) : List AV → List AV
  | [] => []
  | x :: xs => shift k x :: shiftL k xs
end
def shiftB (k : Nat) (B : ABlk) : ABlk := { B with cells := shiftL k B.cells }

/-- The program; contracts that are given; how a function is called (0: it is handed what nothing changes; 1: its answer is the caller's own; 2: it works on the caller's memory; 3: as it comes; 4, 5: as 0, 1, and a slice of no elements is tried as nil and as none; 6: bytealg.MakeNoZero; 9: it may not be called); which slots live beyond a region. -/
structure Cfg where
  P : Program
  O : FuncId → List PV → Option PV
  md : FuncId → Nat
  lv : FuncId → List Bool

/-- One slice, of no elements. -/
def empty1 : List PV → Bool
  | [.sl 0 _ []] => true
  | _ => false
/-- A slice of no elements and no room. -/
def isE0 : AV → Bool
  | .p (.nsl true) => true
  | .p (.sl 0 true _) => true
  | _ => false
abbrev CallE := FuncId → List AV → List ABlk → Option (AV × List ABlk)

mutual
/-- Does a value name no memory? -/
def scalar : PV → Bool
  | .sl _ _ cs => cs.isEmpty
  | .fn .. => false
  | .agg cs => scalarL cs
  | .tup cs => scalarL cs
  | _ => true
def scalarL : List PV → Bool
  | [] => true
  | x :: xs => scalar x && scalarL xs
end
mutual
/-- Does a value name no memory but blocks of its own? -/
def ownA : AV → Bool
  | .p x => scalar x
  | .ms .. => true
  | .pt .. => true
  | .ip _ => false
  | .fn .. => false
  | .agg cs => ownL cs
  | .tup cs => ownL cs
def ownL : List AV → Bool
  | [] => true
  | x :: xs => ownA x && ownL xs
end
/-- What nothing changes is told; what was handed to the call is such from now on, unless the answer names no memory. -/
def tell (ok : Bool) (H H1 : List ABlk) (x : PV) : Option (AV × List ABlk) :=
  if scalar x then some (.p x, H) else if ok then some (.p x, H1) else none
def evCall (C : Cfg) (call : CallE) (st : Bool) (f : FuncId) (args : List AV) (H : List ABlk) : Option (AV × List ABlk) :=
  if 9 ≤ C.md f then none else
  if C.md f = 2 then call f args H else
  match mapO (frz false H deep) args with
  | none => if C.md f = 3 then call f args H else none
  | some xs =>
    let ok := !st || (mapO (frz true H deep) args).isSome
    let H1 := if st then H else mark (args.flatMap (ids H deep)) H
    match C.O f xs with
    | some r => tell ok H H1 r
    | none =>
      if (C.md f = 4 ∨ C.md f = 5) ∧ empty1 xs = true then
        match call f [.p (.nsl true)] [], call f [.p (.nsl false)] [] with
        | some (r1, _), some (r2, _) => if isE0 r1 = true ∧ isE0 r2 = true then tell ok H H1 (.sl 0 true []) else none
        | _, _ => none
      else
      match call f (xs.map .p) [] with
      | none => none
      | some (r, Hc) =>
        if C.md f = 1 ∨ C.md f = 5 then if (ownA r && Hc.all fun B => ownL B.cells) = true then some (shift H.length r, H ++ Hc.map (shiftB H.length)) else if ok then some (shift H1.length r, H1 ++ Hc.map (shiftB H1.length)) else none else
        match frz false Hc deep r with
        | some x => tell ok H H1 x
        | none => none

def opv (t : List AV) : Operand → Option AV
  | .tmp i => match t[i]? with
    | some x => some x
    | none => some (.p .und)
  | .const v => match ofVal v with
    | some x => some (.p x)
    | none => none
  | .global _ => none
  | .func f => some (.p (.fn (.func f) [] []))

abbrev Env := Operand → Option AV

def lenOf : AV → Option Nat
  | .p (.sl n _ _) => some n
  | .p (.nsl _) => some 0
  | .p (.str l) => some l.length
  | .ms _ _ _ n _ => some n
  | _ => none
/-- The cells of a source of 'append' or 'copy', its first n elements. -/
def srcCells (H : List ABlk) (size n : Nat) : AV → Option (List AV)
  | .p (.nsl _) => if n = 0 then some [] else none
  | .p (.sl m _ cs) => if n ≤ m ∧ n * size ≤ cs.length then some ((cs.take (n * size)).map .p) else none
  | .p (.str l) => if n ≤ l.length ∧ size = 1 then some ((l.take n).map fun b => .p (u8 b)) else none
  | .ms id ver off m sz => if n ≤ m ∧ sz = size then blkRead H id ver off (n * size) else none
  | _ => none
def isIntT (P : Program) (t : TypeId) : Option Bool := match P.underlying t with
  | some (.int _) => some true
  | some _ => some false
  | none => none
def elemT (P : Program) (t : TypeId) : Option TypeId := match P.underlying t with
  | some (.slice e) => some e
  | _ => none

/-- What 'append' lays behind a slice: how many elements, their cells. -/
def evNew (C : Cfg) (xT : TypeId) (size bytes : Nat) (z : List AV) (x : AV) (H : List ABlk) : Option (Nat × List AV) :=
  match isIntT C.P xT with
  | none => none
  | some true => match x with
    | .p (.int .i64 l) => if 0 ≤ l ∧ l * bytes ≤ 140737488355328 then some (l.toNat, (List.replicate l.toNat z).flatten) else none
    | _ => none
  | some false => match lenOf x with
    | none => none
    | some m => match srcCells H size m x with
      | none => none
      | some cs => some (m, cs)
def evAppend2 (s : AV) (size bytes m : Nat) (ncs : List AV) (H : List ABlk) : Option (AV × List ABlk) :=
  match s with
  | .p (.nsl true) =>
    if m = 0 then some (.p (.nsl true), H) else
    if m * bytes ≤ 140737488355328 ∧ ncs.all AV.isCell then some (.ms H.length 0 0 m size, H ++ [⟨0, false, ncs⟩]) else none
  | .p (.sl n xx cs) =>
    if m = 0 then some (.p (.sl n xx cs), H) else
    if xx = true ∧ cs.length = n * size ∧ (n + m) * bytes ≤ 140737488355328 ∧ ncs.all AV.isCell ∧ (cs.map AV.p).all AV.isCell then
      some (.ms H.length 0 0 (n + m) size, H ++ [⟨0, false, cs.map .p ++ ncs⟩])
    else none
  | .ms id ver off n sz =>
    match H[id]? with
    | none => none
    | some B =>
      if B.ver = ver ∧ B.fz = false ∧ off = 0 ∧ sz = size ∧ B.cells.length = n * sz ∧ (n + m) * bytes ≤ 140737488355328 ∧ ncs.all AV.isCell then
        some (.ms id (ver + 1) 0 (n + m) sz, H.set id ⟨ver + 1, false, B.cells ++ ncs⟩)
      else none
  | _ => none
def evAppend (C : Cfg) (argTypes : Array TypeId) (s x : AV) (H : List ABlk) : Option (AV × List ABlk) :=
  match argTypes[0]?, argTypes[1]? with
  | some sT, some xT =>
    match elemT C.P sT with
    | none => none
    | some e =>
      match sizeT C.P e, bytesT C.P e, zeroT C.P e with
      | some size, some bytes, some z =>
        if size = 0 ∨ bytes = 0 ∨ z.length ≠ size then none else
        match evNew C xT size bytes z x H with
        | none => none
        | some (m, ncs) => evAppend2 s size bytes m ncs H
      | _, _, _ => none
  | _, _ => none

def evCopy (C : Cfg) (argTypes : Array TypeId) (d x : AV) (H : List ABlk) : Option (AV × List ABlk) :=
  match argTypes[0]? with
  | some dT =>
    match elemT C.P dT with
    | none => none
    | some e =>
      match sizeT C.P e, lenOf d, lenOf x with
      | some size, some dn, some xn =>
        let n := Nat.min xn dn
        match srcCells H size n x with
        | none => none
        | some cs =>
          match d with
          | .ms id ver off _ sz =>
            match H[id]? with
            | none => none
            | some B => if B.ver = ver ∧ B.fz = false ∧ sz = size ∧ cs.length = n * size ∧ off + n * size ≤ B.cells.length ∧ cs.all AV.isCell then
                some (.p (.int .i64 n), H.set id { B with cells := setAt B.cells off cs })
              else none
          | .p (.sl ..) => if n = 0 then some (.p (.int .i64 0), H) else none
          | _ => none
      | _, _, _ => none
  | none => none

def evLen (C : Cfg) (argTypes : Array TypeId) (x : AV) : Option PV :=
  match argTypes[0]? with
  | none => none
  | some t => match C.P.underlying t with
    | some .string => match x with
      | .p (.str l) => some (.int .i64 l.length)
      | _ => none
    | some (.slice _) => match x with
      | .p (.sl n _ _) => some (.int .i64 n)
      | .p (.nsl _) => some (.int .i64 0)
      | .ms _ _ _ n _ => some (.int .i64 n)
      | _ => none
    | some (.array n _) => some (.int .i64 n)
    | some (.pointer a) => match C.P.underlying a with
      | some (.array n _) => some (.int .i64 n)
      | _ => none
    | _ => none

def max2 (x y : AV) : Option AV := match x, y with
  | .p (.int k a), .p (.int _ b) => some (.p (.int k (if b > a then b else a)))
  | _, _ => none
def min2 (x y : AV) : Option AV := match x, y with
  | .p (.int k a), .p (.int _ b) => some (.p (.int k (if b < a then b else a)))
  | _, _ => none

def evBuiltin (C : Cfg) (st : Bool) (b : Builtin) (argTypes : Array TypeId) (args : List AV) (H : List ABlk) : Option (AV × List ABlk) :=
  match b, args with
  | .append, [s, x] => evAppend C argTypes s x H
  | .copy, [d, x] => evCopy C argTypes d x H
  | .len, [x] => match evLen C argTypes x with
    | some r => some (.p r, H)
    | none => none
  | .max, [x, y] => match max2 x y with
    | some r => some (r, H)
    | none => none
  | .min, [x, y] => match min2 x y with
    | some r => some (r, H)
    | none => none
  | _, _ => none

def bnd : Option AV → Nat → Nat → Option Nat
  | none, d, _ => some d
  | some (.p (.int _ i)), _, y => if 0 ≤ i ∧ i ≤ (y : Int) then some i.toNat else none
  | _, _, _ => none
/-- A slice's bounds of so many elements: low, high. -/
def bounds (n : Nat) (lo hi : Option AV) : Option (Nat × Nat) :=
  match bnd hi n n with
  | none => none
  | some h => match bnd lo 0 h with
    | none => none
    | some l => some (l, h)

def optO (ρ : Env) : Option Operand → Option (Option AV)
  | none => some none
  | some o => match ρ o with
    | some a => some (some a)
    | none => none

def evSlice (P : Program) (t : TypeId) (x : AV) (lo hi mx : Option AV) : Option AV :=
  match P.underlying t, x with
  | some .string, .p (.str l) => match mx, bounds l.length lo hi with
    | none, some (a, b) => some (.p (.str ((l.drop a).take (b - a))))
    | _, _ => none
  | some (.slice e), .p (.sl n xx cs) => match sizeT P e, mx, bounds n lo hi with
    | some size, none, some (a, b) => if size = 0 ∨ cs.length ≠ n * size then none else some (.p (.sl (b - a) (xx && b == n) ((cs.drop (a * size)).take ((b - a) * size))))
    | some size, some (.p (.int k m)), some (a, b) => if size = 0 ∨ cs.length ≠ n * size then none else
        if hi.isSome = true ∧ (b : Int) ≤ m ∧ m ≤ (n : Int) then some (.p (.sl (b - a) (decide ((b : Int) = m)) ((cs.drop (a * size)).take ((b - a) * size)))) else none
    | _, _, _ => none
  | some (.slice e), .ms id ver off n sz => match sizeT P e, mx, bounds n lo hi with
    | some size, none, some (a, b) => if size = sz then some (.ms id ver (off + a * sz) (b - a) sz) else none
    | some size, some (.p (.int k m)), some (a, b) => if size = sz ∧ hi.isSome = true ∧ (b : Int) ≤ m ∧ m ≤ (n : Int) then some (.ms id ver (off + a * sz) (b - a) sz) else none
    | _, _, _ => none
  | _, _ => none

def partA (P : Program) (t : TypeId) (cs : List AV) (off : Nat) : Option AV :=
  match aggT P t, sizeT P t with
  | some true, some n => if off + n ≤ cs.length then some (mkAgg ((cs.drop off).take n)) else none
  | some false, some _ => cs[off]?
  | _, _ => none
def aggCells : AV → Option (List AV)
  | .p (.agg xs) => some (xs.map .p)
  | .agg cs => some cs
  | _ => none

def eqField (d : Option TypeDesc) (x y : Option PV) : Option Bool :=
  match d, x, y with
  | some (TypeDesc.int _), some (PV.int k a), some (PV.int k' b) => if k = k' then some (a == b) else none
  | some TypeDesc.bool, some (PV.bool a), some (PV.bool b) => some (a == b)
  | some TypeDesc.string, some (PV.str a), some (PV.str b) => some (a == b)
  | _, _, _ => none
def eqFields (P : Program) (xs ys : List PV) : List Field → Option Bool
  | [] => some true
  | f :: fs => if f.name = "_" then eqFields P xs ys fs else
    match eqField (P.underlying f.type) xs[f.offset]? ys[f.offset]? with
    | some true => eqFields P xs ys fs
    | some false => some false
    | none => none
/-- '==' of two values of a type. -/
def evEq (P : Program) (t : TypeId) (x y : AV) : Option Bool :=
  match P.underlying t, x, y with
  | some .bool, .p (.bool a), .p (.bool b) => some (a == b)
  | some (.pointer _), .p .nilp, .p .nilp => some true
  | some (.pointer _), .p .nilp, .pt .. => some false
  | some (.pointer _), .pt .., .p .nilp => some false
  | some (.func ..), .p .nilf, .p .nilf => some true
  | some (.func ..), .p (.fn ..), .p .nilf => some false
  | some (.func ..), .fn .., .p .nilf => some false
  | some (.slice _), .p (.nsl b), .p (.nsl true) => some b
  | some (.slice _), .p (.sl n _ _), .p (.nsl true) => if n = 0 then none else some false
  | some (.slice _), .ms .., .p (.nsl true) => some false
  | some (.struct fs), .p (.agg xs), .p (.agg ys) =>
    if P.stoodInHeld t = false ∧ P.eqGuardType P.depth t = false then
      eqFields P xs ys fs.toList
    else none
  | _, _, _ => none

def evBin (P : Program) (op : BinOp) (t : TypeId) (x y : AV) : Option AV :=
  match x, y with
  | .p (.int k a), .p (.int k' b) =>
    match op with
    | .shl => (ishift .shl k a b).map .p
    | .shr => (ishift .shr k a b).map .p
    | op => if k = k' then (ibin op k a b).map .p else none
  | .p (.str a), .p (.str b) => (sbin op a b).map .p
  | x, y => match op with
    | .eql => (evEq P t x y).map fun b => .p (.bool b)
    | .neq => (evEq P t x y).map fun b => .p (.bool !b)
    | _ => none

def evUn (op : UnOp) (x : AV) : Option AV :=
  match op, x with
  | .neg, .p (.int k n) => (ibin .sub k 0 n).map .p
  | .xor, .p (.int k n) => (ibin .xor k (if k.signed then -1 else k.max) n).map .p
  | .not, .p (.bool b) => some (.p (.bool !b))
  | _, _ => none

def toByte : PV → Option Nat
  | .int .u8 n => some (n.toNat % 256)
  | _ => none

/-- Bytes as a string. -/
def evBytes (P : Program) (e : TypeId) (x : AV) (H : List ABlk) : Option (AV × List ABlk) :=
  match P.underlying e with
  | some (.int .u8) => match lenOf x with
    | none => none
    | some n => match x with
      | .p (.str _) => none
      | x => match srcCells H 1 n x with
        | none => none
        | some cs => match mapO AV.pure? cs with
          | none => none
          | some xs => match mapO toByte xs with
            | none => none
            | some l => some (.p (.str l), H)
  | _ => none
/-- Conversions that look at no memory; those that make or read some are told apart. -/
def evConv (P : Program) (st : Bool) (src dst : TypeId) (x : AV) (H : List ABlk) : Option (AV × List ABlk) :=
  match P.underlying src, P.underlying dst, x with
  | some (.int _), some (.int k), .p (.int _ n) => some (.p (.int k (k.wrap n)), H)
  | some .string, some .string, .p (.str l) => some (.p (.str l), H)
  | some .string, some (.slice e), .p (.str l) => match P.underlying e with
    | some (.int .u8) => if st then some (.p (.sl l.length false (l.map u8)), H) else
        some (.ms H.length 0 0 l.length 1, H ++ [⟨0, false, l.map fun b => .p (u8 b)⟩])
    | _ => none
  | some (.slice e), some .string, x => evBytes P e x H
  | _, _, _ => none

def evLoad (P : Program) (t : TypeId) (x : AV) (H : List ABlk) : Option AV :=
  match x, sizeT P t, aggT P t with
  | .pt id ver off, some n, some true => match blkRead H id ver off n with
    | some cs => some (mkAgg cs)
    | none => none
  | .pt id ver off, some _, some false => match blkRead H id ver off 1 with
    | some [c] => some c
    | _ => none
  | .ip cs, some n, some true => if n ≤ cs.length then some (.p (.agg (cs.take n))) else none
  | .ip (c :: _), some _, some false => some (.p c)
  | _, _, _ => none
def evStore (P : Program) (t : TypeId) (a v : AV) (H : List ABlk) : Option (List ABlk) :=
  match a, sizeT P t, cellsOf v with
  | .pt id ver off, some n, some cs => match H[id]? with
    | none => none
    | some B => if B.ver = ver ∧ B.fz = false ∧ cs.length = n ∧ off + n ≤ B.cells.length then
        some (H.set id { B with cells := setAt B.cells off cs })
      else none
  | _, _, _ => none

def evBuild (P : Program) (t : TypeId) (parts : List (Nat × AV)) : Option AV :=
  match zeroT P t, P.underlying t with
  | some z, some (.struct fs) =>
    match mapO (fun f : Field => (sizeT P f.type).map fun s => (f.offset, s)) fs.toList with
    | none => none
    | some places => match afill (fun i => places[i]?) z parts with
      | some cs => some (mkAgg cs)
      | none => none
  | some z, some (.array _ e) => match sizeT P e with
    | none => none
    | some s => match afill (fun i => some (i * s, s)) z parts with
      | some cs => some (mkAgg cs)
      | none => none
  | _, _ => none

def evBuildSlice (P : Program) (st : Bool) (t : TypeId) (len : Nat) (parts : List (Nat × AV)) (H : List ABlk) : Option (AV × List ABlk) :=
  match elemT P t with
  | none => none
  | some e => match sizeT P e, zeroT P e with
    | some size, some z =>
      if size = 0 ∨ z.length ≠ size ∨ len * size > 16777216 then none else
      match afill (fun i => some (i * size, size)) (List.replicate len z).flatten parts with
      | none => none
      | some cs => match mapO AV.pure? cs with
        | some xs => some (.p (.sl len true xs), H)
        | none => if st then none else some (.ms H.length 0 0 len size, H ++ [⟨0, false, cs⟩])
    | _, _ => none

def evMakeSlice (P : Program) (st : Bool) (t : TypeId) (l c : AV) (H : List ABlk) : Option (AV × List ABlk) :=
  match elemT P t, l, c with
  | some e, .p (.int .i64 l), .p (.int .i64 c) => match sizeT P e, bytesT P e, zeroT P e with
    | some size, some bytes, some z =>
      if size = 0 ∨ z.length ≠ size then none else
      if 0 ≤ l ∧ l ≤ c ∧ c ≤ 9223372036854775807 ∧ bytes * c ≤ 281474976710656 then
        if st then
          if l = c then match mapO AV.pure? (List.replicate l.toNat z).flatten with
            | some xs => some (.p (.sl l.toNat true xs), H)
            | none => none
          else none
        else some (.ms H.length 0 0 l.toNat size, H ++ [⟨0, false, (List.replicate l.toNat z).flatten⟩])
      else none
    | _, _, _ => none
  | _, _, _ => none

def evFieldAddr (P : Program) (s : TypeId) (x : AV) (i : Nat) : Option AV :=
  match P.underlying s with
  | some (.struct fs) => match fs[i]? with
    | none => none
    | some f => match sizeT P f.type with
      | none => none
      | some n => if n = 0 then none else match x with
        | .pt id ver off => some (.pt id ver (off + f.offset))
        | .ip cs => some (.ip (cs.drop f.offset))
        | _ => none
  | _ => none
def evField (P : Program) (s : TypeId) (x : AV) (i : Nat) : Option AV :=
  match P.underlying s with
  | some (.struct fs) => match fs[i]? with
    | none => none
    | some f => match aggCells x with
      | none => none
      | some cs => partA P f.type cs f.offset
  | _ => none
def evIndexAddr (P : Program) (t : TypeId) (x i : AV) : Option AV :=
  match P.underlying t, x, i with
  | some (.slice e), .p (.sl n _ cs), .p (.int _ i) => match sizeT P e with
    | some size => if 0 ≤ i ∧ i < (n : Int) ∧ i.toNat * size < cs.length then some (.ip (cs.drop (i.toNat * size))) else none
    | none => none
  | some (.slice e), .ms id ver off n sz, .p (.int _ i) => match sizeT P e with
    | some size => if 0 ≤ i ∧ i < (n : Int) ∧ sz = size then some (.pt id ver (off + i.toNat * size)) else none
    | none => none
  | some (.array n e), .pt id ver off, .p (.int _ i) => match sizeT P e with
    | some size => if 0 ≤ i ∧ i < (n : Int) then some (.pt id ver (off + i.toNat * size)) else none
    | none => none
  | some (.array n e), .ip cs, .p (.int _ i) => match sizeT P e with
    | some size => if 0 ≤ i ∧ i < (n : Int) then some (.ip (cs.drop (i.toNat * size))) else none
    | none => none
  | _, _, _ => none
def evIndex (P : Program) (t : TypeId) (x i : AV) : Option AV :=
  match P.underlying t, i with
  | some (.array n e), .p (.int _ i) => match sizeT P e, aggCells x with
    | some size, some cs => if 0 ≤ i ∧ i < (n : Int) then partA P e cs (i.toNat * size) else none
    | _, _ => none
  | some .string, .p (.int _ i) => match x with
    | .p (.str l) => if 0 ≤ i then match l[i.toNat]? with
        | some b => some (.p (u8 b))
        | none => none
      else none
    | _ => none
  | _, _ => none
def evExtract (x : AV) (i : Nat) : Option AV :=
  match x with
  | .p (.tup cs) => match cs[i]? with
    | some c => some (.p c)
    | none => none
  | .tup cs => cs[i]?
  | _ => none
def evNilCheck : AV → Option AV
  | .pt id ver off => some (.pt id ver off)
  | .ip cs => some (.ip cs)
  | .p (.fn (.func f) a b) => some (.p (.fn (.func f) a b))
  | .fn (.func f) a b => some (.fn (.func f) a b)
  | _ => none
def mkFn (f : Fn) (a b : List AV) : AV := match mapO AV.pure? a, mapO AV.pure? b with
  | some xs, some ys => .p (.fn f xs ys)
  | _, _ => .fn f a b
def calleeOf : AV → Option (FuncId × List AV × List AV)
  | .p (.fn (.func f) a b) => some (f, a.map .p, b.map .p)
  | .fn (.func f) a b => some (f, a, b)
  | _ => none

/-- bytealg.MakeNoZero. -/
def evNoZero (st : Bool) (args : List AV) (H : List ABlk) : Option (AV × List ABlk) :=
  match args with
  | [.p (.int .i64 n)] => if st = false ∧ 0 ≤ n ∧ n ≤ 281474976710656 then some (.ms H.length 0 0 n.toNat 1, H ++ [⟨0, false, List.replicate n.toNat (.p .u8u)⟩]) else none
  | _ => none

def ret1 (H : List ABlk) : Option AV → Option (AV × List ABlk)
  | some x => some (x, H)
  | none => none

def parts (ρ : Env) (ps : Array (Nat × Operand)) : Option (List (Nat × AV)) :=
  mapO (fun q : Nat × Operand => match ρ q.2 with
    | some a => some (q.1, a)
    | none => none) ps.toList

def evOp (C : Cfg) (call : CallE) (st : Bool) (ρ : Env) (H : List ABlk) (o : Oper) : Option (AV × List ABlk) :=
  match o.op with
  | .move x => ret1 H (ρ x)
  | .assign x => ret1 H (ρ x)
  | .pick c a b => match ρ c, ρ a, ρ b with
    | some (.p (.bool t)), some x, some y => some (if t then x else y, H)
    | _, _, _ => none
  | .alloc e => match zeroT C.P e with
    | some z => some (.pt H.length 0 0, H ++ [⟨0, false, z⟩])
    | none => none
  | .box _ x => match ρ x with
    | none => none
    | some a => match cellsOf a with
      | some cs => some (.pt H.length 0 0, H ++ [⟨0, false, cs⟩])
      | none => none
  | .build t ps => match parts ρ ps with
    | none => none
    | some qs => ret1 H (evBuild C.P t qs)
  | .buildSlice t len ps => match parts ρ ps with
    | none => none
    | some qs => evBuildSlice C.P st t len qs H
  | .load t a => match ρ a with
    | none => none
    | some x => ret1 H (evLoad C.P t x H)
  | .store t a v => match ρ a, ρ v with
    | some x, some y => match evStore C.P t x y H with
      | some H' => some (.p .und, H')
      | none => none
    | _, _ => none
  | .nilCheck x => match ρ x with
    | none => none
    | some a => ret1 H (evNilCheck a)
  | .binOp op t x y _ => match ρ x, ρ y with
    | some a, some b => ret1 H (evBin C.P op t a b)
    | _, _ => none
  | .unOp op _ x => match ρ x with
    | some a => ret1 H (evUn op a)
    | none => none
  | .convert s d x => match ρ x with
    | some a => evConv C.P st s d a H
    | none => none
  | .makeFunc f a b => match mapO ρ a.toList, mapO ρ b.toList with
    | some xs, some ys => some (mkFn f xs ys, H)
    | _, _ => none
  | .makeSlice t l c => match ρ l, ρ c with
    | some a, some b => evMakeSlice C.P st t a b H
    | _, _ => none
  | .slice t x lo hi mx => match ρ x, optO ρ lo, optO ρ hi, optO ρ mx with
    | some a, some l, some h, some m => ret1 H (evSlice C.P t a l h m)
    | _, _, _, _ => none
  | .fieldAddr s x i => match ρ x with
    | some a => ret1 H (evFieldAddr C.P s a i)
    | none => none
  | .field s x i => match ρ x with
    | some a => ret1 H (evField C.P s a i)
    | none => none
  | .indexAddr t x i => match ρ x, ρ i with
    | some a, some b => ret1 H (evIndexAddr C.P t a b)
    | _, _ => none
  | .index t x i => match ρ x, ρ i with
    | some a, some b => ret1 H (evIndex C.P t a b)
    | _, _ => none
  | .extract x i => match ρ x with
    | some a => ret1 H (evExtract a i)
    | none => none
  | .call c => match mapO ρ c.args.toList with
    | none => none
    | some args => match c.callee with
      | .builtin b => evBuiltin C st b c.argTypes args H
      | .value f => match ρ f with
        | none => none
        | some g => match calleeOf g with
          | none => none
          | some (k, a, b) => if C.md k = 6 then evNoZero st (a ++ args ++ b) H else evCall C call st k (a ++ args ++ b) H
      | .invoke .. => none
  | _ => none

/-! ### Regions -/
structure St where
  t : List AV
  H : List ABlk

def putA (t : List AV) (d : Option Tmp) (x : AV) : List AV := match d with
  | some d => t.set d x
  | none => t
/-- Is an operation wanted? none: that is not known. -/
def wantedA (ops : Array Oper) (t : List AV) (o : Oper) : Option Bool :=
  match o.guard with
  | none => some true
  | some (j, want) => match (ops[j]?).bind (·.dst) with
    | none => some false
    | some d => match t[d]? with
      | some (.p (.bool b)) => some (b == want)
      | some (.p .und) => some false
      | _ => none
def evStep (C : Cfg) (call : CallE) (st : Bool) (ops : Array Oper) (o : Oper) (S : St) : Option St :=
  match wantedA ops S.t o with
  | none => none
  | some false => some ⟨putA S.t o.dst (.p .und), S.H⟩
  | some true => match evOp C call st (opv S.t) S.H o with
    | none => none
    | some (x, H) => some ⟨putA S.t o.dst x, H⟩
def evOps (C : Cfg) (call : CallE) (st : Bool) (ops : Array Oper) : List Oper → St → Option St
  | [], S => some S
  | o :: os, S => match evStep C call st ops o S with
    | none => none
    | some S1 => evOps C call st ops os S1
/-- The blocks of H are such as those of another row are. -/
def flags (H H1 : List ABlk) : List ABlk := List.zipWith (fun B B1 => { B with fz := B.fz || B1.fz }) H H1
def evRegion (C : Cfg) (call : CallE) (draw : Bool) (ops : Array Oper) (S : St) : Option St :=
  if draw then
    match evOps C call false ops ops.toList S with
    | none => none
    | some S1 => if S.H.length ≤ S1.H.length then evOps C call true ops ops.toList ⟨S.t, flags S.H S1.H⟩ else none
  else evOps C call false ops ops.toList S
def clean (lv : List Bool) (t : List AV) : List AV :=
  match lv, t with
  | b :: lv, x :: t => (if b then x else .p .any) :: clean lv t
  | _, t => t

/-! ### Code -/
inductive Ex where
  | normal
  | exit (id : Nat)
  | ret
  deriving DecidableEq

def iter (f : St → Option (Ex × St)) : Nat → St → Option (Ex × St)
  | 0, _ => none
  | n + 1, S => match f S with
    | some (.normal, S1) => iter f n S1
    | r => r
def evC (C : Cfg) (call : CallE) (lv : List Bool) (k : Nat) : Code → St → Option (Ex × St)
  | .skip, S => some (.normal, S)
  | .label _, S => some (.normal, S)
  | .region _ ops draw, S => match evRegion C call draw ops S with
    | none => none
    | some S1 => some (.normal, ⟨clean lv S1.t, S1.H⟩)
  | .seq a b, S => match evC C call lv k a S with
    | some (.normal, S1) => evC C call lv k b S1
    | r => r
  | .cond c a b, S => match opv S.t c with
    | some (.p (.bool t)) => if t then evC C call lv k a S else evC C call lv k b S
    | _ => none
  | .block id a, S => match evC C call lv k a S with
    | some (.exit i, S1) => if i = id then some (.normal, S1) else some (.exit i, S1)
    | r => r
  | .loop a, S => iter (evC C call lv k a) k S
  | .exit id, S => some (.exit id, S)
  | .ret, S => some (.ret, S)
  | _, _ => none

def evResult (C : Cfg) (S : St) : ResultVar → Option AV
  | .tmp t => opv S.t (.tmp t)
  | .cell a ty => match opv S.t (.tmp a) with
    | some x => evLoad C.P ty x S.H
    | none => none
def evResults (C : Cfg) (fn : Func) (S : St) : Option AV :=
  match mapO (evResult C S) fn.results.toList with
  | some [x] => some x
  | some xs => some (mkTup xs)
  | none => none
def evF (C : Cfg) : Nat → CallE
  | 0, _, _, _ => none
  | k + 1, f, args, H =>
    if 9 ≤ C.md f then none else
    match C.P.funcs[f]? with
    | none => none
    | some fn => match fn.body with
      | none => none
      | some c => match evC C (evF C k) (C.lv f) k c ⟨args ++ List.replicate (fn.ntmps - args.length) (.p .und), H⟩ with
        | some (.exit _, _) => none
        | some (_, S) => match evResults C fn S with
          | some x => some (x, S.H)
          | none => none
        | none => none

end Go.Ev
