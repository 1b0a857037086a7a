/- An abstract machine for the part of Go that this program uses: immutable slices are lists, what may be written lies in a memory of numbered objects; the order of a region and the room of an append leave no trace in it. This text: the values, the memory, the operations, the evaluator. -/
import Derived.CallsIn
import Derived.LoopNIn
import GoSem.Core.Utf8
namespace Go.Am
set_option linter.all false
open Go

/-- How much is known of a slice's room: nothing; it has none; it ends where the object of that number says, and nobody else lies behind it. -/
inductive Tag where
  | shared
  | full
  | own (t : Nat)
  | nil
  | non
  deriving DecidableEq, Inhabited

/-- Values. 'list g k xs': a slice that nobody writes: its elements, of k cells each. 'ref': a slice of a row. 'cptr': the address of what nobody writes. -/
inductive AV where
  | bool (b : Bool)
  | int (k : IntKind) (n : Int)
  | str (s : ByteArray)
  | list (g : Tag) (k : Nat) (xs : List AV)
  | ref (id ver off len : Nat)
  | ptr (id ver off : Nat)
  | cptr (x : AV)
  | nilptr
  | map (id : Nat)
  | nilmap
  | func (f : Nat) (first caps : List AV)
  | yield (id : Nat)
  | nilfunc
  | iface (t : Nat) (v : AV)
  | niliface
  | agg (xs : List AV)
  | tuple (xs : List AV)
  deriving Inhabited

def AV.cells : AV → List AV
  | .agg xs => xs
  | v => [v]

abbrev Env := List (Nat × AV)

def Env.get : Env → Nat → Option AV
  | [], _ => none
  | (s, v) :: e, t => if s = t then some v else Env.get e t

def Env.put (e : Env) (t : Nat) (v : AV) : Env :=
  match e with
  | [] => [(t, v)]
  | (s, u) :: e => if s = t then (t, v) :: e else (s, u) :: Env.put e t v

def Env.keep (e : Env) : List Nat → Env
  | [] => []
  | t :: ts => match e.get t with
    | some v => (t, v) :: Env.keep e ts
    | none => Env.keep e ts

inductive Arg where
  | t (s : Nat)
  | k (v : AV)
  | f (g : Nat)
  deriving Inhabited

def Arg.ev (L : Env) : Arg → Option AV
  | .t s => L.get s
  | .k v => some v
  | .f g => some (.func g [] [])

def evArgs (L : Env) : List Arg → Option (List AV)
  | [] => some []
  | a :: as => match a.ev L with
    | none => none
    | some v => match evArgs L as with
      | none => none
      | some vs => some (v :: vs)

mutual
/-- Nothing of a number from n on is named. -/
def AV.under (n : Nat) : AV → Bool
  | .list (.own t) _ xs => decide (t < n) && AV.underAll n xs
  | .list _ _ xs => AV.underAll n xs
  | .ref id _ _ _ | .ptr id _ _ | .map id | .yield id => decide (id < n)
  | .cptr x => AV.under n x
  | .func _ xs ys => AV.underAll n xs && AV.underAll n ys
  | .iface _ v => AV.under n v
  | .agg xs | .tuple xs => AV.underAll n xs
  | _ => true
def AV.underAll (n : Nat) : List AV → Bool
  | [] => true
  | x :: xs => AV.under n x && AV.underAll n xs
end

mutual
def AV.beq : AV → AV → Bool
  | .bool a, .bool b => a == b
  | .int k a, .int k' b => decide (k = k') && decide (a = b)
  | .str a, .str b => decide (a.data.toList = b.data.toList)
  | .list g k xs, .list g' k' ys => decide (g = g') && decide (k = k') && AV.beqs xs ys
  | .ref a b c d, .ref a' b' c' d' => decide (a = a') && decide (b = b') && decide (c = c') && decide (d = d')
  | .ptr a b c, .ptr a' b' c' => decide (a = a') && decide (b = b') && decide (c = c')
  | .cptr x, .cptr y => AV.beq x y
  | .nilptr, .nilptr => true
  | .map a, .map b => decide (a = b)
  | .nilmap, .nilmap => true
  | .func g xs ys, .func g' xs' ys' => decide (g = g') && AV.beqs xs xs' && AV.beqs ys ys'
  | .nilfunc, .nilfunc => true
  | .yield a, .yield b => decide (a = b)
  | .iface t x, .iface t' y => decide (t = t') && AV.beq x y
  | .niliface, .niliface => true
  | .agg xs, .agg ys => AV.beqs xs ys
  | .tuple xs, .tuple ys => AV.beqs xs ys
  | _, _ => false
def AV.beqs : List AV → List AV → Bool
  | [], [] => true
  | x :: xs, y :: ys => AV.beq x y && AV.beqs xs ys
  | _, _ => false
end

def AV.solid : AV → Bool
  | .tuple _ => false
  | _ => true

def AV.untag1 : AV → AV
  | .list _ k xs => .list .shared k xs
  | v => v

def AV.untag : AV → AV
  | .list _ k xs => .list .shared k xs
  | .agg xs => .agg (xs.map AV.untag1)
  | .tuple xs => .tuple (xs.map fun v => match v with | .agg ys => .agg (ys.map AV.untag1) | v => v.untag1)
  | v => v

/-- What lies in a cell that may be compared. -/
inductive EK where
  | b | i | s
  deriving DecidableEq, Inhabited

/-- Equality of what lies in one cell. -/
def AV.eq1 : EK → AV → AV → Option Bool
  | .b, .bool a, .bool b => some (a == b)
  | .i, .int k a, .int k' b => if k = k' then some (a == b) else none
  | .s, .str a, .str b => some (a.toList == b.toList)
  | _, _, _ => none

def AV.eqCells : List EK → List AV → List AV → Option Bool
  | [], [], [] => some true
  | k :: ks, x :: xs, y :: ys => match AV.eq1 k x y with
    | none => none
    | some b => match AV.eqCells ks xs ys with
      | none => none
      | some c => some (b && c)
  | _, _, _ => none

/-- Is it a struct, by its look? -/
def AV.isAgg : AV → Bool
  | .agg _ => true
  | _ => false

/-- How values are compared: their cells, and whether they are structs. -/
structure EQ where
  ks : List EK
  ag : Bool
  deriving Inhabited

def EQ.fits (q : EQ) (x : AV) : Bool := decide (x.isAgg = q.ag) && decide (x.cells.length = q.ks.length)

def AV.eqv (q : EQ) (x y : AV) : Option Bool :=
  if x.isAgg = q.ag ∧ y.isAgg = q.ag then AV.eqCells q.ks x.cells y.cells else none

/-- Further operations: what they do hangs on their operands' values and the memory alone. -/
inductive FOp where
  | isNil (kd : Nat) (neg : Bool)
  | assert (t : Nat) (zero : AV) (ok : Bool)
  | sliceA (n k : Nat) (lo hi : Bool)
  | copy (k : Nat)
  | strBytes
  | range (str : Bool)
  | next (str : Bool)
  | cloneMap
  | entry
  | makeCap (k bytes : Nat) (zero : List AV)
  | birth (k : Nat)
  deriving Inhabited

def FOp.isEff : FOp → Bool
  | .copy _ | .range _ | .next _ | .cloneMap | .makeCap _ _ _ | .birth _ => true
  | _ => false

def FOp.looks : FOp → Bool
  | .entry => true
  | _ => false

inductive IOp where
  | mov (x : Arg)
  | pick (c a b : Arg)
  | new (cells : List AV)
  | tipNew (k : Nat)
  | box (x : Arg)
  | build (zero : List AV) (parts : List (Nat × Nat × Arg))
  | buildSlice (k : Nat) (zero : List AV) (len : Nat) (parts : List (Nat × Arg)) (toRow : Bool)
  | load (k : Option Nat) (a : Arg)
  | store (k : Nat) (a x : Arg)
  | nilCheck (x : Arg)
  | bin (op : BinOp) (x y : Arg)
  | eqv (q : EQ) (neg : Bool) (x y : Arg)
  | un (op : UnOp) (x : Arg)
  | conv (k : IntKind) (x : Arg)
  | same (x : Arg)
  | bytesStr (x : Arg)
  | field (off : Nat) (k : Option Nat) (x : Arg)
  | fieldAddr (off : Nat) (k : Nat) (x : Arg)
  | indexAddr (k : Nat) (x i : Arg)
  | index (k : Option (Nat × Nat × Bool)) (x i : Arg)
  | slice (k : Nat) (x : Arg) (lo hi : Option Arg)
  | lookup (q : EQ) (zero : AV) (ok : Bool) (x i : Arg)
  | mapUpdate (q : EQ) (x i v : Arg)
  | makeMap
  | makeSlice (k bytes : Nat) (zero : List AV) (len : Arg) (toRow : Bool)
  | makeFunc (g : Nat) (first caps : List Arg)
  | makeIface (t : Nat) (x : Arg)
  | extract (x : Arg) (i : Nat)
  | call (g : Arg) (args : List Arg) (keep : Bool)
  | len (kd : Nat) (x : Arg)
  | append (k bytes : Nat) (x y : Arg) (hint : Nat)
  | max2 (x y : Arg)
  | min2 (x y : Arg)
  | delete (x i : Arg)
  | freeze (k : Nat) (x : Arg)
  | never
  | buildT (zero : List AV) (i k : Nat) (parts : List (Nat × Nat × Arg))
  | clear (k : Nat) (zero : List AV) (x : Arg)
  | indexAddrA (n k : Nat) (x i : Arg)
  | callP (g : Arg) (args : List Arg)
  | fn (o : FOp) (xs : List Arg)
  | lazy (d : Nat)
  deriving Inhabited

/-- May it turn the memory? -/
def IOp.isEff : IOp → Bool
  | .new _ | .tipNew _ | .buildT _ _ _ _ | .box _ | .store _ _ _ | .mapUpdate _ _ _ _ | .makeMap | .call _ _ _ | .append _ _ _ _ _ | .delete _ _ | .freeze _ _ | .clear _ _ _ => true
  | .fn o _ => o.isEff
  | .buildSlice _ _ _ _ b => b
  | .makeSlice _ _ _ _ b => b
  | _ => false

/-- Does it look at the memory? -/
def IOp.looks : IOp → Bool
  | .load _ _ | .lookup _ _ _ _ _ | .len _ _ | .bytesStr _ => true
  | .fn o _ => o.looks
  | _ => false

structure IOper where
  dst : Option Nat
  op : IOp
  guard : Option (Nat × Bool) := none
  deriving Inhabited

inductive C where
  | skip
  | reg (ops : List IOper) (outs : List Nat)
  | regD (ops : List (IOper × Nat × Nat)) (outs : List Nat)
  | seq (a b : C)
  | seqT (a : C) (outs : List Nat) (b : C)
  | cond (c : Arg) (a b : C)
  | block (id : Nat) (a : C)
  | loop (keep : List Nat) (pop : Bool) (a : C)
  | exit (id : Nat)
  | ret
  | rangeFunc (g : Arg) (ps : List Nat) (as body : C) (keep : List Nat)
  | cut
  | dfr (g : Nat) (caps : List Arg) (outs : List Nat)
  deriving Inhabited

inductive X where
  | nrm
  | ext (id : Nat)
  | ret
  deriving DecidableEq, Inhabited

/-- How a loop over an iterator stands; the jump that a round has left by. -/
inductive LS where
  | ready
  | busy
  | done (x : X)
  deriving DecidableEq, Inhabited

/-- Objects: a row of cells, with how often it may have moved; a map's entries; the length of a slice that may be appended to; a loop over an iterator. -/
inductive AObj where
  | row (ver : Nat) (cells : List AV)
  | map (es : List (AV × AV))
  | tip (n : Nat)
  | dead
  | loop (ps : List Nat) (as body : C) (env : Env) (st : LS)
  | gone
  | iter (mid n : Nat) (seen : Bool)
  | siter (s : ByteArray) (pos : Nat)
  deriving Inhabited

structure Mem where
  objs : List AObj
  bad : Option Nat := none
  deriving Inhabited

/-- What an object names lies below a number. -/
def AObj.under (n : Nat) : AObj → Bool
  | .row _ cs => AV.underAll n cs
  | .map es => es.all fun e => AV.under n e.1 && AV.under n e.2
  | .loop _ _ _ env _ => AV.underAll n (env.map (·.2))
  | .iter mid _ _ => decide (mid < n)
  | _ => true

def minBad (a b : Option Nat) : Option Nat :=
  match a, b with
  | none, b => b
  | a, none => a
  | some x, some y => some (min x y)

def Mem.push (M : Mem) (o : AObj) : Mem :=
  { objs := M.objs ++ [o], bad := if o.under (M.objs.length + 1) then M.bad else minBad M.bad (some M.objs.length) }

def Mem.put (M : Mem) (id : Nat) (o : AObj) : Mem :=
  { objs := M.objs.set id o, bad := if o.under (id + 1) then M.bad else minBad M.bad (some id) }

/-- A part of an object is turned: what is new in it may name newer things. -/
def Mem.putC (M : Mem) (id : Nat) (o : AObj) (cs : List AV) : Mem :=
  { objs := M.objs.set id o, bad := if AV.underAll (id + 1) cs then M.bad else minBad M.bad (some id) }

/-- A loop's standing is turned: it names what it named. -/
def Mem.mark (M : Mem) (id : Nat) (o : AObj) : Mem := { M with objs := M.objs.set id o }

structure IFn where
  body : C
  params : Nat
  res : List (Nat × Option (Option Nat)) := []
  pop : Bool := true
  keep : Bool := false
  orc : List AV → Mem → Option (AV × Mem) := fun _ _ => none
  deriving Inhabited

abbrev Res := Option (X × Env × Mem)

def aShift (op : BinOp) (k : IntKind) (x y : Int) : Option AV :=
  if y < 0 then none else
    let n := min y.toNat k.bits
    match op with
    | .shl => some (.int k (k.wrap (x * 2 ^ n)))
    | .shr => some (.int k (x.fdiv (2 ^ n)))
    | _ => none

def aBits (op : BinOp) (k : IntKind) (x y : Int) : Option AV :=
  let a := BitVec.ofInt k.bits x
  let b := BitVec.ofInt k.bits y
  match op with
  | .and => some (.int k (k.wrap (a &&& b).toNat))
  | .or => some (.int k (k.wrap (a ||| b).toNat))
  | .xor => some (.int k (k.wrap (a ^^^ b).toNat))
  | .andNot => some (.int k (k.wrap (a &&& ~~~b).toNat))
  | _ => none

def aCmp (op : BinOp) (x y : Int) : Option AV :=
  match op with
  | .eql => some (.bool (x == y))
  | .neq => some (.bool (x != y))
  | .lss => some (.bool (x < y))
  | .leq => some (.bool (x ≤ y))
  | .gtr => some (.bool (x > y))
  | .geq => some (.bool (x ≥ y))
  | _ => none

def aInt (op : BinOp) (k : IntKind) (x y : Int) : Option AV :=
  match op with
  | .add => some (.int k (k.wrap (x + y)))
  | .sub => some (.int k (k.wrap (x - y)))
  | .mul => some (.int k (k.wrap (x * y)))
  | .quo => if y = 0 then none else some (.int k (k.wrap (x.tdiv y)))
  | .rem => if y = 0 then none else some (.int k (x.tmod y))
  | .and | .or | .xor | .andNot => aBits op k x y
  | .shl | .shr => none
  | _ => aCmp op x y

def aStr (op : BinOp) (x y : ByteArray) : Option AV :=
  let eq := x.toList == y.toList
  let lt := Op.bytesLess x.toList y.toList
  match op with
  | .add => if x.size + y.size ≤ 140737488355328 then some (.str (x ++ y)) else none
  | .eql => some (.bool eq)
  | .neq => some (.bool !eq)
  | .lss => some (.bool lt)
  | .leq => some (.bool (lt || eq))
  | .gtr => some (.bool !(lt || eq))
  | .geq => some (.bool !lt)
  | _ => none

def aBin (op : BinOp) : AV → AV → Option AV
  | .int k a, .int k' b =>
    match op with
    | .shl => aShift .shl k a b
    | .shr => aShift .shr k a b
    | op => if k = k' then aInt op k a b else none
  | .str a, .str b => aStr op a b
  | _, _ => none

def aUn (op : UnOp) : AV → Option AV
  | .int k n => match op with
    | .neg => some (.int k (k.wrap (0 - n)))
    | _ => none
  | .bool b => match op with
    | .not => some (.bool !b)
    | _ => none
  | _ => none

/-- The part of k cells at a place: one cell as it is, more as a struct. -/
def partOf (xs : List AV) (off : Nat) : Option Nat → Option AV
  | none => xs[off]?
  | some k => if off + k ≤ xs.length then some (.agg ((xs.drop off).take k)) else none

/-- The list of a slice's elements. -/
def Mem.elems (M : Mem) (k : Nat) : AV → Option (List AV)
  | .list _ k' xs => if k = k' ∨ xs = [] then some xs else none
  | .ref id ver off len => match M.objs[id]? with
    | some (.row ver' cs) => if ver = ver' ∧ off + len * k ≤ cs.length then
        some ((List.range len).map fun i => if k = 1 then (cs[off + i]?).getD (.tuple []) else .agg ((cs.drop (off + i * k)).take k)) else none
    | _ => none
  | _ => none

def Mem.load (M : Mem) (k : Option Nat) : AV → Option AV
  | .cptr x => match k with
    | none => match x with
      | .agg [y] => some y
      | .agg _ => none
      | x => some x
    | some n => if x.cells.length = n then some (.agg x.cells) else none
  | .ptr id ver off => match M.objs[id]? with
    | some (.row ver' cs) => if ver = ver' then partOf cs off k else none
    | _ => none
  | _ => none

def setCells (cs : List AV) (off : Nat) (xs : List AV) : List AV :=
  cs.take off ++ xs ++ cs.drop (off + xs.length)

def Mem.store (M : Mem) (k : Nat) : AV → AV → Option Mem
  | .ptr id ver off, x => match M.objs[id]? with
    | some (.row ver' cs) =>
      if ver = ver' ∧ x.cells.length = k ∧ off + k ≤ cs.length ∧ x.solid then
        some (M.putC id (.row ver (setCells cs off x.cells)) x.cells)
      else none
    | _ => none
  | _, _ => none

def Mem.newRow (M : Mem) (cs : List AV) : AV × Mem :=
  (.ptr M.objs.length 0 0, M.push (.row 0 cs))

def fillParts (cells : List AV) : List (Nat × Nat × AV) → Option (List AV)
  | [] => some cells
  | (off, size, v) :: rest =>
    if v.cells.length = size ∧ off + size ≤ cells.length ∧ v.solid then fillParts (setCells cells off v.cells) rest else none

def partArgs (L : Env) : List (Nat × Nat × Arg) → Option (List (Nat × Nat × AV))
  | [] => some []
  | (o, s, a) :: as => match a.ev L with
    | none => none
    | some v => match partArgs L as with
      | none => none
      | some vs => some ((o, s, v.untag1) :: vs)

def elemArgs (L : Env) (k : Nat) : List (Nat × Arg) → Option (List (Nat × Nat × AV))
  | [] => some []
  | (i, a) :: as => match a.ev L with
    | none => none
    | some v => match elemArgs L k as with
      | none => none
      | some vs => some ((i * k, k, v.untag) :: vs)

def rep (z : List AV) : Nat → List AV
  | 0 => []
  | n + 1 => z ++ rep z n

def toElems (k : Nat) (cs : List AV) : Nat → List AV
  | 0 => []
  | n + 1 => (if k = 1 then (cs.head?).getD (.tuple []) else .agg (cs.take k)) :: toElems k (cs.drop k) n

def findKey (q : EQ) (i : AV) : List (AV × AV) → Option (Option AV)
  | [] => some none
  | (x, v) :: es => match AV.eqv q i x with
    | none => none
    | some true => some (some v)
    | some false => findKey q i es

def putKey (q : EQ) (i v : AV) : List (AV × AV) → Option (List (AV × AV))
  | [] => some [(i, v)]
  | (x, u) :: es => match AV.eqv q i x with
    | none => none
    | some true => some ((i, v) :: es)
    | some false => match putKey q i v es with
      | none => none
      | some es' => some ((x, u) :: es')

/-- The greatest slice, in bytes. -/
def room : Nat := 140737488355328

/-- A row's unit: how many cells an element has of what may grow; nought where it may not. -/
def unitOf (ver : Nat) : Nat := ver % 65536

/-- The cells of elements. -/
def flat (xs : List AV) : List AV := xs.flatMap AV.cells

def Tag.free : Tag → Bool
  | .own _ => false
  | _ => true

def aAppend (M : Mem) (k bytes : Nat) (x : AV) (ys : List AV) (hint : Nat) : Option (AV × Mem) :=
  match x with
  | .list g k' xs =>
    if (k = k' ∨ (xs = [] ∧ g.free = true)) ∧ (xs.length + ys.length) * bytes ≤ room ∧ xs.length + ys.length ≤ room ∧ ys.all (fun y => y.cells.length == k) ∧ 0 < k then
      if ys = [] then some (.list g k xs, M) else
      match g with
      | .own t => match M.objs[t]? with
        | some (.tip n) => if n = xs.length then
            some (.list (.own t) k (xs ++ ys), M.put t (.tip (n + ys.length))) else none
        | _ => none
      | .full => if hint = 1 then
            if k < 65536 then some (.ref M.objs.length k 0 (xs.length + ys.length), M.push (.row k (flat (xs ++ ys)))) else none
          else some (.list (.own M.objs.length) k (xs ++ ys), M.push (.tip (xs.length + ys.length)))
      | _ => none
    else none
  | .ref id ver off len =>
    if unitOf ver = k ∧ off = 0 ∧ (len + ys.length) * bytes ≤ room ∧ len + ys.length ≤ room ∧ ys.all (fun y => y.cells.length == k) ∧ 0 < k then
      if ys = [] then some (.ref id ver off len, M) else
      match M.objs[id]? with
      | some (.row ver' cs) => if ver = ver' ∧ len * k ≤ cs.length then
          some (.ref id (ver + 65536) 0 (len + ys.length), M.put id (.row (ver + 65536) (cs.take (len * k) ++ flat ys))) else none
      | _ => none
    else none
  | _ => none

/-- Is it nil? Of a slice, a pointer, a map, a function, an interface. -/
def aNil : Nat → AV → Option Bool
  | 0, .list g _ xs => if g = .nil then some true else if g = .non ∨ xs ≠ [] then some false else none
  | 0, .ref _ _ _ _ => some false
  | 1, .nilptr => some true
  | 1, .ptr _ _ _ | 1, .cptr _ => some false
  | 2, .nilmap => some true
  | 2, .map _ => some false
  | 3, .nilfunc => some true
  | 3, .func _ _ _ => some false
  | 4, .niliface => some true
  | 4, .iface _ _ => some false
  | _, _ => none

def aIsNil (kd : Nat) (neg : Bool) (x : AV) : Option AV :=
  match aNil kd x with
  | none => none
  | some b => some (.bool (if neg then !b else b))

/-- The cells of a slice become zero. -/
def aClear (M : Mem) (k : Nat) (zero : List AV) : AV → Option Mem
  | .ref id ver off len => if len = 0 then some M else match M.objs[id]? with
    | some (.row ver' cs) => if ver = ver' ∧ off + len * k ≤ cs.length ∧ zero.length = k ∧ 0 < k then some (M.put id (.row ver (setCells cs off (rep zero len)))) else none
    | _ => none
  | .list _ _ [] => some M
  | _ => none

def bound (x : Option AV) (d y : Nat) : Option Nat :=
  match x with
  | none => some d
  | some (.int _ i) => if 0 ≤ i ∧ i ≤ y then some i.toNat else none
  | _ => none

/-- What an interface holds, if it is of the type. -/
def aAssert (t : Nat) (zero : AV) (ok : Bool) : AV → Option AV
  | .iface t' v => if t' = t then some (if ok then .tuple [v, .bool true] else v) else if ok then some (.tuple [zero, .bool false]) else none
  | .niliface => if ok then some (.tuple [zero, .bool false]) else none
  | _ => none

/-- Elements are copied into a row. -/
def aCopy (M : Mem) (k : Nat) (x : AV) (ys : List AV) : Option (AV × Mem) :=
  match x with
  | .ref id ver off len => match ys.take len with
    | [] => some (.int .i64 0, M)
    | z :: zs => match M.objs[id]? with
      | some (.row ver' cs) => if ver = ver' ∧ off + (z :: zs).length * k ≤ cs.length ∧ (z :: zs).all (fun y => y.cells.length == k) ∧ 0 < k then
          some (.int .i64 (z :: zs).length, M.put id (.row ver (setCells cs off (flat (z :: zs))))) else none
      | _ => none
  | .list _ _ [] => some (.int .i64 0, M)
  | _ => none

/-- A string's bytes. -/
def aBytes : AV → Option AV
  | .str s => some (.list .shared 1 (s.data.toList.map fun b => .int .u8 b.toNat))
  | _ => none

/-- A slice of an array that is written. -/
def aSliceA (n k : Nat) (x : AV) (lo hi : Option AV) : Option AV :=
  match x with
  | .ptr id ver off => match bound hi n n with
    | none => none
    | some h => match bound lo 0 h with
      | none => none
      | some l => if 0 < k ∧ unitOf ver = 0 then some (if h = l then .list .shared k [] else .ref id ver (off + l * k) (h - l)) else none
  | _ => none

/-- An iterator over a map of one entry at most, or a string. -/
def aRange (M : Mem) : Bool → AV → Option (AV × Mem)
  | false, .map id => match M.objs[id]? with
    | some (.map es) => if es.length ≤ 1 then some (.ptr M.objs.length 0 0, M.push (.iter id es.length false)) else none
    | _ => none
  | true, .str s => some (.ptr M.objs.length 0 0, M.push (.siter s 0))
  | _, _ => none

def aNext (M : Mem) : Bool → AV → Option (AV × Mem)
  | false, .ptr id 0 0 => match M.objs[id]? with
    | some (.iter mid n seen) => match M.objs[mid]? with
      | some (.map es) => if es.length = n then match es, seen with
        | [e], false => some (.tuple [.bool true, e.1, e.2], M.put id (.iter mid n true))
        | _, _ => some (.tuple [.bool false], M)
        else none
      | _ => none
    | _ => none
  | true, .ptr id 0 0 => match M.objs[id]? with
    | some (.siter s pos) => if pos < s.size then
        some (.tuple [.bool true, .int .i64 pos, .int .i32 (Utf8.decode s pos).1], M.put id (.siter s (pos + (Utf8.decode s pos).2)))
      else some (.tuple [.bool false], M)
    | _ => none
  | _, _ => none

/-- The entry where an iterator stands. -/
def aEntry (M : Mem) : AV → Option AV
  | .ptr id 0 0 => match M.objs[id]? with
    | some (.iter mid n true) => match M.objs[mid]? with
      | some (.map es) => if es.length = n then match es with
        | [e] => some (.tuple [e.1, e.2])
        | _ => none
        else none
      | _ => none
    | _ => none
  | _ => none

/-- An empty slice with room. -/
def aMakeCap (M : Mem) (k bytes : Nat) (zero : List AV) : AV → AV → Option (AV × Mem)
  | .int .i64 l, .int .i64 c => if l = 0 ∧ 0 ≤ c ∧ c * bytes ≤ room ∧ c ≤ room ∧ zero.length = k ∧ 0 < k then
      some (.list (.own M.objs.length) k [], M.push (.tip 0)) else none
  | _, _ => none

/-- A copy of a map. -/
def aCloneMap (M : Mem) : AV → Option (AV × Mem)
  | .iface t (.map id) => match M.objs[id]? with
    | some (.map es) => some (.iface t (.map M.objs.length), M.push (.map es))
    | _ => none
  | _ => none

def valF (x : Option AV) (M : Mem) : Option (AV × Mem) :=
  match x with
  | none => none
  | some v => some (v, M)

/-- What a further operation does. -/
def aFn : FOp → List AV → Mem → Option (AV × Mem)
  | .isNil kd neg, [x], M => valF (aIsNil kd neg x) M
  | .assert t zero ok, [x], M => valF (aAssert t zero ok x) M
  | .sliceA n k false false, [x], M => valF (aSliceA n k x none none) M
  | .sliceA n k true false, [x, l], M => valF (aSliceA n k x (some l) none) M
  | .sliceA n k false true, [x, h], M => valF (aSliceA n k x none (some h)) M
  | .sliceA n k true true, [x, l, h], M => valF (aSliceA n k x (some l) (some h)) M
  | .copy k, [x, y], M => match M.elems k y with
    | none => none
    | some ys => aCopy M k x (ys.map AV.untag)
  | .strBytes, [x], M => valF (aBytes x) M
  | .range str, [x], M => aRange M str x
  | .next str, [x], M => aNext M str x
  | .cloneMap, [x], M => aCloneMap M x
  | .entry, [x], M => valF (aEntry M x) M
  | .makeCap k bytes zero, [l, c], M => aMakeCap M k bytes zero l c
  | .birth k, [x], M => if x.solid ∧ x.cells.length = k then some (.ptr M.objs.length 0 0, M.push (.row 0 x.cells)) else none
  | _, _, _ => none

/-- The address of an array's element. -/
def aIndexAddrA (n k : Nat) : AV → AV → Option AV
  | .cptr x, .int _ i => if 0 ≤ i ∧ i < n ∧ i.toNat * k + k ≤ x.cells.length then some (.cptr (.agg ((x.cells.drop (i.toNat * k)).take k))) else none
  | .ptr id ver off, .int _ i => if 0 ≤ i ∧ i < n then some (.ptr id ver (off + i.toNat * k)) else none
  | _, _ => none

def aLen (M : Mem) (kd : Nat) (x : AV) : Option AV :=
  match kd, x with
  | 0, .str s => some (.int .i64 s.size)
  | 1, .list _ _ xs => some (.int .i64 xs.length)
  | 1, .ref _ _ _ n => some (.int .i64 n)
  | 2, .nilmap => some (.int .i64 0)
  | 2, .map id => match M.objs[id]? with
    | some (.map es) => some (.int .i64 es.length)
    | _ => none
  | _, _ => none

def aIndexAddr (M : Mem) (k : Nat) : AV → AV → Option AV
  | .list _ k' xs, .int _ i => if 0 ≤ i ∧ i < xs.length ∧ k = k' then
      match xs[i.toNat]? with
      | some x => some (.cptr x)
      | none => none
    else none
  | .ref id ver off len, .int _ i => if 0 ≤ i ∧ i < len then some (.ptr id ver (off + i.toNat * k)) else none
  | _, _ => none

def aFieldAddr (off k : Nat) : AV → Option AV
  | .cptr x => if off + k ≤ x.cells.length then some (.cptr (.agg ((x.cells.drop off).take k))) else none
  | .ptr id ver o => some (.ptr id ver (o + off))
  | _ => none

def aIndex (k : Option (Nat × Nat × Bool)) (x i : AV) : Option AV :=
  match k, x, i with
  | none, .str s, .int _ i => if 0 ≤ i then match s[i.toNat]? with
      | some b => some (.int .u8 b.toNat)
      | none => none
    else none
  | some (len, size, isAgg), .agg xs, .int _ i => if 0 ≤ i ∧ i < len then partOf xs (i.toNat * size) (if isAgg then some size else none) else none
  | _, _, _ => none

def aSlice (k : Nat) (x : AV) (lo hi : Option AV) : Option AV :=
  match x with
  | .str s => match bound hi s.size s.size with
    | none => none
    | some h => match bound lo 0 h with
      | none => none
      | some l => if k = 0 then some (.str (s.extract l h)) else none
  | .list _ k' xs => match bound hi xs.length xs.length with
    | none => none
    | some h => match bound lo 0 h with
      | none => none
      | some l => if (k = k' ∨ xs = []) ∧ 0 < k then some (.list .shared k' ((xs.take h).drop l)) else none
  | .ref id ver off len => match bound hi len len with
    | none => none
    | some h => match bound lo 0 h with
      | none => none
      | some l => if 0 < k ∧ (unitOf ver = 0 ∨ unitOf ver = k) then some (if h = l ∧ 0 < l then .list .shared k [] else .ref id ver (off + l * k) (h - l)) else none
  | _ => none

def optArg (L : Env) : Option Arg → Option (Option AV)
  | none => some none
  | some a => match a.ev L with
    | none => none
    | some v => some (some v)

def bytesOf : List AV → Option (List UInt8)
  | [] => some []
  | .int .u8 n :: xs => match bytesOf xs with
    | none => none
    | some bs => some (UInt8.ofNat n.toNat :: bs)
  | _ => none

def guardOk (L : Env) : Option (Nat × Bool) → Option Bool
  | none => some true
  | some (s, want) => match L.get s with
    | some (.bool b) => some (b == want)
    | some (.tuple []) => some false
    | _ => none

def pushL (dst : Option Nat) (v : AV) (L : Env) : Env :=
  match dst with
  | none => L
  | some d => (d, v) :: L

/-- Where the numbers of loops begin, behind those of functions. -/
def yb : Nat := 4294967296

section ev
variable (call : Nat → List AV → Mem → Option (AV × Mem))

def evOp (L : Env) (M : Mem) : IOp → Option (AV × Mem)
  | .mov x => match x.ev L with
    | none => none
    | some v => some (v, M)
  | .same x => match x.ev L with
    | some (.str v) => some (.str v, M)
    | _ => none
  | .pick c a b => match c.ev L with
    | some (.bool t) => match (if t then a else b).ev L with
      | none => none
      | some v => some (v, M)
    | _ => none
  | .new cs => some (M.newRow cs)
  | .tipNew k => some (.list (.own M.objs.length) k [], M.push (.tip 0))
  | .box x => match x.ev L with
    | none => none
    | some v => if v.solid then some (M.newRow v.cells) else none
  | .build zero parts => match partArgs L parts with
    | none => none
    | some ps => match fillParts zero ps with
      | none => none
      | some cs => some (.agg cs, M)
  | .buildSlice k zero len parts toRow => match elemArgs L k parts with
    | none => none
    | some ps => if k = 0 ∨ zero.length ≠ k ∨ len * k > 16777216 then none else
      match fillParts (rep zero len) ps with
      | none => none
      | some cs => if toRow then some (.ref M.objs.length 0 0 len, (M.newRow cs).2) else some (.list .full k (toElems k cs len), M)
  | .load k a => match a.ev L with
    | none => none
    | some p => match M.load k p with
      | none => none
      | some v => some (v, M)
  | .store k a x => match a.ev L, x.ev L with
    | some p, some v => match M.store k p v with
      | none => none
      | some M' => some (.tuple [], M')
    | _, _ => none
  | .nilCheck x => match x.ev L with
    | some (.ptr a b c) => some (.ptr a b c, M)
    | some (.cptr y) => some (.cptr y, M)
    | some (.func g a b) => some (.func g a b, M)
    | some (.yield id) => some (.yield id, M)
    | _ => none
  | .bin op x y => match x.ev L, y.ev L with
    | some a, some b => match aBin op a b with
      | none => none
      | some v => some (v, M)
    | _, _ => none
  | .eqv q neg x y => match x.ev L, y.ev L with
    | some a, some b => match AV.eqv q a b with
      | none => none
      | some t => some (.bool (if neg then !t else t), M)
    | _, _ => none
  | .un op x => match x.ev L with
    | none => none
    | some a => match aUn op a with
      | none => none
      | some v => some (v, M)
  | .conv k x => match x.ev L with
    | some (.int _ n) => some (.int k (k.wrap n), M)
    | _ => none
  | .bytesStr x => match x.ev L with
    | none => none
    | some v => match M.elems 1 v with
      | none => none
      | some xs => match bytesOf xs with
        | none => none
        | some bs => some (.str ⟨bs.toArray⟩, M)
  | .field off k x => match x.ev L with
    | some (.agg xs) => match partOf xs off k with
      | none => none
      | some v => some (v, M)
    | _ => none
  | .fieldAddr off k x => match x.ev L with
    | none => none
    | some p => match aFieldAddr off k p with
      | none => none
      | some v => some (v, M)
  | .indexAddr k x i => match x.ev L, i.ev L with
    | some a, some b => match aIndexAddr M k a b with
      | none => none
      | some v => some (v, M)
    | _, _ => none
  | .index k x i => match x.ev L, i.ev L with
    | some a, some b => match aIndex k a b with
      | none => none
      | some v => some (v, M)
    | _, _ => none
  | .slice k x lo hi => match x.ev L, optArg L lo, optArg L hi with
    | some a, some l, some h => match aSlice k a l h with
      | none => none
      | some v => some (v, M)
    | _, _, _ => none
  | .lookup q zero ok x i => match x.ev L, i.ev L with
    | some (.map id), some b => if q.fits b then match M.objs[id]? with
      | some (.map es) => match findKey q b es with
        | none => none
        | some (some v) => some (if ok then .tuple [v, .bool true] else v, M)
        | some none => some (if ok then .tuple [zero, .bool false] else zero, M)
      | _ => none
      else none
    | some .nilmap, some b => if q.fits b then some (if ok then .tuple [zero, .bool false] else zero, M) else none
    | _, _ => none
  | .mapUpdate q x i v => match x.ev L, i.ev L, v.ev L with
    | some (.map id), some b, some c => if q.fits b then match M.objs[id]? with
      | some (.map es) => match putKey q b c es with
        | none => none
        | some es' => some (.tuple [], M.put id (.map es'))
      | _ => none
      else none
    | _, _, _ => none
  | .makeMap => some (.map M.objs.length, M.push (.map []))
  | .makeSlice k bytes zero len toRow => match len.ev L with
    | some (.int .i64 n) => if 0 ≤ n ∧ n * bytes ≤ room ∧ n ≤ room ∧ zero.length = k ∧ 0 < k then
        if toRow then some (.ref M.objs.length 0 0 n.toNat, (M.newRow (rep zero n.toNat)).2)
        else some (.list .full k (List.replicate n.toNat (if k = 1 then (zero.head?).getD (.tuple []) else .agg zero)), M)
      else none
    | _ => none
  | .makeFunc g first caps => match evArgs L first, evArgs L caps with
    | some a, some b => some (.func g a b, M)
    | _, _ => none
  | .makeIface t x => match x.ev L with
    | none => none
    | some v => some (.iface t v, M)
  | .extract x i => match x.ev L with
    | some (.tuple xs) => match xs[i]? with
      | none => none
      | some v => some (v, M)
    | _ => none
  | .call g args keep => match g.ev L, evArgs L args with
    | some (.func f first caps), some vs => call f (first ++ (if keep then vs else vs.map AV.untag) ++ caps) M
    | some (.yield id), some vs => call (yb + id) (if keep then vs else vs.map AV.untag) M
    | _, _ => none
  | .callP g args => match g.ev L, evArgs L args with
    | some (.func f first caps), some vs => if AV.underAll 0 (first ++ vs.map AV.untag ++ caps) = true then match call f (first ++ vs.map AV.untag ++ caps) ⟨[], none⟩ with
      | some (r, ⟨[], _⟩) => some (r, M)
      | _ => none else none
    | _, _ => none
  | .len kd x => match x.ev L with
    | none => none
    | some v => match aLen M kd v with
      | none => none
      | some n => some (n, M)
  | .append k bytes x y hint => match x.ev L, y.ev L with
    | some a, some b => match M.elems k b with
      | none => none
      | some ys => aAppend M k bytes a (ys.map AV.untag) hint
    | _, _ => none
  | .max2 x y => match x.ev L, y.ev L with
    | some (.int k a), some (.int _ b) => some (.int k (if b > a then b else a), M)
    | _, _ => none
  | .min2 x y => match x.ev L, y.ev L with
    | some (.int k a), some (.int _ b) => some (.int k (if b < a then b else a), M)
    | _, _ => none
  | .delete _ _ => none
  | .freeze k x => match x.ev L with
    | some (.ref id ver off len) => match M.elems k (.ref id ver off len) with
      | none => none
      | some xs => some (.list .shared k (xs.map AV.untag), M.put id .dead)
    | some v => some (v, M)
    | none => none
  | .never => none
  | .fn o xs => match evArgs L xs with
    | none => none
    | some vs => aFn o vs M
  | .lazy d => match L.get d with
    | none => some (.tuple [], M)
    | some _ => none
  | .clear k zero x => match x.ev L with
    | none => none
    | some v => match aClear M k zero v with
      | none => none
      | some m => some (.tuple [], m)
  | .indexAddrA n k x i => match x.ev L, i.ev L with
    | some a, some b => match aIndexAddrA n k a b with
      | none => none
      | some v => some (v, M)
    | _, _ => none
  | .buildT zero i k parts => match partArgs L parts with
    | none => none
    | some ps => match zero[i]? with
      | some (.list .full 0 []) => match fillParts (zero.set i (.list (.own M.objs.length) k [])) ps with
        | none => none
        | some cs => some (.agg cs, M.push (.tip 0))
      | _ => none

def evOps : List IOper → Env → Mem → Option (Env × Mem)
  | [], L, M => some (L, M)
  | o :: os, L, M => match guardOk L o.guard with
    | none => none
    | some false => evOps os (pushL o.dst (.tuple []) L) M
    | some true => match evOp call L M o.op with
      | none => none
      | some (v, M') => evOps os (pushL o.dst v L) M'

/-- A region whose order is open: the order of the text, and what was met: the environments, the values, and the memory behind each that may turn it. -/
def evOpsD : List (IOper × Nat × Nat) → Env → Mem → List Mem → Option (Env × Mem × List Mem × List (Env × AV × Bool))
  | [], L, M, ms => some (L, M, ms, [])
  | (o, _) :: os, L, M, ms => match guardOk L o.guard with
    | none => none
    | some false => match evOpsD os (pushL o.dst (.tuple []) L) M (if o.op.isEff then ms ++ [M] else ms) with
      | none => none
      | some (L', M', ms', tr) => some (L', M', ms', (L, .tuple [], false) :: tr)
    | some true => match evOp call L M o.op with
      | none => none
      | some (v, M1) => match evOpsD os (pushL o.dst v L) M1 (if o.op.isEff then ms ++ [M1] else ms) with
        | none => none
        | some (L', M', ms', tr) => some (L', M', ms', (L, v, true) :: tr)

/-- At each memory that an operation may meet it yields the same. -/
def stays (op : IOp) (L : Env) (v : AV) (ms : List Mem) (lo : Nat) : Nat → Bool
  | 0 => true
  | n + 1 => (match ms[lo]? with
    | none => false
    | some m => match evOp call L m op with
      | none => false
      | some (u, _) => AV.beq u v) && stays op L v ms (lo + 1) n

def stayAll (ms : List Mem) : List (IOper × Nat × Nat) → List (Env × AV × Bool) → Bool
  | (o, lo, n) :: os, (L, v, ran) :: tr => (if ran && o.op.looks then stays call o.op L v ms lo n else true) && stayAll ms os tr
  | _, _ => true

def badOk (n : Nat) : Option Nat → Bool
  | none => true
  | some b => decide (n ≤ b)

/-- A loop's head: only what is live is kept. -/
def popTo (n : Nat) (old : Option Nat) (env : Env) (M : Mem) : Mem :=
  if AV.underAll n (env.map (·.2)) && badOk n M.bad then { objs := M.objs.take n, bad := old } else M

def popAt (pop : Option (Nat × Option Nat)) (env : Env) (M : Mem) : Mem :=
  match pop with
  | none => M
  | some (n, b) => popTo n b env M

def iter (f : Env → Mem → Res) (keep : List Nat) (pop : Option (Nat × Option Nat)) : Nat → Env → Mem → Res
  | 0, _, _ => none
  | m + 1, env, M =>
    match f (env.keep keep) (popAt pop (env.keep keep) M) with
    | some (.nrm, env', M') => iter f keep pop m env' M'
    | r => r

def evC (n : Nat) : C → Env → Mem → Res
  | .skip, env, M => some (.nrm, env, M)
  | .reg ops outs, env, M => match evOps call ops env M with
    | none => none
    | some (L, M') => some (.nrm, L.keep outs, M')
  | .regD ops outs, env, M => match evOpsD call ops env M [M] with
    | none => none
    | some (L, M', ms, tr) => if stayAll call ms ops tr then some (.nrm, L.keep outs, M') else none
  | .seq a b, env, M => match evC n a env M with
    | some (.nrm, env', M') => evC n b env' M'
    | r => r
  | .seqT a outs b, env, M => match evC n a env M with
    | some (.nrm, env', M') => evC n b (env'.keep outs) M'
    | r => r
  | .cond c a b, env, M => match c.ev env with
    | some (.bool true) => evC n a env M
    | some (.bool false) => evC n b env M
    | _ => none
  | .block id a, env, M => match evC n a env M with
    | some (.ext i, env', M') => if i = id then some (.nrm, env', M') else some (.ext i, env', M')
    | r => r
  | .loop keep pop a, env, M => iter (evC n a) keep (if pop then some (M.objs.length, M.bad) else none) n env M
  | .exit id, env, M => some (.ext id, env, M)
  | .ret, env, M => some (.ret, env, M)
  | .rangeFunc g ps as body keep, env, M => match g.ev env with
    | some (.func f first caps) => match call f (first ++ [.yield M.objs.length] ++ caps) (M.push (.loop ps as body (env.keep keep) .ready)) with
      | none => none
      | some (_, M') => match M'.objs[M.objs.length]? with
        | some (.loop _ _ _ _ .ready) => some (.nrm, env.keep keep, M'.mark M.objs.length .gone)
        | some (.loop _ _ _ _ (.done x)) => some (x, env.keep keep, M'.mark M.objs.length .gone)
        | _ => none
    | _ => none
  | .cut, _, _ => none
  | .dfr _ caps outs, env, M => match evArgs env caps with
    | none => none
    | some _ => some (.nrm, env.keep outs, M)
end ev

def resVal (env : Env) (M : Mem) : List (Nat × Option (Option Nat)) → Option (List AV)
  | [] => some []
  | (s, c) :: rs => match env.get s with
    | none => none
    | some v => match (match c with | none => some v | some k => M.load k v) with
      | none => none
      | some u => match resVal env M rs with
        | none => none
        | some us => some (u :: us)

def packRes : List AV → AV
  | [v] => v
  | vs => .tuple vs

/-- What is left of the memory behind a call: where the result names nothing new, and nothing old does, what is new is gone. -/
def shrink (n : Nat) (old : Option Nat) (pop : Bool) (r : AV) (M : Mem) : Mem :=
  if pop && AV.under n r && badOk n M.bad then { objs := M.objs.take n, bad := old }
  else { M with bad := minBad old M.bad }

def paramEnv : Nat → List AV → Env
  | _, [] => []
  | i, v :: vs => (i, v) :: paramEnv (i + 1) vs

def runFn (ev : C → Env → Mem → Res) (fn : IFn) (args : List AV) (M : Mem) : Option (AV × Mem) :=
  match fn.orc args M with
  | some r => some r
  | none =>
  if args.length = fn.params then
    match ev fn.body (paramEnv 0 args) { M with bad := none } with
    | some (.nrm, env, M') | some (.ret, env, M') => match resVal env M' fn.res with
      | none => none
      | some rs =>
        let r := if fn.keep then packRes rs else (packRes rs).untag
        some (r, shrink M.objs.length M.bad fn.pop r M')
    | _ => none
  else none

/-- How a round ends. -/
def LS.after : X → LS
  | .nrm => .ready
  | x => .done x

def isNrm : X → Bool
  | .nrm => true
  | _ => false

/-- One round of a loop over an iterator. -/
def runYield (ev : C → Env → Mem → Res) (id : Nat) (args : List AV) (M : Mem) : Option (AV × Mem) :=
  match M.objs[id]? with
  | some (.loop ps as body env .ready) =>
    if args.length = ps.length then
      match ev as (ps.zip args ++ env) M with
      | some (.nrm, e1, M1) => match M1.objs[id]? with
        | some (.loop ps1 as1 body1 env1 .ready) => match ev body e1 (M1.mark id (.loop ps1 as1 body1 env1 .busy)) with
          | some (x, _, M2) => match M2.objs[id]? with
            | some (.loop ps2 as2 body2 env2 .busy) => some (.bool (isNrm x), M2.mark id (.loop ps2 as2 body2 env2 (LS.after x)))
            | _ => none
          | none => none
        | _ => none
      | _ => none
    else none
  | _ => none

def callN (T : Nat → Option IFn) : Nat → Nat → List AV → Mem → Option (AV × Mem)
  | 0, _, _, _ => none
  | n + 1, f, args, M => match T f with
    | none => if yb ≤ f then runYield (evC (callN T n) n) (f - yb) args M else none
    | some fn => runFn (evC (callN T n) n) fn args M

end Go.Am
