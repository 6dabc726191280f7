/- A value semantics for the translated code: what an instruction does to values that are lists, structs and references to blocks of the call's own. Definitions alone: the instructions, their reading of the loaded code, the evaluator. -/
import Derived.Below
import Derived.Orders
import Derived.Laws.Append
import Derived.Laws.AppendOwn
import Derived.WalkKit
import Derived.Laws.Slices
import Derived.Laws.StructEq
import Derived.Laws.Cover3
import Derived.ChangeKeysEq
import Derived.Laws.MakeOwn
import Derived.Laws.Tables
import GoSem.Instr.MapUpdate
import GoSem.Builtin.Delete
import Derived.MapKept
import Derived.WideKeyRuns
import Derived.RangeFuncRecord
namespace Go.Proofs.Ytlcdafidoddefaa.Av
open Go.RowKit

/-- Values as the evaluator has them. 'flat': just that value. 'list': a slice whose cells never change (sz cells an element). 'elem': the address of cell k of a slice. 'mptr', 'ms': an address in, a slice of, a block of the call's own. 'any': whatever it is. 'yld': the function that a range over a function hands on (its loop's block, its round's number, what the round knows). 'mp': a map of the call's own. -/
inductive AV where
  | flat (v : Value)
  | list (sz : Nat) (cs : List AV) (nil capd : Bool)
  | agg (cs : List AV)
  | elem (x : AV) (k : Nat)
  | mptr (id off : Nat)
  | ms (id off len sz : Nat) (capd : Bool)
  | clo (fn : Nat) (caps : List AV)
  | tup (vs : List AV)
  | any
  | yld (id y : Nat) (caps : List AV)
  | mp (id : Nat)
instance : Inhabited AV := ⟨.flat undef⟩

abbrev MS := List (Option (List AV))
abbrev Env := Nat → AV
def upd (e : Env) (t : Nat) (v : AV) : Env := fun x => if x = t then v else e x
def updO (e : Env) (t : Option Nat) (v : AV) : Env := match t with | some t => upd e t v | none => e

inductive O where
  | t (n : Nat)
  | k (v : AV)
def O.ev (env : Env) : O → AV | .t n => env n | .k v => v
def O.reads : O → List Nat | .t n => [n] | .k _ => []

inductive EqK where | no | bool | slice | ptr | arr (n : Nat) (k : IntKind) | str (n : Nat) (k : IntKind)
  deriving DecidableEq
/-- Kinds of a map's keys. -/
inductive MKey where
  | int (k : IntKind) | str | bool | arr (n : Nat) (k : IntKind)
  deriving DecidableEq
/-- More instructions: a pointer or a map beside nil; the slice of an array; maps. -/
inductive XOp where
  | nilc (mp eq : Bool)
  | aslice (n sz : Nat)
  | mkmap
  | mset (mk : MKey)
  | mget (mk : MKey) (ok : Bool) (z : AV)
  | mlen
  | mdel (mk : MKey)
  | mclr

inductive I where
  | mov (x : O)
  | pick (c a b : O)
  | bin (op : BinOp) (ek : EqK) (x y : O)
  | un (op : UnOp) (x : O)
  | convI (k : IntKind) (x : O)
  | convS (x : O)
  | bytesOf (x : O)
  | strOf (x : O)
  | lenS (x : O)
  | lenStr (x : O)
  | load (agg : Bool) (n : Nat) (a : O)
  | store (n : Nat) (a x : O)
  | storeK (n : Nat) (a x : O)
  | alloc (zs : List AV)
  | box (n : Nat) (x : O)
  | build (zs : List AV) (parts : List (Nat × Nat × O))
  | bslice (sz len : Nat) (zs : List AV) (parts : List (Nat × Nat × O))
  | mslice (sz bytes : Nat) (zs : List AV) (n c : O)
  | slice (sz : Nat) (x : O) (lo hi mx : Option O)
  | sstr (x : O) (lo hi : Option O)
  | idx (sz : Nat) (x i : O)
  | aidx (n sz : Nat) (x i : O)
  | ival (n sz : Nat) (agg : Bool) (x i : O)
  | istr (x i : O)
  | fad (off : Nat) (x : O)
  | fld (agg : Bool) (off n : Nat) (x : O)
  | ext (i : Nat) (x : O)
  | clo (fn : Nat) (caps : List O)
  | nilck (x : O)
  | call (f : Nat) (args : List O)
  | calld (f : O) (args : List O)
  | app (sz bytes : Nat) (s x : O)
  | copy (sz : Nat) (d s : O)
  | min (x y : O)
  | max (x y : O)
  | clear (sz : Nat) (zs : List AV) (x : O)
  | xop (o : XOp) (xs : List O)
  | stop

structure AOp where
  dst : Option Nat
  i : I
  g : Option (Nat × Bool)

inductive AC where
  | skip
  | seq (a b : AC)
  | cond (c : O) (a b : AC)
  | block (id : Nat) (a : AC)
  | loop (a : AC)
  | exit (id : Nat)
  | ret
  | region (n : Nat) (ops : List AOp)
  | stop
  | range (y : Nat) (g : O) (pl : List Nat)
  | regionC (n : Nat) (ops : List AOp)
  | regionF (n : Nat) (ops : List AOp)

inductive RV where
  | t (n : Nat)
  | cell (a : Nat) (agg : Bool) (n : Nat)
structure AF where
  body : AC
  res : List RV
  keep : Bool
  K : Bool := false
  rf : Option (Nat × List Nat) := none
/-- A round of a range over a function: where yield's arguments go, what is known of the temporaries, the code. -/
structure AY where
  ps : List Nat
  pl : List Nat
  N : Nat
  K : Bool
  assign : AC
  body : AC

/-! ### Reading memory -/
def isI : AV → Bool
  | .flat _ | .list .. => true
  | .agg cs => all cs
  | .elem x _ => isI x
  | .mptr .. | .ms .. => false
  | .clo _ cs => all cs
  | .tup cs => all cs
  | .any | .yld .. | .mp .. => false
where all : List AV → Bool
  | [] => true
  | c :: cs => isI c && all cs
def allI : List AV → Bool
  | [] => true
  | c :: cs => isI c && allI cs

/-- The cells of a slice. -/
def view (M : MS) : AV → Option (List AV)
  | .list _ cs _ _ => some cs
  | .ms id off len sz _ => match M[id]? with
    | some (some cs) => if off + len * sz ≤ cs.length then some ((cs.drop off).take (len * sz)) else none
    | _ => none
  | _ => none
def lenOf : AV → Option Nat
  | .list sz cs _ _ => some (cs.length / sz)
  | .ms _ _ len _ _ => some len
  | _ => none
def lenM (M : MS) (x : AV) : Option Nat := match view M x with
  | some _ => lenOf x
  | none => none
/-- The cells from an address on. -/
def aview (M : MS) : AV → Option (List AV)
  | .elem x k => (view M x).map (·.drop k)
  | .mptr id off => match M[id]? with
    | some (some cs) => some (cs.drop off)
    | _ => none
  | _ => none
/-- What is read of the cells from an address on. -/
def ldA (agg : Bool) (n : Nat) (cs : List AV) : Option AV := if agg then (if n ≤ cs.length then some (.agg (cs.take n)) else none) else cs.head?
def aliveA (M : MS) (id : Nat) : Bool := match M[id]? with
  | some (some _) => true
  | _ => false
/-- A value's cells. -/
def cellsOf : AV → Option (List AV)
  | .agg cs => some cs
  | .tup _ => none
  | .any => none
  | .yld .. => none
  | .flat v => if v.oneCell' then some [.flat v] else none
  | x => some [x]
def asInt : AV → Option Int
  | .flat (.int _ n) => some n
  | _ => none
def asInt64 : AV → Option Int
  | .flat (.int .i64 n) => some n
  | _ => none
def asBool : AV → Option Bool
  | .flat (.bool b) => some b
  | _ => none
def asInts (k : IntKind) : List AV → Option (List Int)
  | [] => some []
  | .flat (.int k' n) :: r => if k = k' then (asInts k r).map (n :: ·) else none
  | _ :: _ => none
def intBin (op : BinOp) (k : IntKind) (a b : Int) : Option Value :=
  match op with
  | .add => some (.int k (k.wrap (a + b)))
  | .sub => some (.int k (k.wrap (a - b)))
  | .mul => some (.int k (k.wrap (a * b)))
  | .quo => if b = 0 then none else some (.int k (k.wrap (a.tdiv b)))
  | .rem => if b = 0 then none else some (.int k (a.tmod b))
  | .eql => some (.bool (a == b))
  | .neq => some (.bool (a != b))
  | .lss => some (.bool (a < b))
  | .leq => some (.bool (a ≤ b))
  | .gtr => some (.bool (a > b))
  | .geq => some (.bool (a ≥ b))
  | .and => some (.int k (k.wrap (BitVec.ofInt k.bits a &&& BitVec.ofInt k.bits b).toNat))
  | .or => some (.int k (k.wrap (BitVec.ofInt k.bits a ||| BitVec.ofInt k.bits b).toNat))
  | .xor => some (.int k (k.wrap (BitVec.ofInt k.bits a ^^^ BitVec.ofInt k.bits b).toNat))
  | _ => none
def strBin (op : BinOp) (a b : ByteArray) : Option Value :=
  match op with
  | .add => if a.size + b.size ≤ 9223372036854775807 then some (.string (a ++ b)) else none
  | .eql => some (.bool (a.toList == b.toList))
  | .neq => some (.bool !(a.toList == b.toList))
  | .lss => some (.bool (Op.bytesLess a.toList b.toList))
  | .leq => some (.bool (Op.bytesLess a.toList b.toList || a.toList == b.toList))
  | .gtr => some (.bool !(Op.bytesLess a.toList b.toList || a.toList == b.toList))
  | .geq => some (.bool !(Op.bytesLess a.toList b.toList))
  | _ => none
def eqV (op : BinOp) (b : Bool) : Option AV :=
  match op with
  | .eql => some (.flat (.bool b))
  | .neq => some (.flat (.bool !b))
  | _ => none
def bin (op : BinOp) (ek : EqK) : AV → AV → Option AV
  | .flat (.int k a), .flat (.int k' b) => if k = k' then (intBin op k a b).map .flat else none
  | .flat (.string a), .flat (.string b) => (strBin op a b).map .flat
  | .flat (.bool a), .flat (.bool b) => if ek = .bool then eqV op (a == b) else none
  | .list _ _ n _, .list _ [] true _ => if ek = .slice then eqV op n else none
  | .ms .., .list _ [] true _ => if ek = .slice then eqV op false else none
  | .agg xs, .agg ys => match ek with
    | .arr n k => match asInts k xs, asInts k ys with
      | some a, some b => if a.length = n ∧ b.length = n then eqV op (a == b) else none
      | _, _ => none
    | .str n k => match asInts k xs, asInts k ys with
      | some a, some b => if a.length = n ∧ b.length = n then eqV op (a == b) else none
      | _, _ => none
    | _ => none
  | _, _ => none
def unop (op : UnOp) : AV → Option AV
  | .flat (.bool b) => match op with | .not => some (.flat (.bool !b)) | _ => none
  | .flat (.int k n) => match op with | .neg => some (.flat (.int k (k.wrap (0 - n)))) | _ => none
  | _ => none
def fillA (cells : List AV) : List (Nat × Nat × AV) → Option (List AV)
  | [] => some cells
  | (off, n, v) :: r => match cellsOf v with
    | some cs => if cs.length = n ∧ off + n ≤ cells.length then fillA (cells.take off ++ cs ++ cells.drop (off + n)) r else none
    | none => none
def splice (cs : List AV) (off : Nat) (xs : List AV) : List AV := cs.take off ++ xs ++ cs.drop (off + xs.length)
def optNat (d : Nat) : Option AV → Option Nat
  | none => some d
  | some (.flat (.int _ n)) => if 0 ≤ n then some n.toNat else none
  | _ => none
def bytesVals (s : ByteArray) : List AV := s.data.toList.map fun b => .flat (.int .u8 (b.toNat : Int))
/-- What an instruction comes to: a value, nothing written; or a value, the blocks behind, and which of the caller's blocks were written. -/
inductive Out where
  | q (v : AV)
  | x (v : AV) (M : MS) (D : List Nat)
/-- What a call comes to. -/
abbrev Call := Nat → List AV → MS → Option Out

def dirt (base id : Nat) (D : List Nat) : List Nat := if id < base then id :: D else D
/-- The caller's blocks among rows that are given up. -/
def dirts (base : Nat) : List AV → List Nat → List Nat
  | [], D => D
  | .ms id _ _ _ _ :: r, D => dirt base id (dirts base r D)
  | _ :: r, D => dirts base r D

/-- Rows of the call's own that are handed on as values: told as lists; the blocks are given up. -/
def frz (base : Nat) (M : MS) : AV → Option (AV × MS)
  | .ms id off len sz cd => match M[id]? with
    | some (some cs) => if base ≤ id ∧ off + len * sz ≤ cs.length ∧ allI cs then some (.list sz ((cs.drop off).take (len * sz)) false cd, M.set id none) else none
    | _ => none
  | .mptr .. => none
  | x => if isI x then some (x, M) else none
def frzAll (base : Nat) (M : MS) : List AV → Option (List AV × MS)
  | [] => some ([], M)
  | v :: r => match frz base M v with
    | some (v', M') => match frzAll base M' r with
      | some (r', M'') => some (v' :: r', M'')
      | none => none
    | none => none
def frzA (base : Nat) (M : MS) : AV → Option (AV × MS)
  | .agg cs => (frzAll base M cs).map fun (cs, M) => (.agg cs, M)
  | x => frz base M x
def frzTup (base : Nat) (M : MS) : List AV → Option (List AV × MS)
  | [] => some ([], M)
  | v :: r => match frzA base M v with
    | some (v', M') => match frzTup base M' r with
      | some (r', M'') => some (v' :: r', M'')
      | none => none
    | none => none
def frzV (base : Nat) (M : MS) : AV → Option (AV × MS)
  | .tup vs => (frzTup base M vs).map fun (vs, M) => (.tup vs, M)
  | x => frzA base M x

def LIM : Nat := 1099511627776

def storeA (base : Nat) (M : MS) (D : List Nat) (cs : List AV) : AV → Option Out
  | .elem (.ms id off len sz _) k => match frzAll base M cs with
    | some (cs', M') => match M'[id]? with
      | some (some old) => if k + cs'.length ≤ len * sz ∧ off + len * sz ≤ old.length then some (.x (.flat undef) (M'.set id (some (splice old (off + k) cs'))) (dirt base id D)) else none
      | _ => none
    | none => none
  | .mptr id off => match M[id]? with
    | some (some old) => if off + cs.length ≤ old.length then some (.x (.flat undef) (M.set id (some (splice old off cs))) (dirt base id D)) else none
    | _ => none
  | _ => none

/-- What is stored stays what it is: rows of the call's own are not given up. -/
def storeKA (base : Nat) (M : MS) (D : List Nat) (cs : List AV) : AV → Option Out
  | .elem (.ms id off len sz _) k => match M[id]? with
    | some (some old) => if k + cs.length ≤ len * sz ∧ off + len * sz ≤ old.length then some (.x (.flat undef) (M.set id (some (splice old (off + k) cs))) (dirt base id D)) else none
    | _ => none
  | .mptr id off => match M[id]? with
    | some (some old) => if off + cs.length ≤ old.length then some (.x (.flat undef) (M.set id (some (splice old off cs))) (dirt base id D)) else none
    | _ => none
  | _ => none

def appA (base : Nat) (M : MS) (D : List Nat) (sz bytes : Nat) (s : AV) (m : Nat) (news : List AV) : Option Out :=
  if m = 0 then
    match s with
    | .list .. => some (.q s)
    | .ms id _ _ _ _ => if aliveA M id then some (.q s) else none
    | _ => none
  else
  match s with
  | .list sz' cs nil capd =>
    if (nil ∨ sz' = sz) ∧ capd ∧ m * sz = news.length ∧ cs.length / sz + m ≤ LIM ∧ (cs.length / sz + m) * bytes ≤ 140737488355328 then
      some (.x (.ms M.length 0 (cs.length / sz + m) sz false) (M ++ [some (cs ++ news)]) D) else none
  | .ms id off len sz' capd => match M[id]? with
    | some (some old) =>
      if sz' = sz ∧ m * sz = news.length ∧ len + m ≤ LIM ∧ (len + m) * bytes ≤ 140737488355328 ∧ off + len * sz ≤ old.length then
        if capd then some (.x (.ms M.length 0 (len + m) sz false) (M ++ [some ((old.drop off).take (len * sz) ++ news)]) D)
        else if off = 0 then some (.x (.ms M.length 0 (len + m) sz false) (M.set id none ++ [some (old.take (len * sz) ++ news)]) (dirt base id D)) else none
      else none
    | _ => none
  | _ => none

def cutCapd (mx : Option AV) (m h : Nat) (d : Bool) : Bool := match mx with
  | some _ => decide (m = h)
  | none => d
def sliceA (sz : Nat) (x : AV) (lo hi mx : Option AV) : Option Out :=
  match x with
  | .list sz' cs nil capd =>
    let n := cs.length / sz
    match optNat 0 lo, optNat n hi, optNat n mx with
    | some l, some h, some m =>
      if (nil ∨ sz' = sz) ∧ l ≤ h ∧ h ≤ m ∧ m ≤ n ∧ (mx.isSome → hi.isSome) then
        if nil then some (.q x)
        else some (.q (.list sz ((cs.drop (l * sz)).take ((h - l) * sz)) false (cutCapd mx m h (capd && decide (h = n)))))
      else none
    | _, _, _ => none
  | .ms id off len sz' capd =>
    match optNat 0 lo, optNat len hi, optNat len mx with
    | some l, some h, some m =>
      if sz' = sz ∧ l ≤ h ∧ h ≤ m ∧ m ≤ len ∧ (mx.isSome → hi.isSome) then
        if l = 0 then some (.q (.ms id off h sz (cutCapd mx m h (capd && decide (h = len)))))
        else if h = l then some (.q (.list sz [] false (cutCapd mx m h (capd && decide (h = len)))))
        else some (.q (.ms id (off + l * sz) (h - l) sz (cutCapd mx m h (capd && decide (h = len)))))
      else none
    | _, _, _ => none
  | _ => none

/-! ### Pointers beside nil, slices of arrays, maps -/
def keyEqA : MKey → AV → AV → Option Bool
  | .int k, .flat (.int i a), .flat (.int j b) => if i = k ∧ j = k then some (a == b) else none
  | .str, .flat (.string a), .flat (.string b) => some (a == b)
  | .bool, .flat (.bool a), .flat (.bool b) => some (a == b)
  | .arr n k, .agg xs, .agg ys => match asInts k xs, asInts k ys with
    | some a, some b => if a.length = n ∧ b.length = n then some (a == b) else none
    | _, _ => none
  | _, _, _ => none
def findA (mk : MKey) (k : AV) : List AV → Nat → Option (Option (Nat × AV))
  | [], _ => some none
  | .tup [a, b] :: es, i => match keyEqA mk k a with
    | some true => some (some (i, b))
    | some false => findA mk k es (i + 1)
    | none => none
  | _ :: _, _ => none
/-- A key as the evaluator knows it. -/
def isKeyA : MKey → AV → Bool
  | .int k, .flat (.int i _) => i == k
  | .str, .flat (.string _) => true
  | .bool, .flat (.bool _) => true
  | .arr n k, .agg xs => match asInts k xs with
    | some l => l.length == n
    | none => false
  | _, _ => false
/-- What a look-up tells. -/
def getA (ok : Bool) (zA : AV) (r : Option (Nat × AV)) : AV :=
  let v := match r with | some (_, b) => b | none => zA
  if ok then .tup [v, .flat (.bool r.isSome)] else v
def putE (mk : MKey) (k x : AV) (cs : List AV) : Option (List AV) := match findA mk k cs 0 with
  | some none => some (cs ++ [.tup [k, x]])
  | some (some (i, _)) => some (cs.set i (.tup [k, x]))
  | none => none
def delE (mk : MKey) (k : AV) (cs : List AV) : Option (List AV) := match findA mk k cs 0 with
  | some none => some cs
  | some (some (i, _)) => some (cs.eraseIdx i)
  | none => none
def nilP (M : MS) : AV → Option Bool
  | .flat (.pointer none) => some true
  | .mptr id _ => if aliveA M id then some false else none
  | .elem _ _ => some false
  | _ => none
def nilM : AV → Option Bool
  | .flat (.map none) => some true
  | .mp _ => some false
  | _ => none
def nilB (eq : Bool) : Option Bool → Option Bool → Option Out
  | some a, some b => if a || b then some (.q (.flat (.bool ((a == b) == eq)))) else none
  | _, _ => none
def mapA (M : MS) : AV → Option (Nat × List AV)
  | .mp id => match M[id]? with
    | some (some cs) => some (id, cs)
    | _ => none
  | _ => none
def evX (base : Nat) (M : MS) (D : List Nat) : XOp → List AV → Option Out
  | .nilc false eq, [x, y] => nilB eq (nilP M x) (nilP M y)
  | .nilc true eq, [x, y] => nilB eq (nilM x) (nilM y)
  | .aslice n sz, [.mptr id off] => match M[id]? with
    | some (some cs) => if 0 < sz ∧ n ≤ LIM ∧ off + n * sz ≤ cs.length then some (.q (.ms id off n sz true)) else none
    | _ => none
  | .mkmap, [] => some (.x (.mp M.length) (M ++ [some []]) D)
  | .mset mk, [m, k, x] => match mapA M m with
    | some (id, cs) => if isKeyA mk k then (putE mk k x cs).map fun ds => .x (.flat undef) (M.set id (some ds)) (dirt base id D) else none
    | none => none
  | .mget mk ok z, [m, k] => if isKeyA mk k then match nilM m with
      | some true => some (.q (getA ok z none))
      | _ => match mapA M m with
        | some (_, cs) => (findA mk k cs 0).map fun r => .q (getA ok z r)
        | none => none
    else none
  | .mlen, [m] => match nilM m with
    | some true => some (.q (.flat (.int .i64 0)))
    | _ => (mapA M m).map fun p => .q (.flat (.int .i64 (p.2.length : Int)))
  | .mdel mk, [m, k] => if isKeyA mk k then match nilM m with
      | some true => some (.q (.flat (.tuple #[])))
      | _ => match mapA M m with
        | some (id, cs) => (delE mk k cs).map fun ds => .x (.flat (.tuple #[])) (M.set id (some ds)) (dirt base id D)
        | none => none
    else none
  | .mclr, [m] => match nilM m with
    | some true => some (.q (.flat (.tuple #[])))
    | _ => (mapA M m).map fun p => .x (.flat (.tuple #[])) (M.set p.1 (some [])) (dirt base p.1 D)
  | _, _ => none

def evI (call : Call) (base : Nat) (env : Env) (M : MS) (D : List Nat) : I → Option Out
  | .mov x => some (.q (x.ev env))
  | .pick c a b => match asBool (c.ev env) with
    | some t => some (.q (bif t then a.ev env else b.ev env))
    | none => none
  | .bin op ek x y => (bin op ek (x.ev env) (y.ev env)).map .q
  | .un op x => (unop op (x.ev env)).map .q
  | .convI k x => match x.ev env with
    | .flat (.int _ n) => some (.q (.flat (.int k (k.wrap n))))
    | _ => none
  | .convS x => match x.ev env with
    | .flat (.string s) => some (.q (.flat (.string s)))
    | _ => none
  | .bytesOf x => match x.ev env with
    | .flat (.string s) => if s.size ≤ LIM then some (.q (.list 1 (bytesVals s) false false)) else none
    | _ => none
  | .strOf x => match view M (x.ev env), lenM M (x.ev env) with
    | some cs, some n => if n = cs.length then (asInts .u8 cs).map fun l => .q (.flat (.string (l.foldl (fun r n => r.push (UInt8.ofNat n.toNat)) ByteArray.empty))) else none
    | _, _ => none
  | .lenS x => (lenOf (x.ev env)).map fun (n : Nat) => .q (.flat (.int .i64 (n : Int)))
  | .lenStr x => match x.ev env with
    | .flat (.string s) => some (.q (.flat (.int .i64 s.size)))
    | _ => none
  | .load agg n a => match aview M (a.ev env) with
    | some cs => (ldA agg n cs).map .q
    | none => none
  | .store n a x => match cellsOf (x.ev env) with
    | some cs => if cs.length = n then storeA base M D cs (a.ev env) else none
    | none => none
  | .storeK n a x => match cellsOf (x.ev env) with
    | some cs => if cs.length = n then storeKA base M D cs (a.ev env) else none
    | none => none
  | .alloc zs => some (.x (.mptr M.length 0) (M ++ [some zs]) D)
  | .box n x => match cellsOf (x.ev env) with
    | some cs => if cs.length = n then some (.x (.mptr M.length 0) (M ++ [some cs]) D) else none
    | none => none
  | .build zs parts => (fillA zs (parts.map fun (o, n, x) => (o, n, x.ev env))).map fun cs => .q (.agg cs)
  | .bslice sz len zs parts =>
    match fillA ((List.replicate len zs).flatten) (parts.map fun (o, n, x) => (o, n, x.ev env)) with
    | some cs => if allI cs then some (.q (.list sz cs false true)) else
      match frzAll 0 M cs with
      | some (cs', M') => some (.x (.list sz cs' false true) M' (dirts base cs D))
      | none => none
    | none => none
  | .mslice sz bytes zs n c => match n.ev env, c.ev env with
    | .flat (.int _ n), .flat (.int _ c) => if 0 ≤ n ∧ n ≤ c ∧ c ≤ LIM ∧ bytes * c ≤ 140737488355328 then
        some (.x (.ms M.length 0 n.toNat sz (decide (n = c))) (M ++ [some ((List.replicate n.toNat zs).flatten)]) D) else none
    | _, _ => none
  | .slice sz x lo hi mx => match view M (x.ev env) with
    | some _ => sliceA sz (x.ev env) (lo.map (·.ev env)) (hi.map (·.ev env)) (mx.map (·.ev env))
    | none => none
  | .sstr x lo hi => match x.ev env with
    | .flat (.string s) => match optNat 0 (lo.map (·.ev env)), optNat s.size (hi.map (·.ev env)) with
      | some l, some h => if l ≤ h ∧ h ≤ s.size then some (.q (.flat (.string (s.extract l h)))) else none
      | _, _ => none
    | _ => none
  | .idx sz x i => match lenM M (x.ev env), asInt (i.ev env) with
    | some n, some i => if 0 ≤ i ∧ i < n then some (.q (.elem (x.ev env) (i.toNat * sz))) else none
    | _, _ => none
  | .aidx n sz x i => match asInt (i.ev env) with
    | some i => if 0 ≤ i ∧ i < n then match x.ev env with
        | .mptr id off => if aliveA M id then some (.q (.mptr id (off + i.toNat * sz))) else none
        | .elem x k => some (.q (.elem x (k + i.toNat * sz)))
        | _ => none
      else none
    | none => none
  | .ival n sz agg x i => match asInt (i.ev env), x.ev env with
    | some i, .agg cs => if 0 ≤ i ∧ i < n ∧ i.toNat * sz + sz ≤ cs.length then
        (if agg then some (.q (.agg ((cs.drop (i.toNat * sz)).take sz))) else (cs[i.toNat * sz]?).map .q) else none
    | _, _ => none
  | .istr x i => match x.ev env, asInt (i.ev env) with
    | .flat (.string s), some i => if 0 ≤ i then match s[i.toNat]? with
        | some b => some (.q (.flat (.int .u8 b.toNat)))
        | none => none
      else none
    | _, _ => none
  | .fad off x => match x.ev env with
    | .mptr id o => if aliveA M id then some (.q (.mptr id (o + off))) else none
    | .elem x k => some (.q (.elem x (k + off)))
    | _ => none
  | .fld agg off n x => match x.ev env with
    | .agg cs => if off + n ≤ cs.length then (if agg then some (.q (.agg ((cs.drop off).take n))) else (cs[off]?).map .q) else none
    | _ => none
  | .ext i x => match x.ev env with
    | .tup vs => (vs[i]?).map .q
    | _ => none
  | .clo fn caps => some (.q (.clo fn (caps.map (·.ev env))))
  | .nilck x => match x.ev env with
    | .mptr id o => if aliveA M id then some (.q (.mptr id o)) else none
    | .elem x k => some (.q (.elem x k))
    | _ => none
  | .call f args => callA call base M D f (args.map (·.ev env))
  | .calld f args => match f.ev env with
    | .clo f caps => callA call base M D f (args.map (·.ev env) ++ caps)
    | .yld id y caps => callA call base M D y (.yld id y caps :: args.map (·.ev env))
    | _ => none
  | .app sz bytes s x => match view M (x.ev env), lenOf (x.ev env) with
    | some news, some m => appA base M D sz bytes (s.ev env) m news
    | _, _ => none
  | .copy sz d s => match d.ev env, view M (s.ev env), lenOf (s.ev env) with
    | .ms id off len sz' _, some cs, some n => match M[id]? with
      | some (some old) =>
        let k := Nat.min n len
        if sz' = sz ∧ off + len * sz ≤ old.length ∧ k * sz ≤ cs.length then
          some (.x (.flat (.int .i64 k)) (M.set id (some (splice old off (cs.take (k * sz))))) (dirt base id D)) else none
      | _ => none
    | _, _, _ => none
  | .min x y => match x.ev env, y.ev env with
    | .flat (.int k a), .flat (.int k' b) => if k = k' then some (.q (.flat (.int k (if b < a then b else a)))) else none
    | _, _ => none
  | .max x y => match x.ev env, y.ev env with
    | .flat (.int k a), .flat (.int k' b) => if k = k' then some (.q (.flat (.int k (if a < b then b else a)))) else none
    | _, _ => none
  | .clear sz zs x => match x.ev env with
    | .list _ [] _ _ => some (.q (.flat undef))
    | .ms id off len sz' _ => match M[id]? with
      | some (some old) => if sz' = sz ∧ zs.length = sz ∧ off + len * sz ≤ old.length then
          (if len = 0 then some (.q (.flat undef)) else some (.x (.flat undef) (M.set id (some (splice old off (List.replicate len zs).flatten))) (dirt base id D))) else none
      | _ => none
    | _ => none
  | .xop o xs => evX base M D o (xs.map (·.ev env))
  | .stop => none
where
  callA (call : Call) (base : Nat) (M : MS) (D : List Nat) (f : Nat) (args : List AV) : Option Out :=
    match call f args M with
    | some (.q v) => some (.q v)
    | some (.x v M' D') => some (.x v M' (D'.filter (· < base) ++ D))
    | none => none

def wantA (env : Env) : Option (Nat × Bool) → Option Bool
  | none => some true
  | some (t, b) => match env t with
    | .flat (.bool c) => some (c == b)
    | .flat (.tuple _) => some false
    | _ => none

/-- Instructions that write nothing, one after the other. -/
def evQ (call : Call) (base : Nat) (M : MS) : List AOp → Env → Option Env
  | [], env => some env
  | o :: r, env => match wantA env o.g with
    | some true => match evI call base env M [] o.i with
      | some (.q v) => evQ call base M r (updO env o.dst v)
      | _ => none
    | some false => evQ call base M r (updO env o.dst (.flat undef))
    | none => none
/-- Instructions, one after the other. -/
def evS (call : Call) (base : Nat) : List AOp → Env → MS → List Nat → Option (Env × MS × List Nat)
  | [], env, M, D => some (env, M, D)
  | o :: r, env, M, D => match wantA env o.g with
    | some true => match evI call base env M D o.i with
      | some (.q v) => evS call base r (updO env o.dst v) M D
      | some (.x v M' D') => evS call base r (updO env o.dst v) M' D'
      | none => none
    | some false => evS call base r (updO env o.dst (.flat undef)) M D
    | none => none

/-- An instruction that a store into a block doesn't touch. -/
def I.calm (id : Nat) (env : Env) : I → Bool
  | .mov _ | .pick .. | .bin .. | .un .. | .convI .. | .convS _ | .lenStr _ | .ext .. | .min .. | .max .. => true
  | .nilck x | .fad _ x | .load _ _ x => match x.ev env with
    | .mptr i _ => i != id
    | _ => false
  | _ => false
def calmQ (call : Call) (base : Nat) (M : MS) (id : Nat) : List AOp → Env → Bool
  | [], _ => true
  | o :: r, env => o.g.isNone && (o.i.calm id env && match evI call base env M [] o.i with
    | some (.q v) => calmQ call base M id r (updO env o.dst v)
    | _ => false)
/-- The block that the first store writes. -/
def tgtK (env : Env) : Option AOp → Option Nat
  | some ⟨none, .storeK _ a _, none⟩ => match a.ev env with
    | .mptr id _ => some id
    | _ => none
  | _ => none
/-! ### Blocks laid in a region that draws its order -/
/-- A temporary, or a plain constant. -/
def okO : O → Bool
  | .t _ => true
  | .k (.flat _) => true
  | .k (.list _ [] true true) => true
  | .k _ => false
/-- What a laying instruction comes to, its block at place id: the value, the cells, the row that is given up. -/
def evFr (M Mo : MS) (env : Env) (id : Nat) : I → Option (AV × List AV × Option Nat)
  | .alloc zs => if allI zs then some (.mptr id 0, zs, none) else none
  | .box n x => match cellsOf (x.ev env) with
    | some cs => if okO x ∧ cs.length = n then some (.mptr id 0, cs, none) else none
    | none => none
  | .mslice sz bytes zs n c => match n.ev env, c.ev env with
    | .flat (.int _ n), .flat (.int _ c) => if 0 ≤ n ∧ n ≤ c ∧ c ≤ LIM ∧ bytes * c ≤ 140737488355328 ∧ allI zs then
        some (.ms id 0 n.toNat sz (decide (n = c)), (List.replicate n.toNat zs).flatten, none) else none
    | _, _ => none
  | .xop .mkmap [] => some (.mp id, [], none)
  | .app sz bytes s x => match view Mo (x.ev env), lenOf (x.ev env) with
    | some news, some m => if m = 0 ∨ !(okO s && okO x) then none else
      match s.ev env with
      | .list sz' cs nil capd => if (nil ∨ sz' = sz) ∧ capd ∧ m * sz = news.length ∧ cs.length / sz + m ≤ LIM ∧ (cs.length / sz + m) * bytes ≤ 140737488355328 then
          some (.ms id 0 (cs.length / sz + m) sz false, cs ++ news, none) else none
      | .ms i off len sz' capd => if capd then (match Mo[i]? with
          | some (some old) => if sz' = sz ∧ m * sz = news.length ∧ len + m ≤ LIM ∧ (len + m) * bytes ≤ 140737488355328 ∧ off + len * sz ≤ old.length then
              some (.ms id 0 (len + m) sz false, (old.drop off).take (len * sz) ++ news, none) else none
          | _ => none)
        else (match M[i]? with
          | some (some old) => if sz' = sz ∧ m * sz = news.length ∧ len + m ≤ LIM ∧ (len + m) * bytes ≤ 140737488355328 ∧ off + len * sz ≤ old.length ∧ off = 0 then
              some (.ms id 0 (len + m) sz false, old.take (len * sz) ++ news, some i) else none
          | _ => none)
      | _ => none
    | _, _ => none
  | _ => none
def I.isCall : I → Bool
  | .call .. | .calld .. => true
  | _ => false
/-- What an instruction that writes nothing comes to, whatever is laid meanwhile. -/
def evQh (Mo : MS) (env : Env) (i : I) : Option AV :=
  match evI (fun _ _ _ => none) 0 env Mo [] i with
  | some (.q v) => some v
  | _ => none
/-- The head: C is the memory as calls leave it, Y what is laid besides (its first place: L). -/
def evHd (call : Call) (L : Nat) (M Mo : MS) : List AOp → Env → MS → MS → List Nat → Option (Env × MS × MS × List Nat)
  | [], env, C, Y, ks => some (env, C, Y, ks)
  | o :: r, env, C, Y, ks => if o.g.isNone then
      if o.i.isCall then match evI call C.length env C [] o.i with
        | some (.q v) => evHd call L M Mo r (updO env o.dst v) C Y ks
        | some (.x v C' []) => evHd call L M Mo r (updO env o.dst v) C' Y ks
        | _ => none
      else match evFr M Mo env (L + Y.length) o.i with
      | some (v, cs, k) => evHd call L M Mo r (updO env o.dst v) C (Y ++ [some cs]) (ks ++ k.toList)
      | none => match evQh Mo env o.i with
        | some v => evHd call L M Mo r (updO env o.dst v) C Y ks
        | none => none
    else none
def killA (M : MS) (ks : List Nat) : MS := ks.foldl (fun M i => M.set i none) M
def dirtK (base : Nat) (ks : List Nat) (D : List Nat) : List Nat := ks.foldr (dirt base) D
inductive Ex where
  | nrm | exit (id : Nat) | ret
  deriving DecidableEq
/-- The jump that a round left: none, 'ret', an exit. -/
def pend (n : Int) : Ex := if n = 0 then .nrm else if n = 1 then .ret else .exit (n.toNat - 2)
def unpend : Ex → Int
  | .nrm => 0
  | .ret => 1
  | .exit k => (k : Int) + 2
def evLoop (f : Env → MS → List Nat → Option (Ex × Env × MS × List Nat)) : Nat → Env → MS → List Nat → Option (Ex × Env × MS × List Nat)
  | 0, _, _, _ => none
  | n + 1, env, M, D => match f env M D with
    | some (.nrm, env, M, D) => evLoop f n env M D
    | r => r
def evAC (call : Call) (base n : Nat) : AC → Env → MS → List Nat → Option (Ex × Env × MS × List Nat)
  | .skip, env, M, D => some (.nrm, env, M, D)
  | .seq a b, env, M, D => match evAC call base n a env M D with
    | some (.nrm, env, M, D) => evAC call base n b env M D
    | r => r
  | .cond c a b, env, M, D => match asBool (c.ev env) with
    | some true => evAC call base n a env M D
    | some false => evAC call base n b env M D
    | none => none
  | .block id a, env, M, D => match evAC call base n a env M D with
    | some (.exit id', env, M, D) => if id' = id then some (.nrm, env, M, D) else some (.exit id', env, M, D)
    | r => r
  | .loop a, env, M, D => evLoop (evAC call base n a) n env M D
  | .exit id, env, M, D => some (.exit id, env, M, D)
  | .ret, env, M, D => some (.ret, env, M, D)
  | .region k ops, env, M, D => match evQ call base M (ops.take k) env with
    | some env => match evS call base (ops.drop k) env M D with
      | some (env, M, D) => some (.nrm, env, M, D)
      | none => none
    | none => none
  | .stop, _, _, _ => none
  | .regionC k ops, env, M, D => match evQ call base M (ops.take k) env with
    | some env1 => match tgtK env1 ops[k]? with
      | some id => if calmQ call base M id (ops.take k) env = true then match evS call base (ops.drop k) env1 M D with
          | some (env, M, D) => some (.nrm, env, M, D)
          | none => none
        else none
      | none => none
    | none => none
  | .regionF k ops, env, M, D => match evHd call M.length M M (ops.take k) env M [] [] with
    | some (_, C0, _, ks0) => match evHd call C0.length M (killA M ks0) (ops.take k) env M [] [] with
      | some (env1, C, Y, ks) => if ks = ks0 ∧ ks.Nodup ∧ C.length = C0.length ∧ (ks = [] ∨ (ops.take k).all (fun o => !o.i.isCall) = true) then match evS call base (ops.drop k) env1 (killA C ks ++ Y) (dirtK base ks D) with
          | some (env, M, D) => some (.nrm, env, M, D)
          | none => none
        else none
      | none => none
    | none => none
  | .range y g pl, env, M, D => match g.ev env with
    | .clo f caps => match call f (.yld M.length y (pl.map env) :: caps) (M ++ [some [.flat (.int .i64 0), .flat (.int .i64 0)]]) with
      | some (.x _ M' D') => match M'[M.length]? with
        | some (some [.flat (.int .i64 st), .flat (.int .i64 pd)]) => if st = 1 then none else some (pend pd, env, M'.set M.length (some [.flat (.int .i64 3), .flat (.int .i64 pd)]), D'.filter (· < base) ++ D)
        | _ => none
      | some (.q _) => some (.nrm, env, M ++ [some [.flat (.int .i64 3), .flat (.int .i64 0)]], D)
      | none => none
    | _ => none

def rvA (env : Env) (M : MS) : RV → Option AV
  | .t n => some (env n)
  | .cell a agg n => match aview M (env a) with
    | some cs => ldA agg n cs
    | none => none
def resA (env : Env) (M : MS) : List RV → Option (List AV)
  | [] => some []
  | r :: rs => match rvA env M r, resA env M rs with
    | some v, some vs => some (v :: vs)
    | _, _ => none
def tupA : List AV → AV
  | [v] => v
  | vs => .tup vs
/-- How a call ends. -/
def fin (base : Nat) (keep : Bool) (r : AV) (M : MS) (D : List Nat) : Option Out :=
  if keep then some (.x r M D)
  else match frzV base M r with
    | some (r', M') =>
      if isI r' then
        match D with
        | [] => some (.q r')
        | _ => if D.all (fun id => match M'[id]? with | some (some cs) => allI cs | _ => true) then some (.x r' (M'.take base) D) else some (.x r' M' D)
      else none
    | none => none

structure Pr where
  A : Nat → Option AF
  ext : Call
  Y : Nat → Option AY := fun _ => none
def env0 (args : List AV) : Env := fun t => args.getD t (.flat undef)
/-- What a round knows: what its loop knew, and yield's arguments. -/
def envY (ps pl : List Nat) (caps args : List AV) : Env :=
  (ps.zip args).foldl (fun e p => upd e p.1 p.2) ((pl.zip caps).foldl (fun e p => upd e p.1 p.2) fun _ => .any)
/-- A round. -/
def evRound (call : Call) (n : Nat) (ay : AY) (id : Nat) (caps args : List AV) (M : MS) : Option Out :=
  if ay.ps.length = args.length ∧ ay.pl.length = caps.length then
    match evAC call M.length n ay.assign (envY ay.ps ay.pl caps args) M [] with
    | some (.nrm, env, M1, D1) => match M1[id]? with
      | some (some [.flat (.int .i64 st), .flat (.int .i64 pd)]) => if st = 0 then
          match evAC call M.length n ay.body env (M1.set id (some [.flat (.int .i64 1), .flat (.int .i64 pd)])) (dirt M.length id D1) with
          | some (ex, _, M2, D2) => some (.x (.flat (.bool (decide (ex = .nrm)))) (M2.set id (some [.flat (.int .i64 (if ex = .nrm then 0 else 2)), .flat (.int .i64 (unpend ex))])) (dirt M.length id D2))
          | none => none
        else none
      | _ => none
    | _ => none
  else none
def evFn (p : Pr) : Nat → Call
  | 0, _, _, _ => none
  | n + 1, f, args, M => match p.A f with
    | some af => match evAC (evFn p n) M.length n af.body (env0 args) M [] with
      | some (.exit _, _, _, _) => none
      | some (_, env, M', D) => match resA env M' af.res with
        | some vs => fin M.length af.keep (tupA vs) M' D
        | none => none
      | none => none
    | none => match p.Y f with
      | some ay => match args with
        | .yld id y caps :: vals => if y = f then evRound (evFn p n) n ay id caps vals M else none
        | _ => none
      | none => p.ext f args M
end Go.Proofs.Ytlcdafidoddefaa.Av
namespace Go.Proofs.Ytlcdafidoddefaa.Av
open Go.RowKit

/-- What stands for a block that is no row of cells: a loop over a function (its record's place, the record, the round's number); a map. -/
inductive Sp where
  | loop (r : Nat) (L : Loop) (y : Nat) (pl : List Nat)
  | map (r : Nat)
def Sp.at : Sp → Nat
  | .loop r _ _ _ => r
  | .map r => r
/-- What is known of memory: cells that never change; the call's own blocks (number, size), by their places; those that are no rows of cells; blocks for deferred calls; those of them that were there when the function began; objects that nobody touches. -/
structure Gh where
  g : Addr → Option Value
  m : List (Option (Nat × Nat))
  s : Nat → Option Sp := fun _ => none
  d : Nat → Prop := fun _ => False
  c : Nat → Prop := fun _ => False
  p : Nat → Option Obj := fun _ => none
/-- What a loop's record must have to do with its round's number (told where the program is known). -/
def stN : LoopState → Int
  | .ready => 0
  | .busy => 1
  | .done => 2
  | .exhausted => 3
def exCode : Ex → Option Code
  | .nrm => none
  | .ret => some .ret
  | .exit k => some (.exit k)
structure TieT where
  T : Nat → Loop → List Nat → Prop
/-- Numbers from here on are rounds', not functions'. -/
abbrev YB : Nat := 1000000

inductive RI (g : Addr → Option Value) : AV → Value → Prop
  | flat (v : Value) : RI g (.flat v) v
  | nil (sz : Nat) : RI g (.list sz [] true true) (.slice none 0 0)
  | list (sz : Nat) (cs : List AV) (capd : Bool) (a : Addr) (n c : Nat) (vs : Nat → Value) (h0 : 0 < sz) (h1 : cs.length = n * sz) (h2 : n ≤ c) (h3 : c ≤ maxLen) (h4 : capd = true → c = n)
      (h5 : ∀ j, j < cs.length → g (a.add j) = some (vs j)) (h6 : ∀ (j : Nat) (h : j < cs.length), RI g cs[j] (vs j)) : RI g (.list sz cs false capd) (.slice (some a) n c)
  | agg (cs : List AV) (vs : Array Value) (h : vs.size = cs.length) (h6 : ∀ (j : Nat) (h : j < cs.length), RI g cs[j] (vs.getD j undef)) (h7 : ∀ j, j < cs.length → (vs.getD j undef).oneCell' = true) : RI g (.agg cs) (.agg vs)
  | elem (x : AV) (k : Nat) (a : Addr) (n c : Nat) (h : RI g x (.slice (some a) n c)) : RI g (.elem x k) (.pointer (some (a.add k)))
  | clo (fn : Nat) (cs : List AV) (vs : Array Value) (hf : fn < YB) (h : vs.size = cs.length) (h6 : ∀ (j : Nat) (h : j < cs.length), RI g cs[j] (vs.getD j undef)) : RI g (.clo fn cs) (.func (.func fn) #[] vs)
  | tup (cs : List AV) (vs : Array Value) (h : vs.size = cs.length) (h6 : ∀ (j : Nat) (h : j < cs.length), RI g cs[j] (vs.getD j undef)) : RI g (.tup cs) (.tuple vs)

inductive R (G : Gh) : AV → Value → Prop
  | imm (x : AV) (v : Value) (h : RI G.g x v) : R G x v
  | agg (cs : List AV) (vs : Array Value) (h : vs.size = cs.length) (h6 : ∀ (j : Nat) (h : j < cs.length), R G cs[j] (vs.getD j undef)) (h7 : ∀ j, j < cs.length → (vs.getD j undef).oneCell' = true) : R G (.agg cs) (.agg vs)
  | elem (x : AV) (k : Nat) (a : Addr) (n c : Nat) (h : R G x (.slice (some a) n c)) : R G (.elem x k) (.pointer (some (a.add k)))
  | mptr (id off : Nat) (v : Value) (h0 : id < G.m.length) (hs : G.s id = none) (h1 : v.oneCell' = true) (h : ∀ b n : Nat, G.m[id]? = some (some (b, n)) → v = .pointer (some ⟨b, off, none⟩)) : R G (.mptr id off) v
  | ms (id off len sz : Nat) (capd : Bool) (v : Value) (h0 : id < G.m.length) (hs : G.s id = none) (h1 : ∃ (A : Addr) (c : Nat), v = .slice (some A) len c) (hsz : 0 < sz)
      (h : ∀ b n : Nat, G.m[id]? = some (some (b, n)) → ∃ c, v = .slice (some ⟨b, off, none⟩) len c ∧ len ≤ c ∧ c ≤ maxLen ∧ off + c * sz ≤ n ∧ (capd = true → c = len)) : R G (.ms id off len sz capd) v
  | clo (fn : Nat) (cs : List AV) (vs : Array Value) (hf : fn < YB) (h : vs.size = cs.length) (h6 : ∀ (j : Nat) (h : j < cs.length), R G cs[j] (vs.getD j undef)) : R G (.clo fn cs) (.func (.func fn) #[] vs)
  | tup (cs : List AV) (vs : Array Value) (h : vs.size = cs.length) (h6 : ∀ (j : Nat) (h : j < cs.length), R G cs[j] (vs.getD j undef)) : R G (.tup cs) (.tuple vs)
  | any (v : Value) : R G .any v
  | yld (id y : Nat) (pl : List Nat) (cs : List AV) (r : Nat) (L : Loop) (h0 : id < G.m.length) (hs : G.s id = some (.loop r L y pl)) (h : cs.length = pl.length) (h6 : ∀ (j : Nat) (h : j < cs.length), R G cs[j] (L.tmps.getD (pl.getD j 0) undef)) : R G (.yld id y cs) (.func (.yield r) #[] #[])
  | mp (id : Nat) (r : Nat) (h0 : id < G.m.length) (hs : G.s id = some (.map r)) : R G (.mp id) (.map (some r))

structure Gle (G G' : Gh) : Prop where
  g : ∀ a v, G.g a = some v → G'.g a = some v
  len : G.m.length ≤ G'.m.length
  m : ∀ (id : Nat) (b : Nat × Nat), id < G.m.length → G'.m[id]? = some (some b) → G.m[id]? = some (some b)
  s : ∀ id : Nat, id < G.m.length → G'.s id = G.s id
  d : ∀ r, G.d r → G'.d r
  c : G'.c = G.c
  p : ∀ b o, G.p b = some o → G'.p b = some o
theorem Gle.refl (G : Gh) : Gle G G := ⟨fun _ _ h => h, Nat.le_refl _, fun _ _ _ h => h, fun _ _ => rfl, fun _ h => h, rfl, fun _ _ h => h⟩
theorem Gle.trans {G G' G'' : Gh} (h : Gle G G') (k : Gle G' G'') : Gle G G'' :=
  ⟨fun a v x => k.g a v (h.g a v x), Nat.le_trans h.len k.len, fun id b hid hb => h.m id b hid (k.m id b (Nat.lt_of_lt_of_le hid h.len) hb),
   fun id hid => (k.s id (Nat.lt_of_lt_of_le hid h.len)).trans (h.s id hid), fun r hr => k.d r (h.d r hr), k.c.trans h.c, fun b o hp => k.p b o (h.p b o hp)⟩

theorem RI.mono {g g' : Addr → Option Value} (hg : ∀ a v, g a = some v → g' a = some v) {x : AV} {v : Value} (h : RI g x v) : RI g' x v := by
  induction h with
  | flat v => exact .flat v
  | nil sz => exact .nil sz
  | list sz cs capd a n c vs h0 h1 h2 h3 h4 h5 h6 ih => exact .list sz cs capd a n c vs h0 h1 h2 h3 h4 (fun j hj => hg _ _ (h5 j hj)) ih
  | agg cs vs h h6 h7 ih => exact .agg cs vs h ih h7
  | elem x k a n c h ih => exact .elem x k a n c ih
  | clo fn cs vs hf h h6 ih => exact .clo fn cs vs hf h ih
  | tup cs vs h h6 ih => exact .tup cs vs h ih
theorem R.mono0 {G G' : Gh} (hg : ∀ a v, G.g a = some v → G'.g a = some v) (hlen : G.m.length ≤ G'.m.length) (hm : ∀ (id : Nat) (b : Nat × Nat), id < G.m.length → G'.m[id]? = some (some b) → G.m[id]? = some (some b))
    (hsp : ∀ id : Nat, id < G.m.length → G'.s id = G.s id) {x : AV} {v : Value} (h : R G x v) : R G' x v := by
  induction h with
  | imm x v h => exact .imm x v (h.mono hg)
  | agg cs vs h h6 h7 ih => exact .agg cs vs h ih h7
  | elem x k a n c h ih => exact .elem x k a n c ih
  | mptr id off v h0 hs h1 h => exact .mptr id off v (Nat.lt_of_lt_of_le h0 hlen) ((hsp id h0).trans hs) h1 fun b n hb => h b n (hm id _ h0 hb)
  | ms id off len sz capd v h0 hs h1 hsz h => exact .ms id off len sz capd v (Nat.lt_of_lt_of_le h0 hlen) ((hsp id h0).trans hs) h1 hsz fun b n hb => h b n (hm id _ h0 hb)
  | clo fn cs vs hf h h6 ih => exact .clo fn cs vs hf h ih
  | tup cs vs h h6 ih => exact .tup cs vs h ih
  | any v => exact .any v
  | yld id y pl cs r L h0 hs h h6 ih => exact .yld id y pl cs r L (Nat.lt_of_lt_of_le h0 hlen) ((hsp id h0).trans hs) h ih
  | mp id r h0 hs => exact .mp id r (Nat.lt_of_lt_of_le h0 hlen) ((hsp id h0).trans hs)

theorem R.mono {G G' : Gh} (hG : Gle G G') {x : AV} {v : Value} (h : R G x v) : R G' x v := h.mono0 hG.g hG.len hG.m hG.s
theorem R.dc {G : Gh} (d c : Nat → Prop) {x : AV} {v : Value} (h : R G x v) : R { G with d := d, c := c } x v := R.mono0 (G := G) (G' := { G with d := d, c := c }) (fun _ _ h => h) (Nat.le_refl _) (fun _ _ _ h => h) (fun _ _ => rfl) h

/-! ### Inversions -/
theorem R.flat_inv {G : Gh} {u v : Value} (h : R G (.flat u) v) : v = u := by
  cases h with
  | imm _ _ h => cases h; rfl
theorem RI.list_cases {g : Addr → Option Value} {sz : Nat} {cs : List AV} {nil capd : Bool} {v : Value} (h : RI g (.list sz cs nil capd) v) :
    (nil = true ∧ capd = true ∧ cs = [] ∧ v = .slice none 0 0) ∨
    (nil = false ∧ ∃ (a : Addr) (n c : Nat) (vs : Nat → Value), v = .slice (some a) n c ∧ 0 < sz ∧ cs.length = n * sz ∧ n ≤ c ∧ c ≤ maxLen ∧ (capd = true → c = n) ∧
      (∀ j, j < cs.length → g (a.add j) = some (vs j)) ∧ ∀ (j : Nat) (h : j < cs.length), RI g cs[j] (vs j)) := by
  cases h with
  | nil => exact .inl ⟨rfl, rfl, rfl, rfl⟩
  | list _ _ _ a n c vs h0 h1 h2 h3 h4 h5 h6 => exact .inr ⟨rfl, a, n, c, vs, rfl, h0, h1, h2, h3, h4, h5, h6⟩
theorem R.list_inv {G : Gh} {sz : Nat} {cs : List AV} {nil capd : Bool} {v : Value} (h : R G (.list sz cs nil capd) v) : RI G.g (.list sz cs nil capd) v := by
  cases h with
  | imm _ _ h => exact h
theorem R.agg_inv {G : Gh} {cs : List AV} {v : Value} (h : R G (.agg cs) v) :
    ∃ vs : Array Value, v = .agg vs ∧ vs.size = cs.length ∧ (∀ (j : Nat) (h : j < cs.length), R G cs[j] (vs.getD j undef)) ∧ ∀ j, j < cs.length → (vs.getD j undef).oneCell' = true := by
  cases h with
  | imm _ _ h => cases h with
    | agg _ vs h h6 h7 => exact ⟨vs, rfl, h, fun j hj => .imm _ _ (h6 j hj), h7⟩
  | agg _ vs h h6 h7 => exact ⟨vs, rfl, h, h6, h7⟩
theorem R.tup_inv {G : Gh} {cs : List AV} {v : Value} (h : R G (.tup cs) v) :
    ∃ vs : Array Value, v = .tuple vs ∧ vs.size = cs.length ∧ (∀ (j : Nat) (h : j < cs.length), R G cs[j] (vs.getD j undef)) := by
  cases h with
  | imm _ _ h => cases h with
    | tup _ vs h h6 => exact ⟨vs, rfl, h, fun j hj => .imm _ _ (h6 j hj)⟩
  | tup _ vs h h6 => exact ⟨vs, rfl, h, h6⟩
theorem R.clo_inv {G : Gh} {fn : Nat} {cs : List AV} {v : Value} (h : R G (.clo fn cs) v) :
    ∃ vs : Array Value, v = .func (.func fn) #[] vs ∧ vs.size = cs.length ∧ (∀ (j : Nat) (h : j < cs.length), R G cs[j] (vs.getD j undef)) := by
  cases h with
  | imm _ _ h => cases h with
    | clo _ _ vs hf h h6 => exact ⟨vs, rfl, h, fun j hj => .imm _ _ (h6 j hj)⟩
  | clo _ _ vs hf h h6 => exact ⟨vs, rfl, h, h6⟩
theorem R.clo_lt {G : Gh} {fn : Nat} {cs : List AV} {v : Value} (h : R G (.clo fn cs) v) : fn < YB := by
  cases h with
  | imm _ _ h => cases h with
    | clo _ _ vs hf h h6 => exact hf
  | clo _ _ vs hf h h6 => exact hf
theorem R.yld_inv {G : Gh} {id y : Nat} {cs : List AV} {v : Value} (h : R G (.yld id y cs) v) :
    ∃ r L pl, v = .func (.yield r) #[] #[] ∧ id < G.m.length ∧ G.s id = some (.loop r L y pl) ∧ cs.length = pl.length ∧ ∀ (j : Nat) (h : j < cs.length), R G cs[j] (L.tmps.getD (pl.getD j 0) undef) := by
  cases h with
  | imm _ _ h => cases h
  | yld _ _ pl _ r L h0 hs h h6 => exact ⟨r, L, pl, rfl, h0, hs, h, h6⟩
theorem R.mp_inv {G : Gh} {id : Nat} {v : Value} (h : R G (.mp id) v) : ∃ r, v = .map (some r) ∧ id < G.m.length ∧ G.s id = some (.map r) := by
  cases h with
  | imm _ _ h => cases h
  | mp _ r h0 hs => exact ⟨r, rfl, h0, hs⟩
theorem R.elem_inv {G : Gh} {x : AV} {k : Nat} {v : Value} (h : R G (.elem x k) v) : ∃ a n c, R G x (.slice (some a) n c) ∧ v = .pointer (some (a.add k)) := by
  cases h with
  | imm _ _ h => cases h with
    | elem _ _ a n c h => exact ⟨a, n, c, .imm _ _ h, rfl⟩
  | elem _ _ a n c h => exact ⟨a, n, c, h, rfl⟩
theorem R.ms_inv {G : Gh} {id off len sz : Nat} {capd : Bool} {v : Value} (h : R G (.ms id off len sz capd) v) :
    id < G.m.length ∧ v.oneCell' = true ∧ 0 < sz ∧ ∀ b n : Nat, G.m[id]? = some (some (b, n)) → ∃ c, v = .slice (some ⟨b, off, none⟩) len c ∧ len ≤ c ∧ c ≤ maxLen ∧ off + c * sz ≤ n ∧ (capd = true → c = len) := by
  cases h with
  | imm _ _ h => cases h
  | ms _ _ _ _ _ _ h0 hs h1 hsz h => exact ⟨h0, by obtain ⟨_, _, rfl⟩ := h1; rfl, hsz, h⟩
theorem R.ms_s {G : Gh} {id off len sz : Nat} {capd : Bool} {v : Value} (h : R G (.ms id off len sz capd) v) : G.s id = none := by
  cases h with
  | imm _ _ h => cases h
  | ms _ _ _ _ _ _ h0 hs h1 hsz h => exact hs
theorem R.ms_len {G : Gh} {id off len sz : Nat} {capd : Bool} {v : Value} (h : R G (.ms id off len sz capd) v) : ∃ (A : Addr) (c : Nat), v = .slice (some A) len c := by
  cases h with
  | imm _ _ h => cases h
  | ms _ _ _ _ _ _ h0 hs h1 hsz h => exact h1
theorem R.mptr_inv {G : Gh} {id off : Nat} {v : Value} (h : R G (.mptr id off) v) :
    id < G.m.length ∧ v.oneCell' = true ∧ ∀ b n : Nat, G.m[id]? = some (some (b, n)) → v = .pointer (some ⟨b, off, none⟩) := by
  cases h with
  | imm _ _ h => cases h
  | mptr _ _ _ h0 hs h1 h => exact ⟨h0, h1, h⟩
theorem R.mptr_s {G : Gh} {id off : Nat} {v : Value} (h : R G (.mptr id off) v) : G.s id = none := by
  cases h with
  | imm _ _ h => cases h
  | mptr _ _ _ h0 hs h1 h => exact hs

theorem allI_get : ∀ {cs : List AV}, allI cs = true → ∀ (j : Nat) (h : j < cs.length), isI cs[j] = true
  | _ :: cs, h, 0, _ => by simp [allI] at h; simpa using h.1
  | _ :: cs, h, j + 1, hj => by simp [allI] at h; simpa using allI_get h.2 j (by simpa using hj)
theorem isI_all_eq : ∀ cs : List AV, isI.all cs = allI cs
  | [] => by simp [isI.all, allI]
  | c :: cs => by simp [isI.all, allI, isI_all_eq cs]

theorem R.toI {G : Gh} {x : AV} {v : Value} (h : R G x v) (hi : isI x = true) : RI G.g x v := by
  induction h with
  | imm x v h => exact h
  | agg cs vs h h6 h7 ih => simp only [isI, isI_all_eq] at hi; exact .agg cs vs h (fun j hj => ih j hj (allI_get hi j hj)) h7
  | elem x k a n c h ih => simp only [isI] at hi; exact .elem x k a n c (ih hi)
  | mptr id off v h0 hs h1 h => simp [isI] at hi
  | ms id off len sz capd v h0 hs h1 hsz h => simp [isI] at hi
  | any v => simp [isI] at hi
  | yld id y pl cs r L h0 hs h h6 ih => simp [isI] at hi
  | mp id r h0 hs => simp [isI] at hi
  | clo fn cs vs hf h h6 ih => simp only [isI, isI_all_eq] at hi; exact .clo fn cs vs hf h fun j hj => ih j hj (allI_get hi j hj)
  | tup cs vs h h6 ih => simp only [isI, isI_all_eq] at hi; exact .tup cs vs h fun j hj => ih j hj (allI_get hi j hj)

/-- What the heap's object for a special block is. -/
def SpO (G : Gh) (cs : List AV) : Sp → Obj → Prop
  | .loop _ L _ _, o => ∃ (st : LoopState) (pd : Option Code) (ex : Ex), o = .loop { L with state := st, pending := pd } ∧ cs = [.flat (.int .i64 (stN st)), .flat (.int .i64 (unpend ex))] ∧ pd = exCode ex
  | .map _, o => ∃ (es : Array MapEntry) (clock : Nat), o = .map es clock ∧ es.size = cs.length ∧ ∀ (j : Nat) (h : j < cs.length), ∃ x, cs[j] = .tup x ∧ x.length = 2 ∧ R G (x.getD 0 .any) (es.getD j default).key ∧ R G (x.getD 1 .any) (es.getD j default).val
/-- What is kept. -/
structure Inv [Inhabited TieT] (w0 : World) (G : Gh) (M : MS) (w : World) : Prop where
  below : Below w0.heap.size w0 w
  len : G.m.length = M.length
  imm : ∀ a v, G.g a = some v → w.cell? a = some v ∧ v.oneCell' = true
  blk : ∀ (id b n : Nat), G.m[id]? = some (some (b, n)) → w0.heap.size ≤ b ∧ ∃ cs : List AV, M[id]? = some (some cs) ∧ ∃ (cur : Array Value) (T : TypeId), w.heap[b]? = some (.cells cur T (0, 0)) ∧ cur.size = n ∧ cs.length ≤ n ∧
    ∀ (j : Nat) (h : j < cs.length), R G cs[j] (cur.getD j undef) ∧ (cur.getD j undef).oneCell' = true
  sep : ∀ (id b n : Nat), G.m[id]? = some (some (b, n)) → ∀ a, a.block = b → G.g a = none
  inj : ∀ (i j b n n' : Nat), G.m[i]? = some (some (b, n)) → G.m[j]? = some (some (b, n')) → i = j
  live : ∀ (id : Nat) (cs : List AV), M[id]? = some (some cs) → G.s id = none → ∃ b n : Nat, G.m[id]? = some (some (b, n))
  spc : ∀ (id : Nat) (sp : Sp), G.s id = some sp → id < M.length → w0.heap.size ≤ sp.at ∧ G.m[id]? = some none ∧ ∃ (cs : List AV) (o : Obj), M[id]? = some (some cs) ∧ w.heap[sp.at]? = some o ∧ SpO G cs sp o
  tie : ∀ (id r y : Nat) (L : Loop) (pl : List Nat), G.s id = some (.loop r L y pl) → id < M.length → YB ≤ y ∧ (default : TieT).T y L pl
  sinj : ∀ (i j : Nat) (sp sp' : Sp), G.s i = some sp → G.s j = some sp' → i < M.length → j < M.length → sp.at = sp'.at → i = j
  dfr : ∀ r, G.d r → w0.heap.size ≤ r ∧ w.heap[r]? = some (.deferred (some []))
  prot : ∀ (b : Nat) (o : Obj), G.p b = some o → w.heap[b]? = some o ∧ (∀ a : Addr, a.block = b → G.g a = none) ∧ (∀ id n : Nat, G.m[id]? ≠ some (some (b, n))) ∧ (∀ (id : Nat) (sp : Sp), G.s id = some sp → id < M.length → sp.at ≠ b) ∧ ¬ G.d b


theorem SpO.mono {G G' : Gh} (hG : Gle G G') {cs : List AV} {sp : Sp} {o : Obj} (h : SpO G cs sp o) : SpO G' cs sp o := by
  cases sp with
  | loop r L y pl => exact h
  | map r =>
    obtain ⟨es, clock, h1, h2, h3⟩ := h
    refine ⟨es, clock, h1, h2, fun j hj => ?_⟩
    obtain ⟨x, k1, k2, k3, k4⟩ := h3 j hj
    exact ⟨x, k1, k2, k3.mono hG, k4.mono hG⟩
theorem SpO.dc {G : Gh} (d c : Nat → Prop) {cs : List AV} {sp : Sp} {o : Obj} (h : SpO G cs sp o) : SpO { G with d := d, c := c } cs sp o := by
  cases sp with
  | loop r L y pl => exact h
  | map r =>
    obtain ⟨es, clock, h1, h2, h3⟩ := h
    refine ⟨es, clock, h1, h2, fun j hj => ?_⟩
    obtain ⟨x, k1, k2, k3, k4⟩ := h3 j hj
    exact ⟨x, k1, k2, k3.dc d c, k4.dc d c⟩
theorem SpO.ne_cells {G : Gh} {cs : List AV} {sp : Sp} {c : Array Value} {T : TypeId} {f : Nat × Nat} (h : SpO G cs sp (.cells c T f)) : False := by
  cases sp with
  | loop r L y pl => obtain ⟨_, _, _, h, _⟩ := h; cases h
  | map r => obtain ⟨_, _, h, _⟩ := h; cases h
theorem Inv.dc [Inhabited TieT] {w0 w : World} {G : Gh} {M : MS} (h : Inv w0 G M w) (d c : Nat → Prop) (hd : ∀ r, d r → G.d r) : Inv w0 { G with d := d, c := c } M w :=
  ⟨h.below, h.len, h.imm, fun id b n hm => by
    obtain ⟨hB, cs, hM, cur, T, hh, hs, hl, hr⟩ := h.blk id b n hm
    exact ⟨hB, cs, hM, cur, T, hh, hs, hl, fun j hj => ⟨(hr j hj).1.dc d c, (hr j hj).2⟩⟩, h.sep, h.inj, h.live, fun id sp hsp hid => by
    obtain ⟨hB, hm, cs, o, hM, ho, r⟩ := h.spc id sp hsp hid
    exact ⟨hB, hm, cs, o, hM, ho, r.dc d c⟩, h.tie, h.sinj, fun r hr => h.dfr r (hd r hr), fun b o hp => by
    obtain ⟨a1, a2, a3, a4, a5⟩ := h.prot b o hp
    exact ⟨a1, a2, a3, a4, fun h' => a5 (hd b h')⟩⟩
theorem Inv.at_ne [Inhabited TieT] {w0 w : World} {G : Gh} {M : MS} (h : Inv w0 G M w) {id : Nat} {sp : Sp} (hs : G.s id = some sp) (hid : id < M.length) {b : Nat} {c : Array Value} {T : TypeId} {f : Nat × Nat} (hb : w.heap[b]? = some (.cells c T f)) : sp.at ≠ b := by
  intro e
  obtain ⟨_, _, cs, o, _, ho, hsp⟩ := h.spc id sp hs hid
  rw [e, hb] at ho; cases ho
  exact hsp.ne_cells
theorem Inv.dfr_ne [Inhabited TieT] {w0 w : World} {G : Gh} {M : MS} (h : Inv w0 G M w) {r : Nat} (hs : G.d r) {b : Nat} {c : Array Value} {T : TypeId} {f : Nat × Nat} (hb : w.heap[b]? = some (.cells c T f)) : r ≠ b := by
  intro e
  have := (h.dfr r hs).2
  rw [e, hb] at this; cases this
theorem Inv.s_none [Inhabited TieT] {w0 w : World} {G : Gh} {M : MS} (h : Inv w0 G M w) {id b n : Nat} (hm : G.m[id]? = some (some (b, n))) : G.s id = none := by
  cases hs : G.s id with
  | none => rfl
  | some sp =>
    have hid : id < M.length := by rw [← h.len]; exact (List.getElem?_eq_some_iff.1 hm).1
    have := (h.spc id sp hs hid).2.1
    rw [hm] at this; cases this
theorem drew_below (w : World) : Below w.heap.size w w.drew := (Below.refl _ _).drew
theorem cell_of_row' {w : World} {b : Nat} {cur : Array Value} {T : TypeId} {f : Nat × Nat} (h : w.heap[b]? = some (.cells cur T f)) (j : Nat) : w.cell? ⟨b, j, none⟩ = cur[j]? := by
  simp [World.cell?, h]
theorem getD_some {cur : Array Value} {j : Nat} (h : j < cur.size) : cur[j]? = some (cur.getD j undef) := by
  simp [Array.getD, h]

/-- The world has grown, nothing else: what was known is known. -/
theorem Inv.grow [Inhabited TieT] {w0 w w' : World} {G : Gh} {M : MS} (h : Inv w0 G M w) (hb : Below w.heap.size w w') : Inv w0 G M w' := by
  have hs := h.below.size
  refine ⟨h.below.trans (hb.mono hs), h.len, fun a v ha => ?_, fun id b n hm => ?_, h.sep, h.inj, h.live, fun id sp hsp hid => ?_, h.tie, h.sinj, fun r hr => ?_, fun b o hp => by
    obtain ⟨a1, a2, a3, a4, a5⟩ := h.prot b o hp
    exact ⟨(hb.block _ (Array.getElem?_eq_some_iff.1 a1).1).trans a1, a2, a3, a4, a5⟩⟩
  · obtain ⟨hc, h1⟩ := h.imm a v ha
    exact ⟨(hb.cell (World.block_lt_of_cell? w a hc)).trans hc, h1⟩
  · obtain ⟨hB, cs, hM, cur, T, hh, r⟩ := h.blk id b n hm
    exact ⟨hB, cs, hM, cur, T, (hb.block b (Array.getElem?_eq_some_iff.1 hh).1).trans hh, r⟩
  · obtain ⟨hB, hm, cs, o, hM, ho, r⟩ := h.spc id sp hsp hid
    exact ⟨hB, hm, cs, o, hM, (hb.block _ (Array.getElem?_eq_some_iff.1 ho).1).trans ho, r⟩
  · obtain ⟨hB, ho⟩ := h.dfr r hr
    exact ⟨hB, (hb.block _ (Array.getElem?_eq_some_iff.1 ho).1).trans ho⟩

/-- A new block whose first cells never change. -/
def Gh.withRow (G : Gh) (b : Nat) (k : Nat) (vs : Nat → Value) : Gh :=
  { G with g := fun a => if a.block = b ∧ a.spot = none ∧ a.off < k then some (vs a.off) else G.g a }
theorem Inv.g_lt [Inhabited TieT] {w0 w : World} {G : Gh} {M : MS} (h : Inv w0 G M w) {a : Addr} {v : Value} (ha : G.g a = some v) : a.block < w.heap.size :=
  World.block_lt_of_cell? w a (h.imm a v ha).1
theorem Inv.withRow [Inhabited TieT] {w0 w w' : World} {G : Gh} {M : MS} (h : Inv w0 G M w) (hb : Below w.heap.size w w') {b k : Nat} {vs : Nat → Value} (hB : w.heap.size ≤ b)
    (hc : ∀ j, j < k → w'.cell? ⟨b, j, none⟩ = some (vs j) ∧ (vs j).oneCell' = true) :
    Gle G (G.withRow b k vs) ∧ Inv w0 (G.withRow b k vs) M w' ∧ ∀ j, j < k → (G.withRow b k vs).g ((⟨b, 0, none⟩ : Addr).add j) = some (vs j) := by
  have hle : Gle G (G.withRow b k vs) := ⟨fun a v ha => by
    have := h.g_lt ha
    simp only [Gh.withRow]
    rw [if_neg (by intro hh; omega)]
    exact ha, Nat.le_refl _, fun _ _ _ hh => hh, fun _ _ => rfl, fun _ h => h, rfl, fun _ _ h => h⟩
  have hi := h.grow hb
  refine ⟨hle, ⟨hi.below, hi.len, fun a v ha => ?_, fun id b' n hm => ?_, fun id b' n hm a hab => ?_, hi.inj, hi.live, fun id sp hsp hid => ?_, hi.tie, hi.sinj, hi.dfr, fun q o hp => by
    obtain ⟨a1, a2, a3, a4, a5⟩ := hi.prot q o hp
    obtain ⟨c1, _⟩ := h.prot q o hp
    have := (Array.getElem?_eq_some_iff.1 c1).1
    refine ⟨a1, fun a ha => ?_, a3, a4, a5⟩
    simp only [Gh.withRow]
    rw [if_neg (by intro hh; omega)]
    exact a2 a ha⟩, fun j hj => ?_⟩
  · simp only [Gh.withRow] at ha
    split at ha
    · rename_i hh
      obtain ⟨h1, h2, h3⟩ := hh
      obtain ⟨c1, c2⟩ := hc a.off h3
      cases ha
      have : a = ⟨b, a.off, none⟩ := by cases a; simp_all
      rw [this]; exact ⟨c1, c2⟩
    · exact hi.imm a v ha
  · obtain ⟨hB', cs, hM, cur, T, hh, hsz, hl, hr⟩ := hi.blk id b' n hm
    exact ⟨hB', cs, hM, cur, T, hh, hsz, hl, fun j hj => ⟨(hr j hj).1.mono hle, (hr j hj).2⟩⟩
  · obtain ⟨hB', cs, hM, cur, T, hh, r⟩ := h.blk id b' n hm
    have hlt := (Array.getElem?_eq_some_iff.1 hh).1
    simp only [Gh.withRow]
    rw [if_neg (by intro hh; omega)]
    exact h.sep id b' n hm a hab
  · obtain ⟨hB, hm, cs, o, hM, ho, r⟩ := hi.spc id sp hsp hid
    exact ⟨hB, hm, cs, o, hM, ho, r.mono hle⟩
  · have : (⟨b, 0, none⟩ : Addr).add j = ⟨b, j, none⟩ := by unfold Addr.add; split <;> simp_all
    rw [this]
    simp [Gh.withRow, hj]

/-- A new block of the call's own. -/
def Gh.withBlk (G : Gh) (b n : Nat) : Gh := { G with m := G.m ++ [some (b, n)], s := fun id => if id < G.m.length then G.s id else none }
theorem Gh.withBlk_s {G : Gh} {b n id : Nat} (h : G.m.length ≤ id) : (G.withBlk b n).s id = none := by
  simp only [Gh.withBlk]; rw [if_neg (by omega)]
theorem Gh.withBlk_s1 {G : Gh} {b n id : Nat} {sp : Sp} (h : (G.withBlk b n).s id = some sp) : id < G.m.length ∧ G.s id = some sp := by
  simp only [Gh.withBlk] at h
  split at h
  · rename_i hh; exact ⟨hh, h⟩
  · cases h
theorem Inv.withBlk [Inhabited TieT] {w0 w w' : World} {G : Gh} {M : MS} (h : Inv w0 G M w) (hb : Below w.heap.size w w') {b : Nat} {cur : Array Value} {T : TypeId} {cs : List AV} (hB : w.heap.size ≤ b)
    (hh : w'.heap[b]? = some (.cells cur T (0, 0))) (hl : cs.length ≤ cur.size) (hr : ∀ (j : Nat) (h : j < cs.length), R G cs[j] (cur.getD j undef) ∧ (cur.getD j undef).oneCell' = true) :
    Gle G (G.withBlk b cur.size) ∧ Inv w0 (G.withBlk b cur.size) (M ++ [some cs]) w' ∧ (G.withBlk b cur.size).m[M.length]? = some (some (b, cur.size)) := by
  have hle : Gle G (G.withBlk b cur.size) := ⟨fun _ _ h => h, by simp [Gh.withBlk], fun id b' hid hb' => by
    simp only [Gh.withBlk] at hb'
    rwa [List.getElem?_append_left hid] at hb', fun id hid => by simp [Gh.withBlk, hid], fun _ h => h, rfl, fun _ _ h => h⟩
  have hi := h.grow hb
  have old : ∀ {id : Nat} {b' n : Nat}, (G.withBlk b cur.size).m[id]? = some (some (b', n)) → (G.m[id]? = some (some (b', n)) ∧ id < M.length) ∨ (id = M.length ∧ b' = b ∧ n = cur.size) := by
    intro id b' n hm
    simp only [Gh.withBlk] at hm
    rcases Nat.lt_or_ge id G.m.length with hid | hid
    · rw [List.getElem?_append_left hid] at hm
      exact .inl ⟨hm, by rw [← h.len]; exact hid⟩
    · rw [List.getElem?_append_right hid] at hm
      have : id - G.m.length = 0 := by
        rcases Nat.eq_zero_or_pos (id - G.m.length) with h0 | h0
        · exact h0
        · rw [List.getElem?_eq_none (by simp; omega)] at hm; cases hm
      rw [this] at hm
      simp at hm
      refine .inr ⟨by have := h.len; omega, hm.1.symm, hm.2.symm⟩
  refine ⟨hle, ⟨hi.below, by simp [Gh.withBlk, h.len], fun a v ha => hi.imm a v ha, fun id b' n hm => ?_, fun id b' n hm a hab => ?_, fun i j b' n n' h1 h2 => ?_, fun id cs' hM hsn => ?_, fun id sp hsp hid => ?_, fun id r y L pl hsp hid => ?_, fun i j sp sp' h1 h2 h3 h4 h5 => ?_, hi.dfr, fun q o hp => by
    obtain ⟨a1, a2, a3, a4, a5⟩ := hi.prot q o hp
    obtain ⟨c1, _⟩ := h.prot q o hp
    have := (Array.getElem?_eq_some_iff.1 c1).1
    refine ⟨a1, a2, fun id n hm => ?_, fun id sp hsp hid => ?_, a5⟩
    · rcases old hm with ⟨h1, _⟩ | ⟨_, h2, _⟩
      · exact a3 id n h1
      · omega
    · obtain ⟨h1, h2⟩ := Gh.withBlk_s1 hsp
      exact a4 id sp h2 (by rw [← h.len]; exact h1)⟩, ?_⟩
  · rcases old hm with ⟨h1, hid⟩ | ⟨rfl, rfl, rfl⟩
    · obtain ⟨hB', cs', hM, cur', T', hh', hsz, hl', hr'⟩ := hi.blk id b' n h1
      exact ⟨hB', cs', by rw [List.getElem?_append_left hid]; exact hM, cur', T', hh', hsz, hl', fun j hj => ⟨(hr' j hj).1.mono hle, (hr' j hj).2⟩⟩
    · exact ⟨Nat.le_trans h.below.size hB, cs, by simp, cur, T, hh, rfl, hl, fun j hj => ⟨(hr j hj).1.mono hle, (hr j hj).2⟩⟩
  · rcases old hm with ⟨h1, _⟩ | ⟨_, rfl, _⟩
    · exact h.sep id b' n h1 a hab
    · cases hga : G.g a with
      | none => simp [Gh.withBlk, hga]
      | some v => have := h.g_lt hga; omega
  · have lt : ∀ {i n : Nat}, G.m[i]? = some (some (b, n)) → False := by
      intro i n hi'
      obtain ⟨_, _, _, _, _, hh', _⟩ := h.blk i b n hi'
      have := (Array.getElem?_eq_some_iff.1 hh').1
      omega
    rcases old h1 with ⟨h1', _⟩ | ⟨rfl, rfl, _⟩ <;> rcases old h2 with ⟨h2', _⟩ | ⟨rfl, h5, _⟩
    · exact h.inj i j b' n n' h1' h2'
    · subst h5; exact (lt h1').elim
    · exact (lt h2').elim
    · rfl
  · rcases Nat.lt_or_ge id M.length with hid | hid
    · rw [List.getElem?_append_left hid] at hM
      have hsn' : G.s id = none := by simpa [Gh.withBlk, h.len, hid] using hsn
      obtain ⟨b', n, hm⟩ := h.live id cs' hM hsn'
      exact ⟨b', n, by simp only [Gh.withBlk]; rw [List.getElem?_append_left (by rw [h.len]; exact hid)]; exact hm⟩
    · rw [List.getElem?_append_right hid] at hM
      have : id - M.length = 0 := by
        rcases Nat.eq_zero_or_pos (id - M.length) with h0 | h0
        · exact h0
        · rw [List.getElem?_eq_none (by simp; omega)] at hM; cases hM
      exact ⟨b, cur.size, by simp only [Gh.withBlk]; rw [List.getElem?_append_right (by rw [h.len]; exact hid), h.len, this]; rfl⟩
  · obtain ⟨h1, h2⟩ := Gh.withBlk_s1 hsp
    rw [h.len] at h1
    obtain ⟨hB, hm, cs, o, hM, ho, r⟩ := hi.spc id sp h2 h1
    exact ⟨hB, by simp only [Gh.withBlk]; rw [List.getElem?_append_left (by rw [h.len]; exact h1)]; exact hm, cs, o, by rw [List.getElem?_append_left h1]; exact hM, ho, r.mono hle⟩
  · obtain ⟨h1, h2⟩ := Gh.withBlk_s1 hsp
    rw [h.len] at h1
    exact hi.tie id r y L pl h2 h1
  · obtain ⟨k1, k2⟩ := Gh.withBlk_s1 h1
    obtain ⟨k3, k4⟩ := Gh.withBlk_s1 h2
    rw [h.len] at k1 k3
    exact hi.sinj i j sp sp' k2 k4 k1 k3 h5
  · simp [Gh.withBlk, ← h.len]

/-- A block of the call's own is written. -/
theorem Inv.write [Inhabited TieT] {w0 w w' : World} {G : Gh} {M : MS} (h : Inv w0 G M w) {id b n : Nat} (hm : G.m[id]? = some (some (b, n)))
    (hos : w'.os = w.os) (htape : w'.tape = w.tape) (hout : w'.output = w.output) (hsize : w'.heap.size = w.heap.size) (hoth : ∀ k, k ≠ b → w'.heap[k]? = w.heap[k]?)
    {cur : Array Value} {T : TypeId} {cs : List AV} (hh : w'.heap[b]? = some (.cells cur T (0, 0))) (hn : cur.size = n) (hl : cs.length ≤ n)
    (hr : ∀ (j : Nat) (h : j < cs.length), R G cs[j] (cur.getD j undef) ∧ (cur.getD j undef).oneCell' = true) : Inv w0 G (M.set id (some cs)) w' := by
  obtain ⟨hB, cs0, hM0, cur0, T0, hh0, hsz0, hl0, hr0⟩ := h.blk id b n hm
  have hidM : id < M.length := (List.getElem?_eq_some_iff.1 hM0).1
  refine ⟨⟨hos.trans h.below.os, htape.trans h.below.tape, hout.trans h.below.output, by rw [hsize]; exact h.below.size, fun k hk => by rw [hoth k (by omega)]; exact h.below.block k hk⟩, by simp [h.len], fun a v ha => ?_, fun id' b' n' hm' => ?_, h.sep, h.inj, fun id' cs' hM' hsn => ?_, fun id' sp hsp hid => ?_, fun id' r y L pl hsp hid => h.tie id' r y L pl hsp (by simpa using hid), fun i j sp sp' h1 h2 h3 h4 => h.sinj i j sp sp' h1 h2 (by simpa using h3) (by simpa using h4), fun r hr => ?_, fun q o hp => by
    obtain ⟨a1, a2, a3, a4, a5⟩ := h.prot q o hp
    exact ⟨by rw [hoth q (fun e => a3 id n (by rw [hm, e]))]; exact a1, a2, a3, fun id' sp hsp hid => a4 id' sp hsp (by simpa using hid), a5⟩⟩
  · obtain ⟨hc, h1⟩ := h.imm a v ha
    have hne : a.block ≠ b := fun e => by have := h.sep id b n hm a e; rw [this] at ha; cases ha
    exact ⟨(World.cell?_of_block (hoth _ hne)).trans hc, h1⟩
  · by_cases he : id' = id
    · subst he
      rw [hm] at hm'
      cases hm'
      exact ⟨hB, cs, by simp [hidM], cur, T, hh, hn, hl, hr⟩
    · obtain ⟨hB', cs', hM', cur', T', hh', r⟩ := h.blk id' b' n' hm'
      have hne : b' ≠ b := fun e => he (by subst e; exact h.inj _ _ _ _ _ hm' hm)
      exact ⟨hB', cs', by rw [List.getElem?_set_ne (Ne.symm he)]; exact hM', cur', T', by rw [hoth _ hne]; exact hh', r⟩
  · by_cases he : id' = id
    · subst he; exact ⟨b, n, hm⟩
    · rw [List.getElem?_set_ne (Ne.symm he)] at hM'
      exact h.live id' cs' hM' hsn
  · have hid' : id' < M.length := by simpa using hid
    obtain ⟨hB', hm', cs', o, hM', ho, r⟩ := h.spc id' sp hsp hid'
    have he : id' ≠ id := fun e => by rw [e, hm] at hm'; cases hm'
    have hne := h.at_ne hsp hid' hh0
    exact ⟨hB', hm', cs', o, by rw [List.getElem?_set_ne (Ne.symm he)]; exact hM', by rw [hoth _ hne]; exact ho, r⟩
  · obtain ⟨hB', ho⟩ := h.dfr r hr
    exact ⟨hB', by rw [hoth _ (h.dfr_ne hr hh0)]; exact ho⟩

/-- A block of the call's own is given up. -/
def Gh.kill (G : Gh) (id : Nat) : Gh := { G with m := G.m.set id none }
theorem Gh.kill_get {G : Gh} {id i : Nat} {x : Nat × Nat} (h : (G.kill id).m[i]? = some (some x)) : i ≠ id ∧ G.m[i]? = some (some x) := by
  simp only [Gh.kill] at h
  by_cases he : id = i
  · subst he
    rw [List.getElem?_set_self'] at h
    cases hx : G.m[id]? with
    | none => simp [hx] at h
    | some y => simp [hx] at h
  · rw [List.getElem?_set_ne he] at h
    exact ⟨Ne.symm he, h⟩
theorem Gle.kill (G : Gh) (id : Nat) : Gle G (G.kill id) := ⟨fun _ _ h => h, by simp [Gh.kill], fun i b _ h => (Gh.kill_get h).2, fun _ _ => rfl, fun _ h => h, rfl, fun _ _ h => h⟩
theorem Inv.kill [Inhabited TieT] {w0 w : World} {G : Gh} {M : MS} (h : Inv w0 G M w) (id : Nat) (hsn : G.s id = none) : Inv w0 (G.kill id) (M.set id none) w := by
  refine ⟨h.below, by simp [Gh.kill, h.len], h.imm, fun i b n hm => ?_, fun i b n hm a ha => h.sep i b n (Gh.kill_get hm).2 a ha, fun i j b n n' h1 h2 => h.inj i j b n n' (Gh.kill_get h1).2 (Gh.kill_get h2).2, fun i cs hM hsi => ?_, fun i sp hsp hid => ?_, fun id' r y L pl hsp hid => h.tie id' r y L pl hsp (by simpa using hid), fun i j sp sp' h1 h2 h3 h4 => h.sinj i j sp sp' h1 h2 (by simpa using h3) (by simpa using h4), h.dfr, fun q o hp => by
    obtain ⟨a1, a2, a3, a4, a5⟩ := h.prot q o hp
    exact ⟨a1, a2, fun i n hm => a3 i n (Gh.kill_get hm).2, fun i sp hsp hid => a4 i sp hsp (by simpa using hid), a5⟩⟩
  · obtain ⟨hne, hm'⟩ := Gh.kill_get hm
    obtain ⟨hB, cs, hM, cur, T, hh, hsz, hl, hr⟩ := h.blk i b n hm'
    exact ⟨hB, cs, by rw [List.getElem?_set_ne (Ne.symm hne)]; exact hM, cur, T, hh, hsz, hl, fun j hj => ⟨(hr j hj).1.mono (Gle.kill G id), (hr j hj).2⟩⟩
  · by_cases he : id = i
    · subst he
      rw [List.getElem?_set_self'] at hM
      cases hx : M[id]? with
      | none => simp [hx] at hM
      | some y => simp [hx] at hM
    · rw [List.getElem?_set_ne he] at hM
      obtain ⟨b, n, hm⟩ := h.live i cs hM hsi
      exact ⟨b, n, by simp only [Gh.kill]; rw [List.getElem?_set_ne he]; exact hm⟩
  · have hid' : i < M.length := by simpa using hid
    obtain ⟨hB, hm, cs, o, hM, ho, r⟩ := h.spc i sp hsp hid'
    have he : id ≠ i := fun e => by subst e; have h2 : G.s id = some sp := hsp; rw [hsn] at h2; cases h2
    exact ⟨hB, by simp only [Gh.kill]; rw [List.getElem?_set_ne he]; exact hm, cs, o, by rw [List.getElem?_set_ne he]; exact hM, ho, r.mono (Gle.kill G id)⟩
/-- A block that was given up: its first cells never change. -/
theorem Inv.shutRow [Inhabited TieT] {w0 w : World} {G : Gh} {M : MS} (h : Inv w0 G M w) {id b n : Nat} {cs : List AV} (hm : G.m[id]? = some (some (b, n))) (hM : M[id]? = some (some cs)) (hI : allI cs = true) :
    ∃ G', Gle G G' ∧ Inv w0 G' (M.set id none) w ∧ ∃ vs : Nat → Value, (∀ j, j < cs.length → G'.g ⟨b, j, none⟩ = some (vs j)) ∧ ∀ (j : Nat) (hj : j < cs.length), RI G'.g cs[j] (vs j) := by
  obtain ⟨hB, cs', hM', cur, T, hh, hsz, hl, hr⟩ := h.blk id b n hm
  rw [hM] at hM'; cases hM'
  let G1 : Gh := { G with g := fun a => if a.block = b ∧ a.spot = none ∧ a.off < cs.length then some (cur.getD a.off undef) else G.g a, m := G.m.set id none }
  have hsep := h.sep id b n hm
  have hle : Gle G G1 := ⟨fun a v ha => by
    show (if _ then _ else _) = _
    rw [if_neg (by intro hh; have := hsep a hh.1; rw [this] at ha; cases ha)]; exact ha, by simp [G1], fun i b' _ h' => (Gh.kill_get (G := G) (id := id) (i := i) h').2, fun _ _ => rfl, fun _ h => h, rfl, fun _ _ h => h⟩
  have hk := h.kill id (h.s_none hm)
  refine ⟨G1, hle, ⟨hk.below, hk.len, fun a v ha => ?_, fun i b' n' hm' => ?_, fun i b' n' hm' a ha => ?_, hk.inj, hk.live, fun i sp hsp hid => ?_, hk.tie, hk.sinj, hk.dfr, fun q o hp => by
    obtain ⟨a1, a2, a3, a4, a5⟩ := hk.prot q o hp
    obtain ⟨_, _, c3, _⟩ := h.prot q o hp
    refine ⟨a1, fun a ha => ?_, a3, a4, a5⟩
    show (if _ then _ else _) = _
    rw [if_neg (by intro hh; exact c3 id n (by rw [hm, ← ha, hh.1]))]
    exact a2 a ha⟩, fun j => cur.getD j undef, fun j hj => by simp [G1, hj], fun j hj => ?_⟩
  · change (if _ then _ else _) = _ at ha
    split at ha
    · rename_i hx
      cases ha
      have : a = ⟨b, a.off, none⟩ := by cases a; simp_all
      rw [this, cell_of_row' hh]
      exact ⟨getD_some (by omega), (hr a.off hx.2.2).2⟩
    · exact h.imm a v ha
  · obtain ⟨hB', cs', hM', cur', T', hh', hsz', hl', hr'⟩ := hk.blk i b' n' hm'
    obtain ⟨hne, hm2⟩ := Gh.kill_get (G := G) hm'
    obtain ⟨_, cs2, hM2, cur2, T2, hh2, _, _, hr2⟩ := h.blk i b' n' hm2
    rw [List.getElem?_set_ne (Ne.symm hne)] at hM'
    rw [hM'] at hM2; cases hM2
    rw [hh'] at hh2; cases hh2
    exact ⟨hB', cs', by rw [List.getElem?_set_ne (Ne.symm hne)]; exact hM', cur', T', hh', hsz', hl', fun j hj => ⟨(hr2 j hj).1.mono hle, (hr' j hj).2⟩⟩
  · obtain ⟨hne, hm2⟩ := Gh.kill_get (G := G) hm'
    show (if _ then _ else _) = _
    rw [if_neg (by intro hh; exact hne (by have := hh.1; rw [ha] at this; subst this; exact h.inj _ _ _ _ _ hm2 hm))]
    exact h.sep i b' n' hm2 a ha
  · obtain ⟨k1, k2, k3, k4, k5, k6, k7⟩ := hk.spc i sp hsp hid
    obtain ⟨_, _, q3, q4, q5, q6, q7⟩ := h.spc i sp hsp (by simpa using hid)
    rw [k6] at q6; cases q6
    have hne : id ≠ i := fun e => by
      subst e
      have := h.s_none hm
      have h2 : G.s id = some sp := hsp
      rw [this] at h2; cases h2
    rw [List.getElem?_set_ne hne] at k5
    rw [k5] at q5; cases q5
    exact ⟨k1, k2, k3, k4, by rw [List.getElem?_set_ne hne]; exact k5, k6, q7.mono hle⟩
  · exact ((hr j hj).1.mono hle).toI (allI_get hI j hj)
end Go.Proofs.Ytlcdafidoddefaa.Av
namespace Go.Proofs.Ytlcdafidoddefaa.Av
open Go.RowKit

def avC1 : Value → AV
  | .slice none 0 0 => .list 1 [] true true
  | v => .flat v
def avC : Value → AV
  | .agg cs => if cs.toList.all (·.oneCell') then .agg (cs.toList.map avC1) else .flat (.agg cs)
  | v => avC1 v
def trO : Operand → Option O
  | .tmp t => some (.t t)
  | .const v => some (.k (avC v))
  | .func f => if f < YB then some (.k (.clo f [])) else none
  | .global _ => none
def trOs : List Operand → Option (List O)
  | [] => some []
  | x :: r => match trO x, trOs r with
    | some x, some r => some (x :: r)
    | _, _ => none
def trOo : Option Operand → Option (Option O)
  | none => some none
  | some x => (trO x).map some
/-- Of an element's type: cells, bytes, zero. -/
def elInfo (P : Program) (e : TypeId) : Option (Nat × Nat × List Value) :=
  match P.info? e with
  | some i => match i.zero with
    | some z => if z.cells.size = i.size ∧ 0 < i.size ∧ z.cells.toList.all (·.oneCell') = true then some (i.size, i.bytes, z.cells.toList) else none
    | none => none
  | none => none
def isAggT (P : Program) (t : TypeId) : Option Bool :=
  match P.underlying t with
  | some (.struct _) => some true
  | some (.array _ _) => some true
  | some _ => some false
  | none => none
def sizeT (P : Program) (t : TypeId) : Option Nat := (P.info? t).map (·.size)
/-- A type of whole numbers of a kind. -/
def isIntT (P : Program) (k : IntKind) (t : TypeId) : Bool := match P.underlying t with
  | some (.int k') => decide (k' = k)
  | _ => false
/-- Fields that are whole numbers of one kind, cell by cell. -/
def fldsInt (P : Program) (k : IntKind) : Nat → List Field → Bool
  | _, [] => true
  | o, f :: r => f.name != "_" && (f.offset == o && (isIntT P k f.type && fldsInt P k (o + 1) r))
def eqKind (P : Program) (t : TypeId) : EqK :=
  match P.underlying t with
  | some .bool => .bool
  | some (.slice _) => .slice
  | some (.array n e) => match P.underlying e with
    | some (.int k) => if sizeT P e = some 1 ∧ P.eqGuardType P.depth t = false then .arr n k else .no
    | _ => .no
  | some (.struct fs) => if fldsInt P .i64 0 fs.toList = true ∧ P.eqGuardType P.depth t = false ∧ P.stoodInHeld t = false then .str fs.size .i64 else .no
  | _ => .no
def placesF (P : Program) : List Field → Option (List (Nat × Nat))
  | [] => some []
  | f :: r => match sizeT P f.type, placesF P r with
    | some n, some r => some ((f.offset, n) :: r)
    | _, _ => none
def trParts (pl : Nat → Option (Nat × Nat)) : List (Nat × Operand) → Option (List (Nat × Nat × O))
  | [] => some []
  | (i, x) :: r => match pl i, trO x, trParts pl r with
    | some (o, n), some x, some r => some ((o, n, x) :: r)
    | _, _, _ => none
/-- The key's kind of a map's type. -/
def keyT (P : Program) (t : TypeId) : Option MKey :=
  match P.underlying t with
  | some (.int k) => some (.int k)
  | some .string => some .str
  | some .bool => some .bool
  | some (.array n _) => match eqKind P t with
    | .arr n' k => if n = n' then some (.arr n k) else none
    | _ => none
  | _ => none
/-- A type whose values stand beside nil: pointers, maps. -/
def nilKT (P : Program) (t : TypeId) : Option Bool :=
  match P.underlying t with
  | some (.pointer _) => some false
  | some (.map _ _) => some true
  | _ => none
def mapKT (P : Program) (t : TypeId) : Option MKey :=
  match P.underlying t with
  | some (.map k _) => keyT P k
  | _ => none
/-- What a missing entry reads as. -/
def mapZ (P : Program) (t : TypeId) : Option AV :=
  match P.underlying t with
  | some (.map _ e) => match P.info? e with
    | some i => match i.zero with
      | some z => some (avC z)
      | none => none
    | none => none
  | _ => none
def aslT (P : Program) (t : TypeId) : Option (Nat × Nat) :=
  match P.underlying t with
  | some (.array n e) => (sizeT P e).map fun sz => (n, sz)
  | _ => none
def trI (P : Program) : Op → Option I
  | .move x => (trO x).map .mov
  | .assign x => (trO x).map .mov
  | .pick c a b => match trO c, trO a, trO b with
    | some c, some a, some b => some (.pick c a b)
    | _, _, _ => none
  | .binOp op t x y _ => match trO x, trO y with
    | some x, some y => match nilKT P t with
      | some m => match op with
        | .eql => some (.xop (.nilc m true) [x, y])
        | .neq => some (.xop (.nilc m false) [x, y])
        | _ => none
      | none => some (.bin op (eqKind P t) x y)
    | _, _ => none
  | .unOp op _ x => (trO x).map (.un op)
  | .convert s d x => match P.underlying s, P.underlying d, trO x with
    | some (.int _), some (.int k), some x => some (.convI k x)
    | some .string, some .string, some x => some (.convS x)
    | some .string, some (.slice e), some x => match P.underlying e with
      | some (.int .u8) => some (.bytesOf x)
      | _ => none
    | some (.slice e), some .string, some x => match P.underlying e, sizeT P e with
      | some (.int .u8), some 1 => some (.strOf x)
      | _, _ => none
    | _, _, _ => none
  | .load t a => match isAggT P t, sizeT P t, trO a with
    | some ag, some n, some a => some (.load ag n a)
    | _, _, _ => none
  | .store t a x => match sizeT P t, trO a, trO x with
    | some n, some a, some x => some (.store n a x)
    | _, _, _ => none
  | .alloc e => match elInfo P e with
    | some (_, _, zs) => some (.alloc (zs.map avC1))
    | none => none
  | .box e x => match sizeT P e, trO x with
    | some n, some x => some (.box n x)
    | _, _ => none
  | .build t parts => match P.underlying t, elInfo P t with
    | some (.struct fs), some (_, _, zs) => match placesF P fs.toList with
      | some pl => (trParts (fun i => pl[i]?) parts.toList).map (.build (zs.map avC1))
      | none => none
    | some (.array _ e), some (_, _, zs) => match sizeT P e with
      | some n => (trParts (fun i => some (i * n, n)) parts.toList).map (.build (zs.map avC1))
      | none => none
    | _, _ => none
  | .buildSlice t len parts => match P.underlying t with
    | some (.slice e) => match elInfo P e with
      | some (n, _, zs) => if len * n ≤ 2 ^ 24 then (trParts (fun i => some (i * n, n)) parts.toList).map (.bslice n len (zs.map avC1)) else none
      | none => none
    | _ => none
  | .makeSlice t l c => match P.underlying t, trO l, trO c with
    | some (.slice e), some l, some c => match elInfo P e with
      | some (n, b, zs) => some (.mslice n b (zs.map avC1) l c)
      | none => none
    | _, _, _ => none
  | .slice t x lo hi mx => match P.underlying t, trO x, trOo lo, trOo hi, trOo mx with
    | some (.slice e), some x, some lo, some hi, some mx => (sizeT P e).map fun n => .slice n x lo hi mx
    | some .string, some x, some lo, some hi, some none => some (.sstr x lo hi)
    | some (.array _ _), some x, some none, some none, some none => (aslT P t).map fun q => .xop (.aslice q.1 q.2) [x]
    | _, _, _, _, _ => none
  | .makeMap t r => match P.underlying t, r with
    | some (.map _ _), none => some (.xop .mkmap [])
    | some (.map _ _), some (.const (.int _ _)) => some (.xop .mkmap [])
    | _, _ => none
  | .lookup t x k ok => match mapKT P t, mapZ P t, trO x, trO k with
    | some mk, some z, some x, some k => some (.xop (.mget mk ok z) [x, k])
    | _, _, _, _ => none
  | .mapUpdate t m k x => match mapKT P t, trO m, trO k, trO x with
    | some mk, some m, some k, some x => some (.xop (.mset mk) [m, k, x])
    | _, _, _, _ => none
  | .insert t m k x => match mapKT P t, trO m, trO k, trO x with
    | some mk, some m, some k, some x => some (.xop (.mset mk) [m, k, x])
    | _, _, _, _ => none
  | .fieldAddr s x f => match P.underlying s, trO x with
    | some (.struct fs), some x => match fs[f]? with
      | some fd => match sizeT P fd.type with
        | some n => if n = 0 then none else some (.fad fd.offset x)
        | none => none
      | none => none
    | _, _ => none
  | .field s x f => match P.underlying s, trO x with
    | some (.struct fs), some x => match fs[f]? with
      | some fd => match isAggT P fd.type, sizeT P fd.type with
        | some ag, some n => if ag ∨ n = 1 then some (.fld ag fd.offset n x) else none
        | _, _ => none
      | none => none
    | _, _ => none
  | .indexAddr t x i => match P.underlying t, trO x, trO i with
    | some (.slice e), some x, some i => (sizeT P e).map fun n => .idx n x i
    | some (.array len e), some x, some i => (sizeT P e).map fun n => .aidx len n x i
    | _, _, _ => none
  | .index t x i => match P.underlying t, trO x, trO i with
    | some .string, some x, some i => some (.istr x i)
    | _, _, _ => none
  | .extract x i => (trO x).map (.ext i)
  | .makeFunc fn first caps => match fn with
    | .func f => if first.isEmpty ∧ f < YB then (trOs caps.toList).map (.clo f) else none
    | _ => none
  | .nilCheck x => (trO x).map .nilck
  | .call c => match trOs c.args.toList with
    | some args => match c.callee with
      | .value (.func f) => if f < YB then some (.call f args) else none
      | .value x => (trO x).map fun x => .calld x args
      | .builtin .len => match args, (c.argTypes[0]?).bind P.underlying with
        | [x], some (.slice _) => some (.lenS x)
        | [x], some .string => some (.lenStr x)
        | [x], some (.map _ _) => some (.xop .mlen [x])
        | _, _ => none
      | .builtin .delete => match args, (c.argTypes[0]?).bind (mapKT P) with
        | [m, k], some mk => some (.xop (.mdel mk) [m, k])
        | _, _ => none
      | .builtin .append => match args, c.argTypes[0]?, c.argTypes[1]?, (c.argTypes[0]?).bind P.underlying with
        | [s, x], some t, some u, some (.slice e) => if t = u then match elInfo P e with
            | some (n, b, _) => some (.app n b s x)
            | none => none
          else none
        | _, _, _, _ => none
      | .builtin .copy => match args, (c.argTypes[0]?).bind P.underlying with
        | [d, s], some (.slice e) => match sizeT P e with
          | some n => if 0 < n then some (.copy n d s) else none
          | none => none
        | _, _ => none
      | .builtin .clear => match args, (c.argTypes[0]?).bind P.underlying with
        | [x], some (.slice e) => match elInfo P e with
          | some (n, _, zs) => some (.clear n (zs.map avC1) x)
          | none => none
        | [x], some (.map _ _) => some (.xop .mclr [x])
        | _, _ => none
      | .builtin .min => match args with
        | [x, y] => some (.min x y)
        | _ => none
      | .builtin .max => match args with
        | [x, y] => some (.max x y)
        | _ => none
      | _ => none
    | none => none
  | _ => none

/-! ### Operands -/
theorem avC1_R (g : Addr → Option Value) (v : Value) : RI g (avC1 v) v := by
  unfold avC1
  split
  · exact .nil 1
  · exact .flat v
theorem avC_R (g : Addr → Option Value) (v : Value) : RI g (avC v) v := by
  unfold avC
  split
  · rename_i cs
    split
    · rename_i h
      refine .agg _ _ (by simp) (fun j hj => ?_) fun j hj => ?_
      · simp only [List.length_map, Array.length_toList] at hj
        simpa [Array.getD, hj] using avC1_R g cs[j]
      · simp only [List.length_map, Array.length_toList] at hj
        have := List.all_eq_true.1 h cs[j] (by simp)
        simpa [Array.getD, hj] using this
    · exact .flat _
  · exact avC1_R g _
structure EnvR (G : Gh) (env : Env) (a : Act) : Prop where
  t : ∀ t : Nat, R G (env t) (a.tmps.getD t undef)
  d : (a.defers.map (·.target)).Nodup ∧ ∀ x ∈ a.defers, ∃ r, x = { target := .collected r, args := #[] } ∧ G.d r ∧ ¬ G.c r
  c : ∀ r, G.c r → G.d r
theorem EnvR.mono {G G' : Gh} {env : Env} {a : Act} (h : EnvR G env a) (hG : Gle G G') : EnvR G' env a := ⟨fun t => (h.t t).mono hG, ⟨h.d.1, fun x hx => by obtain ⟨r, h1, h2, h3⟩ := h.d.2 x hx; exact ⟨r, h1, hG.d r h2, by rw [hG.c]; exact h3⟩⟩, fun r hr => hG.d r (h.c r (by rw [← hG.c]; exact hr))⟩
theorem trO_R {G : Gh} {env : Env} {a : Act} (HE : EnvR G env a) {x : Operand} {o : O} (h : trO x = some o) : R G (o.ev env) (a.eval x) := by
  cases x with
  | tmp t => simp [trO] at h; subst h; exact HE.t t
  | const v => simp [trO] at h; subst h; exact .imm _ _ (avC_R _ v)
  | func f =>
    simp only [trO] at h
    split at h
    · rename_i hf; cases h; exact .imm _ _ (.clo f [] #[] hf rfl (fun j hj => by simp at hj))
    · cases h
  | global n => simp [trO] at h
theorem trOs_R {G : Gh} {env : Env} {a : Act} (HE : EnvR G env a) : ∀ {xs : List Operand} {os : List O}, trOs xs = some os →
    (os.map (·.ev env)).length = xs.length ∧ ∀ (j : Nat) (h : j < (os.map (·.ev env)).length), R G ((os.map (·.ev env))[j]) ((xs.map a.eval).getD j undef)
  | [], os, h => by simp [trOs] at h; subst h; exact ⟨rfl, fun j hj => by simp at hj⟩
  | x :: xs, os, h => by
    simp only [trOs] at h
    split at h
    · rename_i o r h1 h2
      simp at h; subst h
      obtain ⟨hl, hr⟩ := trOs_R HE h2
      refine ⟨by simpa using hl, fun j hj => ?_⟩
      cases j with
      | zero => simpa using trO_R HE h1
      | succ j => have h3 := hr j (by simpa using hj); simp only [List.getElem_map] at h3; simpa using h3
    · cases h

theorem EnvR.put {G : Gh} {env : Env} {a : Act} (HE : EnvR G env a) {x : AV} {v : Value} (h : R G x v) (d : Option Nat) (hd : ∀ t, d = some t → t < a.tmps.size) : EnvR G (updO env d x) (a.put d v) := by
  cases d with
  | none => exact HE
  | some d =>
    have hd := hd d rfl
    refine ⟨fun t => ?_, HE.d, HE.c⟩
    simp only [updO, upd, Act.put]
    by_cases ht : t = d
    · subst ht; simpa [Array.getD, hd] using h
    · have := HE.t t
      simp only [ht, if_false]
      simpa [Array.getD_eq_getD_getElem?, Array.getElem?_setIfInBounds_ne (Ne.symm ht)] using this

/-! ### Slices and addresses in memory -/
theorem addr_add_add (a : Addr) (i j : Nat) : (a.add i).add j = a.add (i + j) := by
  unfold Addr.add
  by_cases hi : i = 0
  · simp [hi]
  · by_cases hj : j = 0
    · simp [hj, hi]
    · simp [hi, hj, Nat.add_assoc]
theorem addr_add0 (b o j : Nat) : (⟨b, o, none⟩ : Addr).add j = ⟨b, o + j, none⟩ := by
  unfold Addr.add
  split <;> simp_all
theorem Inv.row [Inhabited TieT] {w0 w : World} {G : Gh} {M : MS} (HI : Inv w0 G M w) {id : Nat} {cs : List AV} (hM : M[id]? = some (some cs)) (hsn : G.s id = none) :
    ∃ (b n : Nat) (cur : Array Value) (T : TypeId), G.m[id]? = some (some (b, n)) ∧ w0.heap.size ≤ b ∧ w.heap[b]? = some (.cells cur T (0, 0)) ∧ cur.size = n ∧ cs.length ≤ n ∧
      ∀ (j : Nat) (h : j < cs.length), R G cs[j] (cur.getD j undef) ∧ (cur.getD j undef).oneCell' = true := by
  obtain ⟨b, n, hm⟩ := HI.live id cs hM hsn
  obtain ⟨hB, cs', hM', cur, T, hh, hs, hl, hr⟩ := HI.blk id b n hm
  rw [hM] at hM'; cases hM'
  exact ⟨b, n, cur, T, hm, hB, hh, hs, hl, hr⟩
/-- A slice in memory. -/
theorem view_cells [Inhabited TieT] {w0 w : World} {G : Gh} {M : MS} (HI : Inv w0 G M w) {x : AV} {v : Value} (hx : R G x v) {cs : List AV} (hv : view M x = some cs) :
    ∃ (A : Option Addr) (n c sz : Nat), v = .slice A n c ∧ lenOf x = some n ∧ cs.length = n * sz ∧ (A = none → n = 0) ∧ n ≤ c ∧ c ≤ maxLen ∧
      (∀ a, A = some a → 0 < sz ∧ ∃ vs : Nat → Value, ∀ (j : Nat) (h : j < cs.length), w.cell? (a.add j) = some (vs j) ∧ R G cs[j] (vs j) ∧ (vs j).oneCell' = true) := by
  cases x with
  | list sz cs' nil capd =>
    simp only [view, Option.some.injEq] at hv
    subst hv
    rcases RI.list_cases hx.list_inv with ⟨rfl, rfl, rfl, rfl⟩ | ⟨rfl, a, n, c, vs, rfl, h0, h1, h2, h3, h4, h5, h6⟩
    · exact ⟨none, 0, 0, 0, rfl, by simp [lenOf], by simp, fun _ => rfl, Nat.le_refl _, by simp [maxLen], fun a h => by cases h⟩
    · refine ⟨some a, n, c, sz, rfl, by simp [lenOf, h1, Nat.mul_div_cancel n h0], h1, fun h => (by cases h), h2, h3, fun a' ha => ?_⟩
      cases ha
      exact ⟨h0, vs, fun j hj => ⟨(HI.imm _ _ (h5 j hj)).1, .imm _ _ (h6 j hj), (HI.imm _ _ (h5 j hj)).2⟩⟩
  | ms id off len sz capd =>
    simp only [view] at hv
    split at hv
    · rename_i cs0 hM
      split at hv
      · rename_i hfit
        simp only [Option.some.injEq] at hv
        subst hv
        obtain ⟨b, n, cur, T, hm, hB, hh, hs, hl, hr⟩ := HI.row hM hx.ms_s
        obtain ⟨h0, h1, hsz, hcl⟩ := hx.ms_inv
        obtain ⟨c, rfl, h2, h3, h4, h5⟩ := hcl b n hm
        have hlen : ((cs0.drop off).take (len * sz)).length = len * sz := by simp; omega
        refine ⟨_, len, c, sz, rfl, rfl, hlen, fun h => (by cases h), h2, h3, fun a ha => ?_⟩
        cases ha
        refine ⟨hsz, fun j => cur.getD (off + j) undef, fun j hj => ?_⟩
        rw [hlen] at hj
        obtain ⟨r1, r2⟩ := hr (off + j) (by omega)
        refine ⟨by rw [addr_add0, cell_of_row' hh]; exact getD_some (by omega), by simpa using r1, r2⟩
      · cases hv
    · cases hv
  | _ => simp [view] at hv
/-- An address in memory. -/
theorem aview_cells [Inhabited TieT] {w0 w : World} {G : Gh} {M : MS} (HI : Inv w0 G M w) {x : AV} {v : Value} (hx : R G x v) {cs : List AV} (hv : aview M x = some cs) :
    ∃ (a : Addr) (vs : Nat → Value), v = .pointer (some a) ∧ ∀ (j : Nat) (h : j < cs.length), w.cell? (a.add j) = some (vs j) ∧ R G cs[j] (vs j) ∧ (vs j).oneCell' = true := by
  cases x with
  | elem x k =>
    simp only [aview, Option.map_eq_some_iff] at hv
    obtain ⟨cs', hv, rfl⟩ := hv
    obtain ⟨a, n, c, hx', rfl⟩ := hx.elem_inv
    obtain ⟨A, n', c', sz, he, _, _, _, _, _, hc⟩ := view_cells HI hx' hv
    cases he
    obtain ⟨_, vs, hvs⟩ := hc a rfl
    refine ⟨a.add k, fun j => vs (k + j), rfl, fun j hj => ?_⟩
    simp only [List.length_drop] at hj
    obtain ⟨r1, r2, r3⟩ := hvs (k + j) (by omega)
    exact ⟨by rw [addr_add_add]; exact r1, by simpa using r2, r3⟩
  | mptr id off =>
    simp only [aview] at hv
    split at hv
    · rename_i cs0 hM
      simp only [Option.some.injEq] at hv
      subst hv
      obtain ⟨b, n, cur, T, hm, hB, hh, hs, hl, hr⟩ := HI.row hM hx.mptr_s
      obtain ⟨h0, h1, hp⟩ := hx.mptr_inv
      refine ⟨⟨b, off, none⟩, fun j => cur.getD (off + j) undef, hp b n hm, fun j hj => ?_⟩
      simp only [List.length_drop] at hj
      obtain ⟨r1, r2⟩ := hr (off + j) (by omega)
      exact ⟨by rw [addr_add0, cell_of_row' hh]; exact getD_some (by omega), by simpa using r1, r2⟩
    · cases hv
  | _ => simp [aview] at hv
end Go.Proofs.Ytlcdafidoddefaa.Av
namespace Go.Proofs.Ytlcdafidoddefaa.Av
open Go.RowKit
set_option linter.unusedSimpArgs false

def OutR [Inhabited TieT] (w0 : World) (G : Gh) (M : MS) (out : Out) (v : Value) (w : World) : Prop :=
  match out with
  | .q x => R G x v ∧ Inv w0 G M w
  | .x x M' _ => R G x v ∧ Inv w0 G M' w
/-- The machine's operation ends with a value, and what the evaluator says is so. -/
def Does [Inhabited TieT] (w0 : World) (G : Gh) (M : MS) (out : Out) (r : Result Next) : Prop :=
  ∃ v w' G', (r = .ok (.value v) w' ∨ (r = .ok .skip w' ∧ v = undef)) ∧ Gle G G' ∧ OutR w0 G' M out v w'
theorem Does.val [Inhabited TieT] {w0 w : World} {G : Gh} {M : MS} {x : AV} {r : Result Next} {v : Value} (HI : Inv w0 G M w) (hr : r = .ok (.value v) w) (hx : R G x v) : Does w0 G M (.q x) r :=
  ⟨v, w, G, .inl hr, Gle.refl G, hx, HI⟩
theorem Does.flat [Inhabited TieT] {w0 w : World} {G : Gh} {M : MS} {r : Result Next} {v : Value} (HI : Inv w0 G M w) (hr : r = .ok (.value v) w) : Does w0 G M (.q (.flat v)) r :=
  .val HI hr (.imm _ _ (.flat v))

section
variable {P : Program} {w0 w : World} {G : Gh} {M : MS} {env : Env} {a : Act}

theorem asBool_inv {x : AV} {b : Bool} (h : asBool x = some b) : x = .flat (.bool b) := by
  unfold asBool at h
  split at h
  · cases h; rfl
  · cases h
theorem asInt_inv {x : AV} {n : Int} (h : asInt x = some n) : ∃ k, x = .flat (.int k n) := by
  unfold asInt at h
  split at h
  · cases h; exact ⟨_, rfl⟩
  · cases h
theorem does_intBin {op : BinOp} {k : IntKind} {x y : Int} {v : Value} {t : TypeId} {ox oy : Operand} (h : intBin op k x y = some v) :
    ((do eqGuard op t ox oy (.int k x) (.int k y); binOp op t (.int k x) (.int k y) : Sem Value)).run P w = .ok v w := by
  have hg := eqGuard_at_int op t ox oy (.int k y) k x
  rw [hg]
  cases op <;> simp only [intBin] at h <;> (try split at h) <;> (first | (cases h; done) | cases h) <;>
    simp_all [binOp, Op.intArith, Op.intDiv, Op.intCmp, Op.intBits, bne]
theorem does_strBin {op : BinOp} {x y : ByteArray} {v : Value} {t : TypeId} {ox oy : Operand} (h : strBin op x y = some v) :
    ((do eqGuard op t ox oy (.string x) (.string y); binOp op t (.string x) (.string y) : Sem Value)).run P w = .ok v w := by
  have hg := eqGuard_at_string op t ox oy (.string y) x
  rw [hg]
  cases op <;> simp only [strBin] at h <;> (try split at h) <;> (first | (cases h; done) | cases h) <;>
    simp_all [binOp, Op.stringOp]
  omega
theorem eqKind_bool {t : TypeId} (h : eqKind P t = .bool) : P.underlying t = some .bool := by
  unfold eqKind at h
  split at h <;> first | assumption | (cases h; done) | (split at h <;> first | (cases h; done) | (split at h <;> cases h))
theorem eqKind_slice {t : TypeId} (h : eqKind P t = .slice) : ∃ e, P.underlying t = some (.slice e) := by
  unfold eqKind at h
  split at h <;> first | exact ⟨_, by assumption⟩ | (cases h; done) | (split at h <;> first | (cases h; done) | (split at h <;> cases h))
theorem eqKind_arr {t : TypeId} {n : Nat} {k : IntKind} (h : eqKind P t = .arr n k) : ∃ e, P.underlying t = some (.array n e) ∧ P.underlying e = some (.int k) ∧ sizeT P e = some 1 ∧ P.eqGuardType P.depth t = false := by
  unfold eqKind at h
  split at h
  · cases h
  · cases h
  · rename_i n' e he
    split at h
    · rename_i k' hk
      split at h
      · rename_i hh
        cases h
        exact ⟨e, he, hk, hh⟩
      · cases h
    · cases h
  · split at h <;> cases h
  · cases h
theorem eqKind_str {t : TypeId} {n : Nat} {k : IntKind} (h : eqKind P t = .str n k) : k = .i64 ∧ ∃ fs, P.underlying t = some (.struct fs) ∧ fs.size = n ∧ fldsInt P .i64 0 fs.toList = true ∧ P.eqGuardType P.depth t = false ∧ P.stoodInHeld t = false := by
  unfold eqKind at h
  split at h
  · cases h
  · cases h
  · split at h
    · split at h <;> cases h
    · cases h
  · rename_i fs hu
    split at h
    · rename_i hh
      cases h
      exact ⟨rfl, fs, hu, rfl, hh⟩
    · cases h
  · cases h
theorem eqV_inv {op : BinOp} {b : Bool} {x : AV} (h : eqV op b = some x) : (op = .eql ∧ x = .flat (.bool b)) ∨ (op = .neq ∧ x = .flat (.bool !b)) := by
  unfold eqV at h
  split at h
  · cases h; exact .inl ⟨rfl, rfl⟩
  · cases h; exact .inr ⟨rfl, rfl⟩
  · cases h
theorem asInts_inv {k : IntKind} : ∀ {cs : List AV} {l : List Int}, asInts k cs = some l → cs = l.map fun n => .flat (.int k n)
  | [], l, h => by simp [asInts] at h; subst h; rfl
  | c :: cs, l, h => by
    cases c with
    | flat v =>
      cases v with
      | int k' n =>
        simp only [asInts] at h
        split at h
        · rename_i hk; subst hk
          rw [Option.map_eq_some_iff] at h
          obtain ⟨l', hl, rfl⟩ := h
          simp [asInts_inv hl]
        · cases h
      | _ => simp [asInts] at h
    | _ => simp [asInts] at h
theorem agg_ints {k : IntKind} {l : List Int} {v : Value} (h : R G (.agg (l.map fun n => .flat (.int k n))) v) : v = .agg (l.map fun n => Value.int k n).toArray := by
  obtain ⟨vs, rfl, hs, hv, _⟩ := h.agg_inv
  congr 1
  simp only [List.length_map] at hs
  apply Array.ext
  · simpa using hs
  · intro i h1 h2
    have := hv i (by simpa using by omega)
    simp only [List.getElem_map] at this
    have := this.flat_inv
    simp only [Array.getD, h1, dif_pos] at this
    simpa using this
theorem range_all_eq : ∀ (xs ys : List Int), xs.length = ys.length → (List.range xs.length).all (fun i => xs.getD i 0 == ys.getD i 0) = (xs == ys)
  | [], [], _ => rfl
  | x :: xs, y :: ys, h => by
    have ih := range_all_eq xs ys (by simpa using h)
    simp only [List.length_cons, List.range_succ_eq_map, List.all_cons, List.all_map, Function.comp_def, List.getD_cons_zero, List.getD_cons_succ, List.cons_beq_cons]
    rw [← ih]
theorem run_eqItems_ints (d : Nat) {e : TypeId} {k : IntKind} (he : P.underlying e = some (.int k)) (xs ys : List Int) : ∀ (is : List Nat), (∀ i ∈ is, i < xs.length ∧ i < ys.length) →
    (Op.eqItems (d + 1) e 1 (xs.map fun z => Value.int k z).toArray (ys.map fun z => Value.int k z).toArray is).run P w = .ok (is.all fun i => xs.getD i 0 == ys.getD i 0) w
  | [], _ => by simp [Op.eqItems]
  | i :: is, h => by
    obtain ⟨h1, h2⟩ := h i (by simp)
    have ih := run_eqItems_ints d he xs ys is (fun j hj => h j (by simp [hj]))
    have hag : ∀ w : World, (isAgg e).run P w = .ok false w := fun w => by simp [isAgg, run_underlying he]
    have p1 : ∀ (zs : List Int), i < zs.length → ∀ w : World, (part e (zs.map fun z => Value.int k z).toArray (i * 1)).run P w = .ok (.int k (zs.getD i 0)) w := fun zs hz w => by
      simp [part, hag, hz]
    simp only [Op.eqItems, Sem.run_bind, p1 xs h1, p1 ys h2, Result.andThen_ok, run_equalIn_int w d e k k _ _ he, List.all_cons]
    cases hb : (xs.getD i 0 == ys.getD i 0)
    · simp
    · simpa using ih
theorem isIntT_inv {k : IntKind} {t : TypeId} (h : isIntT P k t = true) : P.underlying t = some (.int k) := by
  unfold isIntT at h
  split at h
  · rename_i k' hk
    rw [hk, of_decide_eq_true h]
  · cases h
theorem run_eqFields_ints (d : Nat) {k : IntKind} (xs ys : List Int) : ∀ (fs : List Field) (o : Nat), fldsInt P k o fs = true → o + fs.length ≤ xs.length → o + fs.length ≤ ys.length →
    (Op.eqFields (d + 1) (xs.map fun z => Value.int k z).toArray (ys.map fun z => Value.int k z).toArray fs).run P w = .ok ((xs.drop o).take fs.length == (ys.drop o).take fs.length) w
  | [], o, _, _, _ => by simp [Op.eqFields]
  | f :: fs, o, h, h1, h2 => by
    simp only [fldsInt, Bool.and_eq_true, bne_iff_ne, ne_eq, beq_iff_eq] at h
    obtain ⟨e1, e2, e3', e4⟩ := h
    have e3 := isIntT_inv e3'
    simp only [List.length_cons] at h1 h2
    have ih := run_eqFields_ints d xs ys fs (o + 1) e4 (by omega) (by omega)
    have hag : ∀ w : World, (isAgg f.type).run P w = .ok false w := fun w => by simp [isAgg, run_underlying e3]
    have p1 : ∀ (zs : List Int) (h : o < zs.length), ∀ w : World, (part f.type (zs.map fun z => Value.int k z).toArray f.offset).run P w = .ok (.int k zs[o]) w := fun zs hz w => by
      simp [part, hag, hz, e2]
    have g1 := List.drop_eq_getElem_cons (show o < xs.length by omega)
    have g2 := List.drop_eq_getElem_cons (show o < ys.length by omega)
    rw [g1, g2, List.length_cons, List.take_succ_cons, List.take_succ_cons, List.cons_beq_cons]
    simp only [Op.eqFields, ne_eq, e1, not_false_eq_true, if_true, Sem.run_bind, p1 xs (by omega), p1 ys (by omega), Result.andThen_ok, run_equalIn_int w d f.type k k _ _ e3, Sem.run_ite]
    cases hb : (xs[o] == ys[o])
    · simp
    · simpa using ih
theorem does_bin {op : BinOp} {t : TypeId} {ox oy : Operand} {x y z : AV} {u v : Value} (hx : R G x u) (hy : R G y v) (h : bin op (eqKind P t) x y = some z) :
    ∃ r, ((do eqGuard op t ox oy u v; binOp op t u v : Sem Value)).run P w = .ok r w ∧ R G z r := by
  unfold bin at h
  split at h
  · rename_i k a k' b
    have e1 := hx.flat_inv; have e2 := hy.flat_inv
    subst e1; subst e2
    split at h
    · rename_i hk; subst hk
      rw [Option.map_eq_some_iff] at h
      obtain ⟨r, hr, rfl⟩ := h
      exact ⟨r, does_intBin hr, .imm _ _ (.flat r)⟩
    · cases h
  · rename_i a b
    have e1 := hx.flat_inv; have e2 := hy.flat_inv
    subst e1; subst e2
    rw [Option.map_eq_some_iff] at h
    obtain ⟨r, hr, rfl⟩ := h
    exact ⟨r, does_strBin hr, .imm _ _ (.flat r)⟩
  · rename_i a b
    have e1 := hx.flat_inv; have e2 := hy.flat_inv
    subst e1; subst e2
    split at h
    · rename_i hk
      have ht := eqKind_bool hk
      have hg := eqGuard_at_bool op t ox oy (.bool b) a
      have he := run_equal_bool (P := P) w t a b ht
      rw [hg]
      rcases eqV_inv h with ⟨rfl, rfl⟩ | ⟨rfl, rfl⟩
      · exact ⟨.bool (a == b), by simp [binOp, he], .imm _ _ (.flat _)⟩
      · exact ⟨.bool !(a == b), by simp [binOp, he], .imm _ _ (.flat _)⟩
    · cases h
  · rename_i sz cs nl cd sz' cd'
    split at h
    · rename_i hk
      obtain ⟨e, ht⟩ := eqKind_slice hk
      rcases RI.list_cases hy.list_inv with ⟨_, _, _, rfl⟩ | ⟨hf, _⟩
      · have hn : ∃ A n c, u = .slice A n c ∧ A.isNone = nl := by
          rcases RI.list_cases hx.list_inv with ⟨rfl, _, _, rfl⟩ | ⟨rfl, a, n, c, _, rfl, _⟩
          · exact ⟨none, 0, 0, rfl, rfl⟩
          · exact ⟨some a, n, c, rfl, rfl⟩
        obtain ⟨A, n, c, rfl, hA⟩ := hn
        have hg := eqGuard_at_slice op t ox oy (.slice none 0 0) A n c
        have he := run_equal_slice_nil (P := P) w t e A n c ht
        rw [hg]
        rcases eqV_inv h with ⟨rfl, rfl⟩ | ⟨rfl, rfl⟩
        · exact ⟨.bool nl, by simp [binOp, he, hA], .imm _ _ (.flat _)⟩
        · exact ⟨.bool !nl, by simp [binOp, he, hA], .imm _ _ (.flat _)⟩
      · cases hf
    · cases h
  · rename_i id1 off1 len1 sz1 cd1 sz' cd'
    split at h
    · rename_i hk
      obtain ⟨e, ht⟩ := eqKind_slice hk
      rcases RI.list_cases hy.list_inv with ⟨_, _, _, rfl⟩ | ⟨hf, _⟩
      · obtain ⟨A, c, rfl⟩ := hx.ms_len
        have hg := eqGuard_at_slice op t ox oy (.slice none 0 0) (some A) len1 c
        have he := run_equal_slice_nil (P := P) w t e (some A) len1 c ht
        rw [hg]
        rcases eqV_inv h with ⟨rfl, rfl⟩ | ⟨rfl, rfl⟩
        · exact ⟨.bool false, by simp [binOp, he], .imm _ _ (.flat _)⟩
        · exact ⟨.bool true, by simp [binOp, he], .imm _ _ (.flat _)⟩
      · cases hf
    · cases h
  · rename_i xs ys
    split at h
    · rename_i n k hk
      split at h
      · rename_i la lb h1 h2
        split at h
        · rename_i hl
          obtain ⟨e, ht, he, hs, hgt⟩ := eqKind_arr hk
          have e1 := asInts_inv h1; have e2 := asInts_inv h2
          subst e1; subst e2
          have f1 := agg_ints hx; have f2 := agg_ints hy
          subst f1; subst f2
          obtain ⟨i, hi, his⟩ : ∃ i, P.info? e = some i ∧ i.size = 1 := by
            unfold sizeT at hs
            rw [Option.map_eq_some_iff] at hs
            exact hs
          have hc : P.cellsOf e = 1 := by simp [Program.cellsOf, hi, his]
          have hq : (Op.equal t (.agg (la.map fun n => Value.int k n).toArray) (.agg (lb.map fun n => Value.int k n).toArray)).run P w = .ok (la == lb) w := by
            have h3 := run_eqItems_ints (P := P) (w := w) 9998 he la lb (List.range la.length) (fun i hi => by simp at hi; omega)
            rw [range_all_eq la lb (by omega)] at h3
            rw [hl.1] at h3
            have := run_equalIn_array (P := P) w 9999 (la.map fun n => Value.int k n).toArray (lb.map fun n => Value.int k n).toArray ht hi
            rw [hc, h3] at this
            exact this
          have hg : (op = .eql ∨ op = .neq) → (eqGuard op t ox oy (.agg (la.map fun n => Value.int k n).toArray) (.agg (lb.map fun n => Value.int k n).toArray)).run P w = .ok () w := by
            rintro (rfl | rfl) <;> simp [eqGuard, hgt]
          rcases eqV_inv h with ⟨rfl, rfl⟩ | ⟨rfl, rfl⟩
          · exact ⟨.bool (la == lb), by simp [binOp, hg, hq], .imm _ _ (.flat _)⟩
          · exact ⟨.bool !(la == lb), by simp [binOp, hg, hq], .imm _ _ (.flat _)⟩
        · cases h
      · cases h
    · rename_i n k hk
      split at h
      · rename_i la lb h1 h2
        split at h
        · rename_i hl
          obtain ⟨rfl, fs, ht, hn, hfl, hgt, hst⟩ := eqKind_str hk
          have e1 := asInts_inv h1; have e2 := asInts_inv h2
          subst e1; subst e2
          have f1 := agg_ints hx; have f2 := agg_ints hy
          subst f1; subst f2
          have hfo : P.fieldsOf t = fs := by simp [Program.fieldsOf, ht]
          have hlen : fs.toList.length = n := by simpa using hn
          have hq : (Op.equal t (.agg (la.map fun n => Value.int .i64 n).toArray) (.agg (lb.map fun n => Value.int .i64 n).toArray)).run P w = .ok (la == lb) w := by
            have h3 := run_eqFields_ints (P := P) (w := w) 9998 la lb fs.toList 0 hfl (by omega) (by omega)
            rw [List.drop_zero, List.drop_zero, List.take_of_length_le (by omega), List.take_of_length_le (by omega)] at h3
            have := run_equalIn_struct (P := P) w 9999 t (la.map fun n => Value.int .i64 n).toArray (lb.map fun n => Value.int .i64 n).toArray (by rw [hfo]; exact ht) hst
            rw [hfo, h3] at this
            exact this
          have hg : (op = .eql ∨ op = .neq) → (eqGuard op t ox oy (.agg (la.map fun n => Value.int .i64 n).toArray) (.agg (lb.map fun n => Value.int .i64 n).toArray)).run P w = .ok () w := by
            rintro (rfl | rfl) <;> simp [eqGuard, hgt]
          rcases eqV_inv h with ⟨rfl, rfl⟩ | ⟨rfl, rfl⟩
          · exact ⟨.bool (la == lb), by simp [binOp, hg, hq], .imm _ _ (.flat _)⟩
          · exact ⟨.bool !(la == lb), by simp [binOp, hg, hq], .imm _ _ (.flat _)⟩
        · cases h
      · cases h
    · cases h
  · cases h
theorem does_unop {op : UnOp} {x z : AV} {u : Value} (hx : R G x u) (h : unop op x = some z) : ∃ r, (Op.unary op u).run P w = .ok r w ∧ R G z r := by
  unfold unop at h
  split at h
  · have := hx.flat_inv; subst this
    split at h
    · cases h; exact ⟨_, rfl, .imm _ _ (.flat _)⟩
    · cases h
  · have := hx.flat_inv; subst this
    split at h
    · cases h; exact ⟨_, rfl, .imm _ _ (.flat _)⟩
    · cases h
  · cases h
theorem isAggT_run {t : TypeId} {b : Bool} (h : isAggT P t = some b) (w : World) : (isAgg t).run P w = .ok b w := by
  unfold isAggT at h
  split at h <;> first | (cases h; done) | cases h
  all_goals rename_i hu
  · simp [isAgg, run_underlying hu]
  · simp [isAgg, run_underlying hu]
  · rename_i d hn1 hn2
    simp only [isAgg, Sem.run_bind, run_underlying hu, Result.andThen_ok]
    cases d <;> first | rfl | (exact absurd rfl (hn1 _)) | (exact absurd rfl (hn2 _ _))
theorem sizeT_run {t : TypeId} {n : Nat} (h : sizeT P t = some n) (w : World) : (sizeOf t).run P w = .ok n w := by
  unfold sizeT at h
  rw [Option.map_eq_some_iff] at h
  obtain ⟨i, hi, rfl⟩ := h
  simp [sizeOf, typeInfo, hi]
/-- Cells that are read one after the other. -/
theorem agg_of_cells {cs : List AV} {vs : Nat → Value} {n : Nat} (hn : n ≤ cs.length) (h : ∀ (j : Nat) (h : j < cs.length), R G cs[j] (vs j) ∧ (vs j).oneCell' = true) :
    R G (.agg (cs.take n)) (.agg ((List.range n).map vs).toArray) := by
  have hl : (cs.take n).length = n := by simp; omega
  refine .agg _ _ (by simp [hl]) (fun j hj => ?_) (fun j hj => ?_)
  · rw [hl] at hj
    simpa [Array.getD, hj] using (h j (by omega)).1
  · rw [hl] at hj
    simpa [Array.getD, hj] using (h j (by omega)).2
theorem does_load [Inhabited TieT] {t : TypeId} {ag : Bool} {n : Nat} {x : AV} {u : Value} {cs : List AV} {z : AV} (hag : isAggT P t = some ag) (hn : sizeT P t = some n) (HI : Inv w0 G M w) (hx : R G x u) (hv : aview M x = some cs)
    (hz : ldA ag n cs = some z) :
    ∃ r, (Instr.loadAt t u).run P w = .ok r w ∧ R G z r := by
  obtain ⟨ad, vs, rfl, hc⟩ := aview_cells HI hx hv
  unfold ldA at hz
  cases ag with
  | true =>
    simp only [if_true] at hz
    split at hz
    · rename_i hle
      cases hz
      refine ⟨_, ?_, agg_of_cells hle fun j hj => (hc j hj).2⟩
      have hl := run_loadCells (P := P) w ad n vs (fun j hj => (hc j (by omega)).1)
      simp [Instr.loadAt, Instr.sureAddr, loadVar, isAggT_run hag, sizeT_run hn, hl]
    · cases hz
  | false =>
    simp only [Bool.false_eq_true, if_false] at hz
    cases cs with
    | nil => cases hz
    | cons c cs =>
      cases hz
      obtain ⟨h1, h2, h3⟩ := hc 0 (by simp)
      rw [Addr.add_zero'] at h1
      exact ⟨vs 0, by simp [Instr.loadAt, Instr.sureAddr, loadVar, isAggT_run hag, h1], h2⟩
theorem cellsOf_R {x : AV} {v : Value} (hx : R G x v) {cs : List AV} (h : cellsOf x = some cs) :
    v.cells.size = cs.length ∧ (∀ (j : Nat) (h : j < cs.length), R G cs[j] (v.cells.getD j undef)) ∧ ∀ j, j < cs.length → (v.cells.getD j undef).oneCell' = true := by
  have one : v.oneCell' = true → cs = [x] → v.cells.size = cs.length ∧ (∀ (j : Nat) (h : j < cs.length), R G cs[j] (v.cells.getD j undef)) ∧ ∀ j, j < cs.length → (v.cells.getD j undef).oneCell' = true := by
    intro h1 he
    subst he
    have hc : v.cells = #[v] := by cases v <;> first | rfl | (simp [Value.oneCell'] at h1)
    rw [hc]
    refine ⟨rfl, fun j hj => ?_, fun j hj => ?_⟩
    · have : j = 0 := by simpa using hj
      subst this; exact hx
    · have : j = 0 := by simpa using hj
      subst this; exact h1
  cases x with
  | agg cs' =>
    simp only [cellsOf, Option.some.injEq] at h
    subst h
    obtain ⟨vs, rfl, hs, hv, h1⟩ := hx.agg_inv
    exact ⟨hs, hv, h1⟩
  | tup vs => simp [cellsOf] at h
  | any => simp [cellsOf] at h
  | yld id y cs => simp [cellsOf] at h
  | mp id =>
    simp only [cellsOf, Option.some.injEq] at h
    exact one (by obtain ⟨_, rfl, _⟩ := hx.mp_inv; rfl) h.symm
  | flat u =>
    simp only [cellsOf] at h
    split at h
    · rename_i h1
      have := hx.flat_inv; subst this
      cases h
      exact one h1 rfl
    · cases h
  | list sz cs' nl cd =>
    simp only [cellsOf, Option.some.injEq] at h
    exact one (by rcases RI.list_cases hx.list_inv with ⟨_, _, _, rfl⟩ | ⟨_, _, _, _, _, rfl, _⟩ <;> rfl) h.symm
  | elem x k =>
    simp only [cellsOf, Option.some.injEq] at h
    exact one (by obtain ⟨_, _, _, _, rfl⟩ := hx.elem_inv; rfl) h.symm
  | mptr id off => simp only [cellsOf, Option.some.injEq] at h; exact one hx.mptr_inv.2.1 h.symm
  | ms id off len sz cd => simp only [cellsOf, Option.some.injEq] at h; exact one hx.ms_inv.2.1 h.symm
  | clo fn caps =>
    simp only [cellsOf, Option.some.injEq] at h
    exact one (by obtain ⟨_, rfl, _⟩ := hx.clo_inv; rfl) h.symm
theorem lenS_R0 {x : AV} {v : Value} (hx : R G x v) {n : Nat} (h : lenOf x = some n) : ∃ A c, v = .slice A n c := by
  cases x with
  | list sz cs nl cd =>
    simp only [lenOf, Option.some.injEq] at h
    rcases RI.list_cases hx.list_inv with ⟨rfl, rfl, rfl, rfl⟩ | ⟨rfl, a, m, c, vs, rfl, h0, h1, h2, h3, h4, h5, h6⟩
    · simp at h; subst h; exact ⟨none, 0, rfl⟩
    · rw [h1, Nat.mul_div_cancel m h0] at h; subst h; exact ⟨some a, c, rfl⟩
  | ms id off len sz cd =>
    simp only [lenOf, Option.some.injEq] at h
    subst h
    obtain ⟨A, c, h⟩ := hx.ms_len
    exact ⟨some A, c, h⟩
  | _ => simp [lenOf] at h
theorem lenS_R {x : AV} {v : Value} (hx : R G x v) {n : Nat} (h : lenOf x = some n) (hlive : ∀ id off len sz cd, x = .ms id off len sz cd → ∃ b k, G.m[id]? = some (some (b, k))) :
    ∃ A c, v = .slice A n c ∧ (A = none → n = 0) ∧ n ≤ c := by
  cases x with
  | list sz cs nl cd =>
    simp only [lenOf, Option.some.injEq] at h
    rcases RI.list_cases hx.list_inv with ⟨rfl, rfl, rfl, rfl⟩ | ⟨rfl, a, m, c, vs, rfl, h0, h1, h2, h3, h4, h5, h6⟩
    · simp at h; subst h; exact ⟨none, 0, rfl, fun _ => rfl, Nat.le_refl _⟩
    · rw [h1, Nat.mul_div_cancel m h0] at h; subst h; exact ⟨some a, c, rfl, fun h => (by cases h), h2⟩
  | ms id off len sz cd =>
    simp only [lenOf, Option.some.injEq] at h
    subst h
    obtain ⟨b, k, hm⟩ := hlive _ _ _ _ _ rfl
    obtain ⟨_, _, _, hh⟩ := hx.ms_inv
    obtain ⟨c, rfl, h2, _⟩ := hh b k hm
    exact ⟨_, c, rfl, fun h => (by cases h), h2⟩
  | _ => simp [lenOf] at h
end
end Go.Proofs.Ytlcdafidoddefaa.Av
namespace Go.Proofs.Ytlcdafidoddefaa.Av
open Go.RowKit
set_option linter.unusedSimpArgs false
section
variable {P : Program} {w0 w : World} {G : Gh} {M : MS} {env : Env} {a : Act}

theorem view_live [Inhabited TieT] (HI : Inv w0 G M w) {x : AV} {v : Value} (hx : R G x v) {cs : List AV} (h : view M x = some cs) : ∀ id off len sz cd, x = .ms id off len sz cd → ∃ b k, G.m[id]? = some (some (b, k)) := by
  intro id off len sz cd he
  subst he
  simp only [view] at h
  split at h
  · rename_i cs0 hM
    obtain ⟨b, n, _, _, hm, _⟩ := HI.row hM hx.ms_s
    exact ⟨b, n, hm⟩
  · cases h
theorem lenM_R [Inhabited TieT] (HI : Inv w0 G M w) {x : AV} {v : Value} (hx : R G x v) {n : Nat} (h : lenM M x = some n) : ∃ A c, v = .slice A n c ∧ (A = none → n = 0) ∧ n ≤ c := by
  unfold lenM at h
  split at h
  · rename_i cs hv
    exact lenS_R hx h (view_live HI hx hv)
  · cases h
theorem does_idx [Inhabited TieT] {t e : TypeId} {sz n : Nat} {x : AV} {u : Value} {k : IntKind} {i : Int} (ht : P.underlying t = some (.slice e)) (hs : sizeT P e = some sz) (HI : Inv w0 G M w) (hx : R G x u) (hn : lenM M x = some n) (h0 : 0 ≤ i) (h1 : i < n) :
    ∃ r, (Instr.indexAt t u (.int k i)).run P w = .ok r w ∧ R G (.elem x (i.toNat * sz)) r := by
  obtain ⟨A, c, rfl, hA, hc⟩ := lenM_R HI hx hn
  cases A with
  | none => have := hA rfl; omega
  | some ad => exact ⟨.pointer (some (ad.add (i.toNat * sz))), by simp [Instr.indexAt, asIntOf, run_underlying ht, h0, h1, sizeT_run hs], .elem _ _ _ _ _ hx⟩
theorem does_aidx {t e : TypeId} {sz n : Nat} {u : Value} {ad : Addr} {k : IntKind} {i : Int} (ht : P.underlying t = some (.array n e)) (hs : sizeT P e = some sz) (hu : u = .pointer (some ad)) (h0 : 0 ≤ i) (h1 : i < n) :
    (Instr.indexAt t u (.int k i)).run P w = .ok (.pointer (some (ad.add (i.toNat * sz)))) w := by
  subst hu
  simp [Instr.indexAt, Instr.sureAddr, asIntOf, run_underlying ht, h0, h1, sizeT_run hs]
theorem elem_add {x : AV} {k : Nat} {ad : Addr} (hx : R G (.elem x k) (.pointer (some ad))) (j : Nat) : R G (.elem x (k + j)) (.pointer (some (ad.add j))) := by
  obtain ⟨a', n, c, h, he⟩ := hx.elem_inv
  cases he
  rw [addr_add_add]
  exact .elem _ _ _ _ _ h
theorem mptr_add {id o : Nat} {v : Value} (hx : R G (.mptr id o) v) {b n : Nat} (hm : G.m[id]? = some (some (b, n))) (j : Nat) : ∃ ad, v = .pointer (some ad) ∧ R G (.mptr id (o + j)) (.pointer (some (ad.add j))) := by
  obtain ⟨h0, h1, h⟩ := hx.mptr_inv
  refine ⟨_, h b n hm, .mptr _ _ _ h0 hx.mptr_s rfl fun b' n' hm' => ?_⟩
  rw [hm] at hm'; cases hm'
  rw [addr_add0]
theorem optNat_R {d n : Nat} {x : Option AV} {v : Option Value} (h : optNat d x = some n) (hx : ∀ y, x = some y → ∃ u, v = some u ∧ R G y u) (hn : x = none → v = none) :
    (x = none ∧ v = none ∧ n = d) ∨ (∃ k i, x = some (.flat (.int k i)) ∧ v = some (.int k i) ∧ 0 ≤ i ∧ n = i.toNat) := by
  unfold optNat at h
  split at h
  · cases h; exact .inl ⟨rfl, hn rfl, rfl⟩
  · rename_i k i
    split at h
    · rename_i h0
      cases h
      obtain ⟨u, hu, hr⟩ := hx _ rfl
      have := hr.flat_inv; subst this
      exact .inr ⟨k, i, rfl, hu, h0, rfl⟩
    · cases h
  · cases h
theorem run_sliceBound {x : Value} {y : Nat} {k : IntKind} {i : Int} {cd : BoundsCode} (hx : x = .int k i) (h0 : 0 ≤ i) (h1 : i ≤ y) : (Instr.sliceBound x y cd).run P w = .ok i.toNat w := by
  subst hx
  simp [Instr.sliceBound, asIntOf, h0, h1]
/-- The bounds of a cut. -/
theorem run_sliceBounds {isS : Bool} {n c l h m : Nat} {lo hi mx : Option AV} {vlo vhi vmx : Option Value} (hlo : optNat 0 lo = some l) (hhi : optNat n hi = some h) (hmx : optNat n mx = some m)
    (rlo : ∀ y, lo = some y → ∃ u, vlo = some u ∧ R G y u) (nlo : lo = none → vlo = none) (rhi : ∀ y, hi = some y → ∃ u, vhi = some u ∧ R G y u) (nhi : hi = none → vhi = none)
    (rmx : ∀ y, mx = some y → ∃ u, vmx = some u ∧ R G y u) (nmx : mx = none → vmx = none) (hlh : l ≤ h) (hhm : h ≤ m) (hmn : m ≤ n) (hnc : n ≤ c) (hmh : mx.isSome = true → hi.isSome = true) :
    (Instr.sliceBounds isS n c vlo vhi vmx).run P w = .ok (l, h, if mx.isSome then m else c) w := by
  have F : ∀ (q : Option Value), vlo = q → (q = none ∧ l = 0 ∨ ∃ k i, q = some (.int k i) ∧ 0 ≤ i ∧ l = i.toNat) := by
    intro q hq
    subst hq
    rcases optNat_R hlo rlo nlo with ⟨_, e, r⟩ | ⟨k, i, _, e, h0, r⟩
    · exact .inl ⟨e, r⟩
    · exact .inr ⟨k, i, e, h0, r⟩
  have F := F vlo rfl
  clear rlo nlo hlo
  rcases optNat_R hmx rmx nmx with ⟨rfl, rfl, rfl⟩ | ⟨k, i, rfl, rfl, h0, rfl⟩
  · rcases optNat_R hhi rhi nhi with ⟨rfl, rfl, rfl⟩ | ⟨k, i, rfl, rfl, h0, rfl⟩
    · rcases F with ⟨rfl, rfl⟩ | ⟨k2, i2, rfl, h2, rfl⟩
      · simp [Instr.sliceBounds]
      · have hb3 := run_sliceBound (P := P) (w := w) (x := .int k2 i2) (y := h) (cd := .sliceB) rfl h2 (by omega)
        simp [Instr.sliceBounds, hb3]
    · have hb := run_sliceBound (P := P) (w := w) (x := .int k i) (y := c) (cd := if isS then .sliceAcap else .sliceAlen) rfl h0 (by omega)
      rcases F with ⟨rfl, rfl⟩ | ⟨k2, i2, rfl, h2, rfl⟩
      · simp [Instr.sliceBounds, hb]
      · have hb3 := run_sliceBound (P := P) (w := w) (x := .int k2 i2) (y := i.toNat) (cd := .sliceB) rfl h2 (by omega)
        simp [Instr.sliceBounds, hb, hb3]
  · rcases optNat_R hhi rhi nhi with ⟨rfl, rfl, rfl⟩ | ⟨k', i', rfl, rfl, h0', rfl⟩
    · simp at hmh
    · have hb := run_sliceBound (P := P) (w := w) (x := .int k i) (y := c) (cd := if isS then .slice3Acap else .slice3Alen) rfl h0 (by omega)
      have hb2 := run_sliceBound (P := P) (w := w) (x := .int k' i') (y := i.toNat) (cd := .slice3B) rfl h0' (by omega)
      rcases F with ⟨rfl, rfl⟩ | ⟨k2, i2, rfl, h2, rfl⟩
      · simp [Instr.sliceBounds, hb, hb2]
      · have hb3 := run_sliceBound (P := P) (w := w) (x := .int k2 i2) (y := i'.toNat) (cd := .slice3C) rfl h2 (by omega)
        simp [Instr.sliceBounds, hb, hb2, hb3]
theorem does_slice [Inhabited TieT] {t e : TypeId} {sz : Nat} {x : AV} {u : Value} {lo hi mx : Option AV} {vlo vhi vmx : Option Value} {out : Out} {cs : List AV} (ht : P.underlying t = some (.slice e)) (hs : sizeT P e = some sz) (HI : Inv w0 G M w) (hx : R G x u)
    (hv : view M x = some cs) (h : sliceA sz x lo hi mx = some out)
    (rlo : ∀ y, lo = some y → ∃ u, vlo = some u ∧ R G y u) (nlo : lo = none → vlo = none) (rhi : ∀ y, hi = some y → ∃ u, vhi = some u ∧ R G y u) (nhi : hi = none → vhi = none)
    (rmx : ∀ y, mx = some y → ∃ u, vmx = some u ∧ R G y u) (nmx : mx = none → vmx = none) :
    ∃ r z, (Instr.sliceAt t u vlo vhi vmx).run P w = .ok r w ∧ out = .q z ∧ R G z r := by
  cases x with
  | list sz' cs' nl cd =>
    simp only [sliceA] at h
    split at h
    · rename_i l hh m h1 h2 h3
      split at h
      · rename_i hc
        obtain ⟨hnil, hlh, hhm, hmn, hmh⟩ := hc
        rcases RI.list_cases hx.list_inv with ⟨rfl, rfl, rfl, rfl⟩ | ⟨rfl, ad, n, c, vs, rfl, h0, g1, g2, g3, g4, g5, g6⟩
        · simp only [List.length_nil, Nat.zero_div] at h2 h3 hmn
          simp only [if_true, Option.some.injEq] at h
          subst h
          have hb := run_sliceBounds (P := P) (w := w) (G := G) (isS := true) (c := 0) h1 h2 h3 rlo nlo rhi nhi rmx nmx hlh hhm hmn (Nat.le_refl _) hmh
          have hm0 : m = 0 := by omega
          have hh0 : hh = 0 := by omega
          have hl0 : l = 0 := by omega
          subst hm0; subst hh0; subst hl0
          refine ⟨.slice none 0 0, _, ?_, rfl, hx⟩
          simp [Instr.sliceAt, Instr.slice, run_underlying ht, hb, sizeT_run hs]
        · have hss : sz' = sz := by simpa using hnil
          subst hss
          rw [g1, Nat.mul_div_cancel n h0] at h2 h3 hmn
          simp only [Bool.false_eq_true, if_false, Option.some.injEq] at h
          subst h
          have hb := run_sliceBounds (P := P) (w := w) (G := G) (isS := true) (c := c) h1 h2 h3 rlo nlo rhi nhi rmx nmx hlh hhm hmn g2 hmh
          generalize hmm : (if mx.isSome = true then m else c) = mm at hb
          have hmmh : hh ≤ mm := by subst hmm; split <;> omega
          have hmmc : mm ≤ c := by subst hmm; split <;> omega
          refine ⟨.slice (some (if mm = l then ad else ad.add (l * sz'))) (hh - l) (mm - l), _, ?_, rfl, ?_⟩
          · simp only [Instr.sliceAt, Instr.slice, Sem.run_bind, run_underlying ht, Result.andThen_ok, hb, sizeT_run hs, Sem.run_pure]
            by_cases hml : mm = l <;> simp [hml]
          · have hlen : ((cs'.drop (l * sz')).take ((hh - l) * sz')).length = (hh - l) * sz' := by
              simp only [List.length_take, List.length_drop, g1]
              rw [Nat.min_eq_left]
              rw [← Nat.mul_sub_right_distrib]
              exact Nat.mul_le_mul_right _ (by omega)
            refine .imm _ _ (.list sz' _ _ _ (hh - l) (mm - l) (fun j => vs (l * sz' + j)) h0 hlen (by omega) (by omega) ?_ (fun j hj => ?_) fun j hj => ?_)
            · cases mx with
              | some q => simp only [cutCapd, decide_eq_true_eq]; intro hq; simp at hmm; omega
              | none => simp only [cutCapd, Bool.and_eq_true, decide_eq_true_eq]; intro hq; simp at hmm; have := g4 hq.1; rw [g1, Nat.mul_div_cancel n h0] at hq; omega
            · rw [hlen] at hj
              have hpos : 0 < hh - l := by
                rcases Nat.eq_zero_or_pos (hh - l) with h' | h'
                · rw [h'] at hj; simp at hj
                · exact h'
              have hne : mm ≠ l := by omega
              rw [if_neg hne, addr_add_add]
              have hb1 : l * sz' + j < cs'.length := by
                rw [g1]
                have : l * sz' + (hh - l) * sz' ≤ n * sz' := by rw [← Nat.add_mul]; exact Nat.mul_le_mul_right _ (by omega)
                omega
              exact g5 _ hb1
            · have hj' := hj
              rw [hlen] at hj'
              have hb1 : l * sz' + j < cs'.length := by
                rw [g1]
                have : l * sz' + (hh - l) * sz' ≤ n * sz' := by rw [← Nat.add_mul]; exact Nat.mul_le_mul_right _ (by omega)
                omega
              simpa using g6 _ hb1
      · cases h
    · cases h
  | ms id off len sz' cd =>
    obtain ⟨b, bn, hm⟩ := view_live HI hx hv _ _ _ _ _ rfl
    obtain ⟨i0, i1, isz, icl⟩ := hx.ms_inv
    obtain ⟨c, rfl, c1, c2, c3, c4⟩ := icl b bn hm
    simp only [sliceA] at h
    split at h
    · rename_i l hh m h1 h2 h3
      split at h
      · rename_i hc
        obtain ⟨rfl, hlh, hhm, hmn, hmh⟩ := hc
        have hb := run_sliceBounds (P := P) (w := w) (G := G) (isS := true) (c := c) h1 h2 h3 rlo nlo rhi nhi rmx nmx hlh hhm hmn c1 hmh
        generalize hmm : (if mx.isSome = true then m else c) = mm at hb
        have hmmh : hh ≤ mm := by subst hmm; split <;> omega
        have hmmc : mm ≤ c := by subst hmm; split <;> omega
        have hrun : (Instr.sliceAt t (.slice (some ⟨b, off, none⟩) len c) vlo vhi vmx).run P w = .ok (.slice (some (if mm = l then ⟨b, off, none⟩ else (⟨b, off, none⟩ : Addr).add (l * sz'))) (hh - l) (mm - l)) w := by
          simp only [Instr.sliceAt, Instr.slice, Sem.run_bind, run_underlying ht, Result.andThen_ok, hb, sizeT_run hs, Sem.run_pure]
          by_cases hml : mm = l <;> simp [hml]
        have hcap : ∀ cd' : Bool, (cd' = cutCapd mx m hh (cd && decide (hh = len))) → cd' = true → mm - l = hh - l := by
          intro cd' he hq
          subst he
          cases mx with
          | some q => simp only [cutCapd, decide_eq_true_eq] at hq; simp at hmm; omega
          | none => simp only [cutCapd, Bool.and_eq_true, decide_eq_true_eq] at hq; simp at hmm; have := c4 hq.1; omega
        have hfit : off + l * sz' + (mm - l) * sz' ≤ bn := by
          have : l * sz' + (mm - l) * sz' ≤ c * sz' := by rw [← Nat.add_mul]; exact Nat.mul_le_mul_right _ (by omega)
          omega
        split at h
        · rename_i hl0
          cases h
          subst hl0
          refine ⟨_, _, hrun, rfl, .ms _ _ _ _ _ _ i0 hx.ms_s ⟨_, _, rfl⟩ isz fun b' n' hm' => ?_⟩
          rw [hm] at hm'; cases hm'
          refine ⟨mm - 0, ?_, by omega, by omega, by simpa using hfit, fun hq => by simpa using hcap _ rfl hq⟩
          simp [addr_add0]
        · split at h
          · rename_i hl0 hne
            cases h
            have hz : hh - l = 0 := by omega
            rw [hz] at hrun
            exact ⟨_, _, hrun, rfl, .imm _ _ (.list sz' [] _ _ 0 (mm - l) (fun _ => undef) isz (by simp) (Nat.zero_le _) (by omega) (fun hq => by have := hcap _ rfl hq; omega) (fun j hj => by simp at hj) (fun j hj => by simp at hj))⟩
          · rename_i hl0 hne
            cases h
            refine ⟨_, _, hrun, rfl, .ms _ _ _ _ _ _ i0 hx.ms_s ⟨_, _, rfl⟩ isz fun b' n' hm' => ?_⟩
            rw [hm] at hm'; cases hm'
            refine ⟨mm - l, ?_, by omega, by omega, hfit, fun hq => hcap _ rfl hq⟩
            rw [if_neg (by omega), addr_add0]
      · cases h
    · cases h
  | _ => simp [sliceA] at h
end
end Go.Proofs.Ytlcdafidoddefaa.Av
namespace Go.Proofs.Ytlcdafidoddefaa.Av
open Go.RowKit
set_option linter.unusedSimpArgs false

inductive CR (G : Gh) : List AV → List Value → Prop
  | nil : CR G [] []
  | cons {c : AV} {v : Value} {cs : List AV} {vs : List Value} (h : R G c v) (h1 : v.oneCell' = true) (t : CR G cs vs) : CR G (c :: cs) (v :: vs)
section
variable {P : Program} {w0 w : World} {G : Gh} {M : MS}
theorem CR.len {cs : List AV} {vs : List Value} (h : CR G cs vs) : vs.length = cs.length := by
  induction h with
  | nil => rfl
  | cons _ _ _ ih => simp [ih]
theorem CR.get {cs : List AV} {vs : List Value} (h : CR G cs vs) : ∀ (j : Nat) (hj : j < cs.length), R G cs[j] (vs.getD j undef) ∧ (vs.getD j undef).oneCell' = true := by
  induction h with
  | nil => intro j hj; simp at hj
  | cons h h1 t ih =>
    intro j hj
    cases j with
    | zero => exact ⟨h, h1⟩
    | succ j => simpa using ih j (by simpa using hj)
theorem CR.of : ∀ {cs : List AV} {vs : List Value}, vs.length = cs.length → (∀ (j : Nat) (hj : j < cs.length), R G cs[j] (vs.getD j undef) ∧ (vs.getD j undef).oneCell' = true) → CR G cs vs
  | [], [], _, _ => .nil
  | c :: cs, v :: vs, hl, h => .cons (h 0 (by simp)).1 (h 0 (by simp)).2 (CR.of (by simpa using hl) fun j hj => h (j + 1) (by simpa using hj))
theorem CR.mono {G' : Gh} (hG : Gle G G') {cs : List AV} {vs : List Value} (h : CR G cs vs) : CR G' cs vs := by
  induction h with
  | nil => exact .nil
  | cons h h1 _ ih => exact .cons (h.mono hG) h1 ih
theorem CR.append {cs cs' : List AV} {vs vs' : List Value} (h : CR G cs vs) (h' : CR G cs' vs') : CR G (cs ++ cs') (vs ++ vs') := by
  induction h with
  | nil => exact h'
  | cons h h1 _ ih => exact .cons h h1 ih
theorem CR.take {cs : List AV} {vs : List Value} (h : CR G cs vs) : ∀ n, CR G (cs.take n) (vs.take n) := by
  induction h with
  | nil => intro n; simpa using CR.nil
  | cons h h1 _ ih => intro n; cases n with
    | zero => exact .nil
    | succ n => exact .cons h h1 (ih n)
theorem CR.drop {cs : List AV} {vs : List Value} (h : CR G cs vs) : ∀ n, CR G (cs.drop n) (vs.drop n) := by
  induction h with
  | nil => intro n; simpa using CR.nil
  | cons h h1 t ih => intro n; cases n with
    | zero => exact .cons h h1 t
    | succ n => exact ih n
theorem CR.one {cs : List AV} {vs : List Value} (h : CR G cs vs) : ∀ v ∈ vs, v.oneCell' = true := by
  induction h with
  | nil => intro v hv; cases hv
  | cons h h1 _ ih => intro v hv; rcases List.mem_cons.1 hv with rfl | hv; exact h1; exact ih v hv
theorem CR.rep {cs : List AV} {vs : List Value} (h : CR G cs vs) : ∀ n, CR G (List.replicate n cs).flatten (List.replicate n vs).flatten
  | 0 => .nil
  | n + 1 => by simp only [List.replicate_succ, List.flatten_cons]; exact h.append (h.rep n)
theorem CR.zs {vs : List Value} (h : vs.all (·.oneCell') = true) : CR G (vs.map avC1) vs := by
  induction vs with
  | nil => exact .nil
  | cons v vs ih =>
    simp only [List.all_cons, Bool.and_eq_true] at h
    exact .cons (.imm _ _ (avC1_R _ v)) h.1 (ih h.2)
theorem cellsOf_CR {x : AV} {v : Value} (hx : R G x v) {cs : List AV} (h : cellsOf x = some cs) : CR G cs v.cells.toList := by
  obtain ⟨h1, h2, h3⟩ := cellsOf_R hx h
  refine CR.of (by simpa using h1) fun j hj => ?_
  have e : v.cells.toList.getD j undef = v.cells.getD j undef := by simp [Array.getD_eq_getD_getElem?, List.getD]
  rw [e]
  exact ⟨h2 j hj, h3 j hj⟩
theorem CR.arr {cs : List AV} {vs : List Value} (h : CR G cs vs) : ∀ (j : Nat) (hj : j < cs.length), R G cs[j] (vs.toArray.getD j undef) ∧ (vs.toArray.getD j undef).oneCell' = true := by
  intro j hj
  have e : vs.toArray.getD j undef = vs.getD j undef := by simp [Array.getD_eq_getD_getElem?, List.getD]
  rw [e]; exact h.get j hj
theorem row_CR [Inhabited TieT] (HI : Inv w0 G M w) {id : Nat} {cs : List AV} (hM : M[id]? = some (some cs)) (hsn : G.s id = none) :
    ∃ (b n : Nat) (cur : Array Value) (T : TypeId), G.m[id]? = some (some (b, n)) ∧ w0.heap.size ≤ b ∧ w.heap[b]? = some (.cells cur T (0, 0)) ∧ cur.size = n ∧ cs.length ≤ n ∧ CR G cs (cur.toList.take cs.length) := by
  obtain ⟨b, n, cur, T, hm, hB, hh, hs, hl, hr⟩ := HI.row hM hsn
  refine ⟨b, n, cur, T, hm, hB, hh, hs, hl, CR.of (by simp; omega) fun j hj => ?_⟩
  have e : (cur.toList.take cs.length).getD j undef = cur.getD j undef := by
    simp [List.getD, hj, Array.getD_eq_getD_getElem?]
  rw [e]; exact hr j hj
theorem view_CR [Inhabited TieT] (HI : Inv w0 G M w) {x : AV} {v : Value} (hx : R G x v) {cs : List AV} (hv : view M x = some cs) :
    ∃ (A : Option Addr) (n c sz : Nat) (vs : List Value), v = .slice A n c ∧ lenOf x = some n ∧ cs.length = n * sz ∧ (A = none → n = 0) ∧ n ≤ c ∧ c ≤ maxLen ∧ CR G cs vs ∧ (∀ a, A = some a → 0 < sz ∧ ∀ j u, vs[j]? = some u → w.cell? (a.add j) = some u) := by
  obtain ⟨A, n, c, sz, rfl, hl, hlen, hA, hnc, hcm, hc⟩ := view_cells HI hx hv
  cases A with
  | none =>
    have h0 := hA rfl
    subst h0
    have : cs = [] := List.eq_nil_of_length_eq_zero (by simpa using hlen)
    subst this
    exact ⟨none, 0, c, sz, [], rfl, hl, hlen, hA, hnc, hcm, .nil, fun a h => by cases h⟩
  | some ad =>
    obtain ⟨hsz, vs, hvs⟩ := hc ad rfl
    refine ⟨some ad, n, c, sz, (List.range cs.length).map vs, rfl, hl, hlen, hA, hnc, hcm, CR.of (by simp) fun j hj => ?_, fun a ha => ?_⟩
    · simpa [List.getD, hj] using (hvs j hj).2
    · cases ha
      refine ⟨hsz, fun j u hu => ?_⟩
      have hj : j < cs.length := by
        have := (List.getElem?_eq_some_iff.1 hu).1
        simpa using this
      simp [hj] at hu
      rw [← hu]; exact (hvs j hj).1
/-! ### Building -/
theorem foldl_fill : ∀ (vs : List Value) (k : Nat) (cells : Array Value), k + vs.length ≤ cells.size →
    ((vs.zipIdx k).foldl (fun cs (c, j) => cs.setIfInBounds j c) cells).toList = cells.toList.take k ++ vs ++ cells.toList.drop (k + vs.length)
  | [], k, cells, _ => by simp
  | v :: vs, k, cells, h => by
    simp only [List.length_cons] at h
    simp only [List.zipIdx_cons, List.foldl_cons]
    rw [foldl_fill vs (k + 1) _ (by simp; omega)]
    simpa [Array.toList_setIfInBounds] using list_seg_step cells.toList k v vs (by simp; omega)
theorem fill_step (v : Value) (off : Nat) (cells : Array Value) (h : off + v.cells.size ≤ cells.size) :
    (v.cells.zipIdx.foldl (fun cs (c, j) => cs.setIfInBounds (off + j) c) cells).toList = cells.toList.take off ++ v.cells.toList ++ cells.toList.drop (off + v.cells.size) := by
  rw [← Array.foldl_toList, Array.toList_zipIdx]
  have := foldl_fill v.cells.toList off cells (by simpa using h)
  simp only [Array.length_toList] at this
  rw [← this]
  congr 1
  generalize v.cells.toList = vs
  have : ∀ (vs : List Value) (k : Nat) (cs : Array Value), List.foldl (fun cs (x : Value × Nat) => cs.setIfInBounds (off + x.2) x.1) cs (vs.zipIdx k) = List.foldl (fun cs (x : Value × Nat) => cs.setIfInBounds x.2 x.1) cs (vs.zipIdx (off + k)) := by
    intro vs
    induction vs with
    | nil => intro k cs; rfl
    | cons v vs ih => intro k cs; simp only [List.zipIdx_cons, List.foldl_cons]; rw [ih]; rfl
  exact this vs 0 cells
theorem fill_CR (pl : Nat → Option (Nat × Nat)) : ∀ {parts : List (Nat × Value)} {aparts : List (Nat × Nat × AV)} {cells : Array Value} {cs cs' : List AV},
    aparts.length = parts.length → (∀ (j : Nat) (i : Nat) (v : Value) (o n : Nat) (x : AV), parts[j]? = some (i, v) → aparts[j]? = some (o, n, x) → pl i = some (o, n) ∧ R G x v) →
    CR G cs cells.toList → fillA cs aparts = some cs' → ∃ cells', Instr.fill pl cells parts = some cells' ∧ CR G cs' cells'.toList
  | [], [], cells, cs, cs', _, _, hc, h => by simp [fillA] at h; subst h; exact ⟨cells, rfl, hc⟩
  | (i, v) :: parts, (o, n, x) :: aparts, cells, cs, cs', hl, hp, hc, h => by
    obtain ⟨hpl, hx⟩ := hp 0 i v o n x rfl rfl
    simp only [fillA] at h
    split at h
    · rename_i xs hxs
      split at h
      · rename_i hfit
        have hv := cellsOf_CR hx hxs
        have hvl := hv.len
        simp only [Array.length_toList] at hvl
        have hcl := hc.len
        simp only [Array.length_toList] at hcl
        have hst := fill_step v o cells (by omega)
        have hc' : CR G (cs.take o ++ xs ++ cs.drop (o + n)) (v.cells.zipIdx.foldl (fun cs (c, j) => cs.setIfInBounds (o + j) c) cells).toList := by
          rw [hst, show o + v.cells.size = o + n by omega]
          exact ((hc.take o).append hv).append (hc.drop (o + n))
        obtain ⟨cells', hf, hr⟩ := fill_CR pl (by simpa using hl) (fun j i v o n x h1 h2 => hp (j + 1) i v o n x (by simpa using h1) (by simpa using h2)) hc' h
        refine ⟨cells', ?_, hr⟩
        simp only [Instr.fill, hpl]
        rw [if_neg (by simp; omega)]
        exact hf
      · cases h
    · cases h
theorem elInfo_inv {e : TypeId} {sz by' : Nat} {zs : List Value} (h : elInfo P e = some (sz, by', zs)) :
    ∃ (i : TypeInfo) (z : Value), P.info? e = some i ∧ i.zero = some z ∧ i.size = sz ∧ i.bytes = by' ∧ z.cells.toList = zs ∧ z.cells.size = sz ∧ 0 < sz ∧ zs.all (·.oneCell') = true := by
  unfold elInfo at h
  split at h
  · rename_i i hi
    split at h
    · rename_i z hz
      split at h
      · rename_i hh
        cases h
        exact ⟨i, z, hi, hz, rfl, rfl, rfl, hh.1, hh.2.1, hh.2.2⟩
      · cases h
    · cases h
  · cases h
theorem trParts_inv {pl : Nat → Option (Nat × Nat)} {env : Env} {a : Act} (HE : EnvR G env a) : ∀ {parts : List (Nat × Operand)} {ps : List (Nat × Nat × O)}, trParts pl parts = some ps →
    (ps.map fun (o, n, x) => (o, n, x.ev env)).length = (parts.map fun (i, x) => (i, a.eval x)).length ∧
    ∀ (j i : Nat) (v : Value) (o n : Nat) (x : AV), (parts.map fun (i, x) => (i, a.eval x))[j]? = some (i, v) → (ps.map fun (o, n, x) => (o, n, x.ev env))[j]? = some (o, n, x) → pl i = some (o, n) ∧ R G x v
  | [], ps, h => by simp [trParts] at h; subst h; exact ⟨rfl, fun j i v o n x h => by simp at h⟩
  | (i, x) :: parts, ps, h => by
    simp only [trParts] at h
    split at h
    · rename_i o n ox r h1 h2 h3
      cases h
      obtain ⟨hl, hr⟩ := trParts_inv HE h3
      refine ⟨by simpa using hl, fun j i' v o' n' x' e1 e2 => ?_⟩
      cases j with
      | zero =>
        simp at e1 e2
        obtain ⟨rfl, rfl⟩ := e1
        obtain ⟨rfl, rfl, rfl⟩ := e2
        exact ⟨h1, trO_R HE h2⟩
      | succ j => exact hr j i' v o' n' x' (by simpa using e1) (by simpa using e2)
    · cases h
theorem made_eq (z : Array Value) (hz : 0 < z.size) : ∀ (n : Nat), ((Array.range (n * z.size)).map (z[· % z.size]!)).toList = (List.replicate n z.toList).flatten := by
  intro n
  apply List.ext_getElem
  · simp [List.length_flatten]
  · intro i h1 h2
    have hi : i < n * z.size := by simpa using h1
    have hm : i % z.size < z.size := Nat.mod_lt _ hz
    have key : ∀ (m i : Nat) (h : i < (List.replicate m z.toList).flatten.length), (List.replicate m z.toList).flatten[i] = z[i % z.size]'(Nat.mod_lt _ hz) := by
      intro m
      induction m with
      | zero => intro i h; simp at h
      | succ m ih =>
        intro i h
        simp only [List.replicate_succ, List.flatten_cons]
        by_cases hlt : i < z.size
        · rw [List.getElem_append_left (by simpa using hlt)]
          simp [Nat.mod_eq_of_lt hlt]
        · have hge : z.size ≤ i := by omega
          rw [List.getElem_append_right (by simpa using hge), ih]
          congr 1
          simp [Nat.mod_eq_sub_mod hge]
    rw [key]
    simp [hm]
/-- A new block of the call's own. -/
theorem new_blk [Inhabited TieT] (HI : Inv w0 G M w) {T : TypeId} {cur : List Value} {cs : List AV} (h : CR G cs (cur.take cs.length)) (hl : cs.length ≤ cur.length) :
    Gle G (G.withBlk w.heap.size cur.length) ∧ Inv w0 (G.withBlk w.heap.size cur.length) (M ++ [some cs]) (w.alloc (.cells cur.toArray T)) ∧ (G.withBlk w.heap.size cur.length).m[M.length]? = some (some (w.heap.size, cur.length)) := by
  have := HI.withBlk (w' := w.alloc (.cells cur.toArray T)) ((Below.refl _ _).alloc (Nat.le_refl _) _) (b := w.heap.size) (cur := cur.toArray) (T := T) (cs := cs) (Nat.le_refl _) (heap_alloc_new w _) (by simpa using hl) (fun j hj => by
    have := h.get j hj
    have e : (cur.take cs.length).getD j undef = cur.toArray.getD j undef := by simp [List.getD, hj, Array.getD_eq_getD_getElem?]
    rw [e] at this; exact this)
  simpa using this
theorem new_row [Inhabited TieT] (HI : Inv w0 G M w) {T : TypeId} {cur : List Value} {cs : List AV} (h : CR G cs cur) (hI : allI cs = true) :
    ∃ G', Gle G G' ∧ Inv w0 G' M (w.alloc (.cells cur.toArray T)) ∧ (∀ j, j < cs.length → G'.g ((⟨w.heap.size, 0, none⟩ : Addr).add j) = some (cur.getD j undef)) ∧ ∀ (j : Nat) (hj : j < cs.length), RI G'.g cs[j] (cur.getD j undef) := by
  have hl := h.len
  obtain ⟨h1, h2, h3⟩ := HI.withRow (w' := w.alloc (.cells cur.toArray T)) ((Below.refl _ _).alloc (Nat.le_refl _) _) (b := w.heap.size) (k := cs.length) (vs := fun j => cur.getD j undef) (Nat.le_refl _) (fun j hj => by
    refine ⟨?_, (h.get j hj).2⟩
    rw [World.cell?_alloc_new]
    simp [List.getD, show j < cur.length by omega])
  exact ⟨_, h1, h2, h3, fun j hj => ((h.get j hj).1.toI (allI_get hI j hj)).mono h1.g⟩
end
end Go.Proofs.Ytlcdafidoddefaa.Av
namespace Go.Proofs.Ytlcdafidoddefaa.Av
open Go.RowKit
set_option linter.unusedSimpArgs false
section
variable {P : Program} {w0 w : World} {G : Gh} {M : MS}

theorem splice_CR {old cs : List AV} {vo vs : List Value} (h : CR G old vo) (h' : CR G cs vs) (off : Nat) : CR G (splice old off cs) (vo.take off ++ vs ++ vo.drop (off + vs.length)) := by
  unfold splice
  rw [h'.len]
  exact ((h.take off).append h').append (h.drop _)
/-- Cells of a block of the call's own are written. -/
theorem write_cells [Inhabited TieT] (HI : Inv w0 G M w) {id b n : Nat} (hm : G.m[id]? = some (some (b, n))) {old cs : List AV} (hM : M[id]? = some (some old)) {vs : List Value} (h : CR G cs vs) {o : Nat} (hfit : o + cs.length ≤ old.length) :
    ∃ w', (storeCells ⟨b, o, none⟩ vs).run P w = .ok () w' ∧ Inv w0 G (M.set id (some (splice old o cs))) w' := by
  obtain ⟨b', n', cur, T, hm', hB, hh, hs, hl, hr⟩ := row_CR HI hM (HI.s_none hm)
  rw [hm] at hm'; cases hm'
  have hvl := h.len
  have hst := run_storeCells_at P b o T vs 0 cur w hh (by omega) h.one
  simp only [Nat.add_zero] at hst
  refine ⟨_, hst, HI.write hm (by rfl) (by rfl) (by rfl) (by simp) (fun k hk => by exact setRow_other w b k _ hk) (setRow_heap w b cur _ T _ hh) ?_ ?_ fun j hj => ?_⟩
  · simp; omega
  · simp [splice]; omega
  · have hsp := splice_CR hr h o
    have e : (cur.toList.take old.length).take o ++ vs ++ (cur.toList.take old.length).drop (o + vs.length) = (cur.toList.take o ++ vs ++ cur.toList.drop (o + vs.length)).take (splice old o cs).length := by
      have hlen : (splice old o cs).length = old.length := by simp [splice]; omega
      rw [hlen]
      apply List.ext_getElem?
      intro i
      simp only [List.getElem?_append, List.getElem?_take, List.getElem?_drop, List.length_append, List.length_take, List.length_drop, Array.length_toList]
      repeat' split
      all_goals first | rfl | omega | (congr 1; omega) | skip
      all_goals first | (simp; omega) | (rw [List.getElem?_eq_none (by simp; omega)]) | skip
    rw [e] at hsp
    have h2 := hsp.get j hj
    have e2 : ((cur.toList.take o ++ vs ++ cur.toList.drop (o + vs.length)).take (splice old o cs).length).getD j undef = (cur.toList.take o ++ vs ++ cur.toList.drop (o + vs.length)).toArray.getD j undef := by
      simp only [List.getD, List.getElem?_take, hj, if_true, Array.getD_eq_getD_getElem?, List.getElem?_toArray]
    rw [e2] at h2
    exact h2
/-! ### Append -/
theorem zeroCells_len (z : Array Value) (n : Nat) : (Builtin.zeroCells z n).size = n * z.size := by simp [Builtin.zeroCells]
theorem inv_drew [Inhabited TieT] (HI : Inv w0 G M w) : Inv w0 G M w.drew := HI.grow (drew_below w)
theorem does_append [Inhabited TieT] {t e ty : TypeId} {i : TypeInfo} {z : Value} {sz bytes base m : Nat} {D : List Nat} {s x : AV} {u v : Value} {news : List AV} {out : Out}
    (ht : P.underlying t = some (.slice e)) (hi : P.info? e = some i) (hz : i.zero = some z) (hsz : i.size = sz) (hby : i.bytes = bytes) (hzs : z.cells.size = sz) (hpos : 0 < sz)
    (HI : Inv w0 G M w) (hx : R G x v) (hs : R G s u) (hv : view M x = some news) (hm : lenOf x = some m) (hsl : ∀ id off len sz cd, s = .ms id off len sz cd → m = 0 → ∃ cs, M[id]? = some (some cs))
    (h : appA base M D sz bytes s m news = some out) :
    ∃ v' w' G', (Builtin.append_ #[t, t] ty #[u, v]).run P w = .ok v' w' ∧ Gle G G' ∧ OutR w0 G' M out v' w' := by
  obtain ⟨A, n, c, sx, vs, rfl, hlx, hln, hA, hnc, hcm, hcr, hcell⟩ := view_CR HI hx hv
  rw [hm] at hlx; cases hlx
  subst hsz; subst hby
  unfold appA at h
  split at h
  · rename_i hm0
    subst hm0
    have hnn : news = [] := List.eq_nil_of_length_eq_zero (by simpa using hln)
    -- nothing is appended
    have hu : ∃ B l cc, u = .slice B l cc ∧ l ≤ cc := by
      cases s with
      | list sz cs nl cd =>
        rcases RI.list_cases hs.list_inv with ⟨_, _, _, rfl⟩ | ⟨_, a, k, cc, _, rfl, _, _, h2, _⟩
        · exact ⟨none, 0, 0, rfl, Nat.le_refl _⟩
        · exact ⟨some a, k, cc, rfl, h2⟩
      | ms id off len sz cd =>
        obtain ⟨cs, hM⟩ := hsl _ _ _ _ _ rfl rfl
        obtain ⟨b, bn, _, _, hmm, _⟩ := HI.row hM hs.ms_s
        obtain ⟨_, _, _, hcl⟩ := hs.ms_inv
        obtain ⟨cc, rfl, h1, _⟩ := hcl b bn hmm
        exact ⟨_, len, cc, rfl, h1⟩
      | _ => simp at h
    obtain ⟨B, l, cc, rfl, hle⟩ := hu
    have hout : out = .q s := by
      cases s <;> simp at h <;> first | exact h.symm | exact h.2.symm
    subst hout
    refine ⟨.slice B l cc, w, G, ?_, Gle.refl G, hs, HI⟩
    have hf : (Builtin.firstCells i.size 0 (.slice A 0 c)).run P w = .ok #[] w := by
      cases A with
      | none => simp [Builtin.firstCells]
      | some a => simp [Builtin.firstCells, loadCells, loadCellsFrom]
    cases B with
    | none => simp [Builtin.append_, run_underlying ht, sizeOf, typeInfo, hi, Builtin.lenOf, hle, hf]
    | some b => simp [Builtin.append_, run_underlying ht, sizeOf, typeInfo, hi, Builtin.lenOf, hle, hf, storeCells]
  · rename_i hm0
    obtain ⟨ad, rfl⟩ : ∃ a, A = some a := by
      cases A with
      | none => exact absurd (hA rfl) hm0
      | some a => exact ⟨a, rfl⟩
    obtain ⟨hsx, hcell⟩ := hcell ad rfl
    -- a new block, behind a draw
    have fresh : ∀ (olds : List AV) (vo : List Value) (cap k : Nat), CR G olds vo → k * i.size = olds.length → k + m ≤ cap →
        let cur := vo ++ vs ++ (Builtin.zeroCells z.cells (cap - (k + m))).toList
        news.length = m * i.size →
        ∃ G', Gle G G' ∧ Inv w0 G' (M ++ [some (olds ++ news)]) (w.drew.alloc (.cells cur.toArray e)) ∧ G'.m[M.length]? = some (some (w.heap.size, cap * i.size)) ∧ M.length < G'.m.length ∧ G'.s M.length = none := by
      intro olds vo cap k ho hk hcap cur hnl
      have hob := ho.append hcr
      have hlen : cur.length = cap * i.size := by
        have h1 := ho.len; have h2 := hcr.len
        simp only [cur, List.length_append, Array.length_toList, zeroCells_len, hzs, h1, h2, ← hk, hnl]
        rw [← Nat.add_mul, ← Nat.add_mul]; congr 1; omega
      have htk : cur.take (olds ++ news).length = vo ++ vs := by
        rw [← hob.len]; exact List.take_left
      obtain ⟨g1, g2, g3⟩ := new_blk (T := e) (inv_drew HI) (cur := cur) (cs := olds ++ news) (by rw [htk]; exact hob) (by rw [← hob.len]; simp [cur])
      rw [hlen] at g1 g2 g3
      exact ⟨_, g1, g2, g3, by simpa using (List.getElem?_eq_some_iff.1 g3).1, Gh.withBlk_s (by rw [HI.len]; exact Nat.le_refl _)⟩
    cases s with
    | list sz' cs nl cd =>
      simp only at h
      split at h
      · rename_i hh
        obtain ⟨hnil, hcd, hmm, hlim, hbytes⟩ := hh
        cases h
        simp only [LIM] at hlim
        rcases RI.list_cases hs.list_inv with ⟨rfl, rfl, rfl, rfl⟩ | ⟨rfl, a, k, cc, us, rfl, h0, g1, g2, g3, g4, g5, g6⟩
        · simp only [List.length_nil, Nat.zero_div, Nat.zero_add, List.nil_append] at hlim hbytes ⊢
          have hr := run_append_nil (P := P) w t ty e i z ht hi hz ad m c vs (by rw [hcr.len, hmm]) hcell (by omega) (by omega) (by omega)
          have hge := grownCap_ge w m 0 e
          obtain ⟨G', k1, k2, k3, k4, ks⟩ := fresh [] [] (grownCap w m 0 e) 0 .nil (by simp) (by omega) hmm.symm
          refine ⟨_, _, G', hr, k1, ?_, ?_⟩
          · refine .ms _ _ _ _ _ _ k4 ks ⟨_, _, rfl⟩ hpos fun b n hb => ?_
            rw [k3] at hb; cases hb
            exact ⟨_, rfl, hge, grownCap_le_maxLen w m 0 e (by simp [maxLen]; omega), by simp, fun h => by cases h⟩
          · have e1 : (vs.toArray ++ Builtin.zeroCells z.cells (grownCap w m 0 e - m)) = ([] ++ vs ++ (Builtin.zeroCells z.cells (grownCap w m 0 e - (0 + m))).toList).toArray := by
              apply Array.ext'; simp
            rw [e1]; simpa using k2
        · have hss : sz' = i.size := by simpa using hnil
          subst hss
          have hcc : cc = k := g4 (by simpa using hcd)
          subst hcc
          rw [g1, Nat.mul_div_cancel cc h0] at hlim hbytes ⊢
          have ho : CR G cs ((List.range cs.length).map us) := CR.of (by simp) fun j hj => by
            simp only [List.getD, List.getElem?_map, List.getElem?_range hj, Option.map_some, Option.getD_some]
            exact ⟨.imm _ _ (g6 j hj), (HI.imm _ _ (g5 j hj)).2⟩
          have hr := run_append_grow (P := P) w t ty e i z ht hi hz a cc cc ((List.range cs.length).map us) (by simp [g1]) (fun j v hj => by
              have hjl : j < cs.length := by simpa using (List.getElem?_eq_some_iff.1 hj).1
              simp [hjl] at hj
              rw [← hj]; exact (HI.imm _ _ (g5 j hjl)).1) ad m c vs (by rw [hcr.len, hmm]) hcell (by omega) (by omega) (growslice_fits (by omega) hbytes)
          have hge := grownCap_ge w (cc + m) cc e
          obtain ⟨G', k1, k2, k3, k4, ks⟩ := fresh cs _ (grownCap w (cc + m) cc e) cc ho g1.symm (by omega) hmm.symm
          refine ⟨_, _, G', hr, k1, ?_, ?_⟩
          · refine .ms _ _ _ _ _ _ k4 ks ⟨_, _, rfl⟩ hpos fun b n hb => ?_
            rw [k3] at hb; cases hb
            exact ⟨_, rfl, hge, grownCap_le_maxLen w (cc + m) cc e (by simp [maxLen]; omega), by simp, fun h => by cases h⟩
          · have e1 : (((List.range cs.length).map us).toArray ++ vs.toArray ++ Builtin.zeroCells z.cells (grownCap w (cc + m) cc e - (cc + m))) = ((List.range cs.length).map us ++ vs ++ (Builtin.zeroCells z.cells (grownCap w (cc + m) cc e - (cc + m))).toList).toArray := by
              apply Array.ext'; simp
            rw [e1]; exact k2
      · cases h
    | ms id off len sz' cd =>
      simp only at h
      split at h
      · rename_i old hM
        split at h
        · rename_i hh
          obtain ⟨rfl, hmm, hlim, hbytes, hfit⟩ := hh
          simp only [LIM] at hlim
          obtain ⟨b, bn, cur, T, hmb, hB, hhp, hcs, hol, hold⟩ := row_CR HI hM hs.ms_s
          obtain ⟨i0, i1, isz, icl⟩ := hs.ms_inv
          obtain ⟨cc, rfl, c1, c2, c3, c4⟩ := icl b bn hmb
          have hov : CR G ((old.drop off).take (len * i.size)) (((cur.toList.take old.length).drop off).take (len * i.size)) := (hold.drop off).take _
          have hovl : ((old.drop off).take (len * i.size)).length = len * i.size := by simp; omega
          have hocell : ∀ j u, (((cur.toList.take old.length).drop off).take (len * i.size))[j]? = some u → w.cell? ((⟨b, off, none⟩ : Addr).add j) = some u := by
            intro j u hj
            rw [addr_add0, cell_of_row' hhp]
            simp only [List.getElem?_take, List.getElem?_drop] at hj
            split at hj
            · split at hj
              · simpa using hj
              · cases hj
            · cases hj
          have grow : cc < len + m → ∃ v' w', (Builtin.append_ #[t, t] ty #[.slice (some ⟨b, off, none⟩) len cc, .slice (some ad) m c]).run P w = .ok v' w' ∧
              ∃ G', Gle G G' ∧ Inv w0 G' (M ++ [some ((old.drop off).take (len * i.size) ++ news)]) w' ∧ R G' (.ms M.length 0 (len + m) i.size false) v' := by
            intro hlt
            have hr := run_append_grow (P := P) w t ty e i z ht hi hz ⟨b, off, none⟩ len cc _ (by rw [hov.len, hovl]) hocell ad m c vs (by rw [hcr.len, hmm]) hcell hlt (by omega) (growslice_fits hlt hbytes)
            have hge := grownCap_ge w (len + m) cc e
            obtain ⟨G', k1, k2, k3, k4, ks⟩ := fresh _ _ (grownCap w (len + m) cc e) len hov hovl.symm (by omega) hmm.symm
            refine ⟨_, _, hr, G', k1, ?_, ?_⟩
            · have e1 : ((((cur.toList.take old.length).drop off).take (len * i.size)).toArray ++ vs.toArray ++ Builtin.zeroCells z.cells (grownCap w (len + m) cc e - (len + m))) = (((cur.toList.take old.length).drop off).take (len * i.size) ++ vs ++ (Builtin.zeroCells z.cells (grownCap w (len + m) cc e - (len + m))).toList).toArray := by
                apply Array.ext'; simp
              rw [e1]; exact k2
            · refine .ms _ _ _ _ _ _ k4 ks ⟨_, _, rfl⟩ hpos fun b n hb => ?_
              rw [k3] at hb; cases hb
              exact ⟨_, rfl, hge, grownCap_le_maxLen w (len + m) cc e (by simp [maxLen]; omega), by simp, fun h => by cases h⟩
          split at h
          · rename_i hcd
            cases h
            have := c4 hcd
            obtain ⟨v', w', hr, G', k1, k2, k3⟩ := grow (by omega)
            exact ⟨v', w', G', hr, k1, k3, k2⟩
          · split at h
            · rename_i hcd hoff
              cases h
              subst hoff
              simp only [List.drop_zero] at grow hov
              by_cases hroom : len + m ≤ cc
              · -- in place
                have hfit2 : len * i.size + vs.length ≤ cur.size := by
                  rw [hcr.len, ← hmm, ← Nat.add_mul]
                  have := Nat.mul_le_mul_right i.size hroom
                  omega
                have hT : w.heap[b]? = some (.cells cur T (0, 0)) := hhp
                have hf := run_firstCells_some (P := P) w i.size m ad m c vs (by rw [hcr.len, hmm]) hcell
                have hst := run_storeCells_at P b (len * i.size) T vs 0 cur w hT (by simpa using hfit2) hcr.one
                simp only [Nat.add_zero] at hst
                have hr : (Builtin.append_ #[t, t] ty #[.slice (some ⟨b, 0, none⟩) len cc, .slice (some ad) m c]).run P w =
                    .ok (.slice (some ⟨b, 0, none⟩) (len + m) cc) (w.setRow b (cur.toList.take (len * i.size) ++ vs ++ cur.toList.drop (len * i.size + vs.length)).toArray) := by
                  simp [Builtin.append_, run_underlying ht, sizeOf, typeInfo, hi, Builtin.lenOf, hroom, hf, addr_add0, hst]
                -- the block under its old place, then given a new one
                have hW : Inv w0 G (M.set id (some (old.take (len * i.size) ++ news))) (w.setRow b (cur.toList.take (len * i.size) ++ vs ++ cur.toList.drop (len * i.size + vs.length)).toArray) := by
                  refine HI.write hmb (by rfl) (by rfl) (by rfl) (by simp) (fun k hk => by exact setRow_other w b k _ hk) (setRow_heap w b cur _ T _ hT) ?_ ?_ fun j hj => ?_
                  · simp; omega
                  · simp only [List.length_append, List.length_take]
                    have := Nat.mul_le_mul_right i.size hroom
                    rw [Nat.add_mul] at this; omega
                  · have hq := (hov.append hcr).get j hj
                    have e2 : ((cur.toList.take old.length).take (len * i.size) ++ vs).getD j undef = (cur.toList.take (len * i.size) ++ vs ++ cur.toList.drop (len * i.size + vs.length)).toArray.getD j undef := by
                      have hjl : j < ((cur.toList.take (len * i.size)) ++ vs).length := by
                        have := hcr.len
                        simp only [List.length_append, List.length_take, Array.length_toList] at hj ⊢
                        omega
                      have e3 : (cur.toList.take old.length).take (len * i.size) = cur.toList.take (len * i.size) := by
                        rw [List.take_take]; congr 1; omega
                      rw [e3]
                      simp only [List.getD, Array.getD_eq_getD_getElem?, List.getElem?_toArray]
                      rw [List.getElem?_append_left hjl]
                    rw [e2] at hq; exact hq
                have hMid : id < M.length := (List.getElem?_eq_some_iff.1 hM).1
                have hGid : id < G.m.length := by rw [HI.len]; exact hMid
                -- its new place
                let G2 : Gh := { G with m := G.m.set id none ++ [some (b, bn)], s := fun j => if j < G.m.length then G.s j else none }
                have hle : Gle G G2 := ⟨fun _ _ h => h, by simp [G2], fun j x hj hx => by
                  simp only [G2] at hx
                  rw [List.getElem?_append_left (by simpa using hj)] at hx
                  exact (Gh.kill_get (G := G) hx).2, fun j hj => by simp [G2, hj], fun _ h => h, rfl, fun _ _ h => h⟩
                have G2s : ∀ {j : Nat} {sp : Sp}, G2.s j = some sp → j < M.length ∧ G.s j = some sp ∧ j ≠ id := by
                  intro j sp hj
                  simp only [G2] at hj
                  split at hj
                  · rename_i hlt
                    exact ⟨by rw [← HI.len]; exact hlt, hj, fun e => by subst e; have := hs.ms_s; rw [this] at hj; cases hj⟩
                  · cases hj
                have old2 : ∀ {j b' n' : Nat}, G2.m[j]? = some (some (b', n')) → (j ≠ id ∧ G.m[j]? = some (some (b', n')) ∧ j < M.length) ∨ (j = M.length ∧ b' = b ∧ n' = bn) := by
                  intro j b' n' hj
                  simp only [G2] at hj
                  rcases Nat.lt_or_ge j G.m.length with hlt | hge
                  · rw [List.getElem?_append_left (by simpa using hlt)] at hj
                    obtain ⟨q1, q2⟩ := Gh.kill_get (G := G) hj
                    exact .inl ⟨q1, q2, by rw [← HI.len]; exact hlt⟩
                  · rw [List.getElem?_append_right (by simpa using hge)] at hj
                    simp only [List.length_set] at hj
                    have : j - G.m.length = 0 := by
                      rcases Nat.eq_zero_or_pos (j - G.m.length) with h0 | h0
                      · exact h0
                      · rw [List.getElem?_eq_none (by simp; omega)] at hj; cases hj
                    rw [this] at hj
                    simp at hj
                    exact .inr ⟨by have := HI.len; omega, hj.1.symm, hj.2.symm⟩
                have hInv : Inv w0 G2 (M.set id none ++ [some (old.take (len * i.size) ++ news)]) (w.setRow b (cur.toList.take (len * i.size) ++ vs ++ cur.toList.drop (len * i.size + vs.length)).toArray) := by
                  refine ⟨hW.below, by simp [G2, HI.len], hW.imm, fun j b' n' hj => ?_, fun j b' n' hj a ha => ?_, fun p q b' n' n'' hp hq => ?_, fun j cs hj hsj => ?_, fun j sp hsp hj => ?_, fun j r y L pl hsp hj => ?_, fun i j sp sp' h1 h2 h3 h4 h5 => ?_, hW.dfr, fun q o hp => by
                    obtain ⟨a1, a2, a3, a4, a5⟩ := hW.prot q o hp
                    refine ⟨a1, a2, fun j n hm => ?_, fun j sp hsp hid => ?_, a5⟩
                    · rcases old2 hm with ⟨_, k2, _⟩ | ⟨_, rfl, rfl⟩
                      · exact a3 j n k2
                      · exact a3 id _ hmb
                    · obtain ⟨q1, q2, q3⟩ := G2s hsp
                      exact a4 j sp q2 (by simpa using q1)⟩
                  · rcases old2 hj with ⟨q1, q2, q3⟩ | ⟨rfl, rfl, rfl⟩
                    · obtain ⟨hB', cs', hM', cur', T', hh', hs', hl', hr'⟩ := hW.blk j b' n' q2
                      rw [List.getElem?_set_ne (Ne.symm q1)] at hM'
                      exact ⟨hB', cs', by rw [List.getElem?_append_left (by simpa using q3), List.getElem?_set_ne (Ne.symm q1)]; exact hM', cur', T', hh', hs', hl', fun x hx => ⟨(hr' x hx).1.mono hle, (hr' x hx).2⟩⟩
                    · obtain ⟨hB', cs', hM', cur', T', hh', hs', hl', hr'⟩ := hW.blk id b' n' hmb
                      simp [hMid] at hM'
                      subst hM'
                      exact ⟨hB', _, by rw [List.getElem?_append_right (by simp)]; simp, cur', T', hh', hs', hl', fun x hx => ⟨(hr' x hx).1.mono hle, (hr' x hx).2⟩⟩
                  · rcases old2 hj with ⟨q1, q2, q3⟩ | ⟨rfl, rfl, rfl⟩
                    · exact HI.sep j b' n' q2 a ha
                    · exact HI.sep id b' n' hmb a ha
                  · rcases old2 hp with ⟨p1, p2, p3⟩ | ⟨rfl, rfl, rfl⟩ <;> rcases old2 hq with ⟨q1, q2, q3⟩ | ⟨rfl, h5, h6⟩
                    · exact HI.inj p q b' n' n'' p2 q2
                    · subst h5; exact absurd (HI.inj _ _ _ _ _ p2 hmb) p1
                    · exact absurd (HI.inj _ _ _ _ _ q2 hmb) q1
                    · rfl
                  · rcases Nat.lt_or_ge j M.length with hlt | hge
                    · rw [List.getElem?_append_left (by simpa using hlt)] at hj
                      by_cases he : id = j
                      · subst he; simp [hMid] at hj
                      · rw [List.getElem?_set_ne he] at hj
                        obtain ⟨b', n', hb'⟩ := HI.live j cs hj (by simpa [G2, HI.len, hlt] using hsj)
                        exact ⟨b', n', by simp only [G2]; rw [List.getElem?_append_left (by simp [HI.len]; exact hlt), List.getElem?_set_ne he]; exact hb'⟩
                    · rw [List.getElem?_append_right (by simpa using hge)] at hj
                      have : j - M.length = 0 := by
                        rcases Nat.eq_zero_or_pos (j - M.length) with h0 | h0
                        · exact h0
                        · rw [List.getElem?_eq_none (by simp; omega)] at hj; cases hj
                      refine ⟨b, bn, ?_⟩
                      simp only [G2]
                      rw [List.getElem?_append_right (by simp [HI.len]; exact hge)]
                      simp [HI.len, this]
                  · obtain ⟨q1, q2, q3⟩ := G2s hsp
                    obtain ⟨hB', hm', cs', o, hM', ho, r⟩ := hW.spc j sp q2 (by simpa using q1)
                    rw [List.getElem?_set_ne (Ne.symm q3)] at hM'
                    exact ⟨hB', by simp only [G2]; rw [List.getElem?_append_left (by simp [HI.len]; exact q1), List.getElem?_set_ne (Ne.symm q3)]; exact hm', cs', o, by rw [List.getElem?_append_left (by simpa using q1), List.getElem?_set_ne (Ne.symm q3)]; exact hM', ho, r.mono hle⟩
                  · obtain ⟨q1, q2, q3⟩ := G2s hsp
                    exact HI.tie j r y L pl q2 q1
                  · obtain ⟨q1, q2, q3⟩ := G2s h1
                    obtain ⟨r1, r2, r3⟩ := G2s h2
                    exact HI.sinj i j sp sp' q2 r2 q1 r1 h5
                refine ⟨_, _, G2, hr, hle, ?_, hInv⟩
                refine .ms _ _ _ _ _ _ (by simp [G2, HI.len]) (by simp [G2, HI.len]) ⟨_, _, rfl⟩ hpos fun b' n' hb' => ?_
                rcases old2 hb' with ⟨_, _, q3⟩ | ⟨_, rfl, rfl⟩
                · omega
                · exact ⟨cc, rfl, hroom, c2, by simpa using c3, fun h => by cases h⟩
              · obtain ⟨v', w', hr, G', k1, k2, k3⟩ := grow (by omega)
                have hk := k2.kill id ((k1.s id hs.ms_inv.1).trans hs.ms_s)
                have hMid : id < M.length := (List.getElem?_eq_some_iff.1 hM).1
                refine ⟨v', w', G'.kill id, hr, k1.trans (Gle.kill _ _), k3.mono (Gle.kill _ _), ?_⟩
                rwa [List.set_append_left _ _ hMid] at hk
            · cases h
        · cases h
      · cases h
    | _ => simp at h
end
end Go.Proofs.Ytlcdafidoddefaa.Av
namespace Go.Proofs.Ytlcdafidoddefaa.Av
open Go.RowKit
set_option linter.unusedSimpArgs false
section
variable {P : Program} {w0 w : World} {G : Gh} {M : MS}

theorem does_frz [Inhabited TieT] {base : Nat} {M M' : MS} {x x' : AV} {v : Value} (HI : Inv w0 G M w) (hx : R G x v) (h : frz base M x = some (x', M')) : ∃ G', Gle G G' ∧ Inv w0 G' M' w ∧ R G' x' v ∧ isI x' = true := by
  have plain : isI x = true → x' = x → M' = M → ∃ G', Gle G G' ∧ Inv w0 G' M' w ∧ R G' x' v ∧ isI x' = true := by
    intro h1 h2 h3; subst h2; subst h3; exact ⟨G, Gle.refl G, HI, hx, h1⟩
  cases x with
  | ms id off len sz cd =>
    simp only [frz] at h
    split at h
    · rename_i cs hM
      split at h
      · rename_i hh
        cases h
        obtain ⟨b, n, cur, T, hm, hB, hhp, hs, hl, hr⟩ := HI.row hM hx.ms_s
        obtain ⟨i0, i1, isz, icl⟩ := hx.ms_inv
        obtain ⟨c, rfl, c1, c2, c3, c4⟩ := icl b n hm
        obtain ⟨G', k1, k2, vs, k3, k4⟩ := HI.shutRow hm hM hh.2.2
        have hlen : ((cs.drop off).take (len * sz)).length = len * sz := by simp; omega
        refine ⟨G', k1, k2, .imm _ _ (.list sz _ cd _ len c (fun j => vs (off + j)) isz hlen c1 c2 c4 (fun j hj => ?_) fun j hj => ?_), rfl⟩
        · rw [hlen] at hj
          rw [addr_add0]
          exact k3 (off + j) (by omega)
        · have hj' := hj
          rw [hlen] at hj'
          simpa using k4 (off + j) (by omega)
      · cases h
    · cases h
  | mptr id off => simp [frz] at h
  | any => simp [frz, isI] at h
  | yld id y cs => simp [frz, isI] at h
  | mp id => simp [frz, isI] at h
  | flat u => simp [frz, isI] at h; exact plain rfl h.1.symm h.2.symm
  | list sz cs nl cd => simp [frz, isI] at h; exact plain rfl h.1.symm h.2.symm
  | agg cs => simp only [frz] at h; split at h; · rename_i hi; cases h; exact plain hi rfl rfl
              · cases h
  | elem y k => simp only [frz] at h; split at h; · rename_i hi; cases h; exact plain hi rfl rfl
                · cases h
  | clo fn cs => simp only [frz] at h; split at h; · rename_i hi; cases h; exact plain hi rfl rfl
                 · cases h
  | tup cs => simp only [frz] at h; split at h; · rename_i hi; cases h; exact plain hi rfl rfl
              · cases h
theorem does_frzAll [Inhabited TieT] {base : Nat} : ∀ {cs cs' : List AV} {vs : Nat → Value} {M M' : MS} {G : Gh}, Inv w0 G M w → (∀ (j : Nat) (h : j < cs.length), R G cs[j] (vs j)) → frzAll base M cs = some (cs', M') →
    ∃ G', Gle G G' ∧ Inv w0 G' M' w ∧ cs'.length = cs.length ∧ (∀ (j : Nat) (h : j < cs'.length), R G' cs'[j] (vs j)) ∧ allI cs' = true
  | [], cs', vs, M, M', G, HI, _, h => by simp [frzAll] at h; obtain ⟨rfl, rfl⟩ := h; exact ⟨G, Gle.refl G, HI, rfl, fun j hj => by simp at hj, rfl⟩
  | c :: cs, cs', vs, M, M', G, HI, hr, h => by
    simp only [frzAll] at h
    split at h
    · rename_i c' M1 h1
      split at h
      · rename_i r' M2 h2
        cases h
        obtain ⟨G1, g1, g2, g3, g4⟩ := does_frz HI (hr 0 (by simp)) h1
        obtain ⟨G2, k1, k2, k3, k4, k5⟩ := does_frzAll (vs := fun j => vs (j + 1)) g2 (fun j hj => (hr (j + 1) (by simpa using hj)).mono g1) h2
        refine ⟨G2, g1.trans k1, k2, by simp [k3], fun j hj => ?_, by simp [allI, g4, k5]⟩
        cases j with
        | zero => exact g3.mono k1
        | succ j => exact k4 j (by simpa using hj)
      · cases h
    · cases h
theorem does_store [Inhabited TieT] {t : TypeId} {n base : Nat} {D : List Nat} {x y : AV} {u v : Value} {cs : List AV} {out : Out} (hn : sizeT P t = some n) (HI : Inv w0 G M w) (hx : R G x u) (hy : R G y v) (hc : cellsOf y = some cs) (hl : cs.length = n) (h : storeA base M D cs x = some out) :
    ∃ w' M' D' G', (Instr.storeAt t u v).run P w = .ok () w' ∧ out = .x (.flat undef) M' D' ∧ Gle G G' ∧ Inv w0 G' M' w' := by
  have hv := cellsOf_CR hy hc
  have go : ∀ {G : Gh} {M : MS} {cs : List AV} {id b bn off : Nat} {old : List AV}, Inv w0 G M w → CR G cs v.cells.toList → cs.length = n → u = .pointer (some ⟨b, off, none⟩) → G.m[id]? = some (some (b, bn)) → M[id]? = some (some old) → off + cs.length ≤ old.length →
      ∃ w', (Instr.storeAt t u v).run P w = .ok () w' ∧ Inv w0 G (M.set id (some (splice old off cs))) w' := by
    intro G M cs id b bn off old HI hv hl hu hm hM hfit
    have hvl := hv.len
    simp only [Array.length_toList] at hvl
    obtain ⟨w', h1, h2⟩ := write_cells (P := P) HI hm hM hv hfit
    refine ⟨w', ?_, h2⟩
    subst hu
    simp [Instr.storeAt, Instr.sureAddr, storeVar, sizeT_run hn, hvl, hl, h1]
  unfold storeA at h
  split at h
  · rename_i id off len sz cd k
    split at h
    · rename_i cs' M' hfz
      split at h
      · rename_i old hM
        split at h
        · rename_i hh
          cases h
          obtain ⟨G1, g1, g2, g3, g4, g5⟩ := does_frzAll (vs := fun j => v.cells.toList.getD j undef) HI (fun j hj => (hv.get j hj).1) hfz
          have hv' : CR G1 cs' v.cells.toList := CR.of (by rw [g3]; exact hv.len) fun j hj => ⟨g4 j hj, (hv.get j (by omega)).2⟩
          obtain ⟨a, n', c', hx', he⟩ := (hx.mono g1).elem_inv
          obtain ⟨b, bn, cur, T, hm, _⟩ := g2.row hM hx'.ms_s
          obtain ⟨_, _, _, hcl⟩ := hx'.ms_inv
          obtain ⟨c, he2, _⟩ := hcl b bn hm
          cases he2
          obtain ⟨w', h1, h2⟩ := go g2 hv' (by rw [g3]; exact hl) (by rw [he, addr_add0]) hm hM (by omega)
          exact ⟨w', _, _, G1, h1, rfl, g1, h2⟩
        · cases h
      · cases h
    · cases h
  · rename_i id off
    split at h
    · rename_i old hM
      split at h
      · rename_i hh
        cases h
        obtain ⟨b, bn, cur, T, hm, _⟩ := HI.row hM hx.mptr_s
        obtain ⟨_, _, hp⟩ := hx.mptr_inv
        obtain ⟨w', h1, h2⟩ := go HI hv hl (hp b bn hm) hm hM hh
        exact ⟨w', _, _, G, h1, rfl, Gle.refl G, h2⟩
      · cases h
    · cases h
  · cases h

theorem does_storeK [Inhabited TieT] {t : TypeId} {n base : Nat} {D : List Nat} {x y : AV} {u v : Value} {cs : List AV} {out : Out} (hn : sizeT P t = some n) (HI : Inv w0 G M w) (hx : R G x u) (hy : R G y v) (hc : cellsOf y = some cs) (hl : cs.length = n) (h : storeKA base M D cs x = some out) :
    ∃ w' M' D', (Instr.storeAt t u v).run P w = .ok () w' ∧ out = .x (.flat undef) M' D' ∧ Inv w0 G M' w' := by
  have hv := cellsOf_CR hy hc
  have go : ∀ {id b bn off : Nat} {old : List AV}, u = .pointer (some ⟨b, off, none⟩) → G.m[id]? = some (some (b, bn)) → M[id]? = some (some old) → off + cs.length ≤ old.length →
      ∃ w', (Instr.storeAt t u v).run P w = .ok () w' ∧ Inv w0 G (M.set id (some (splice old off cs))) w' := by
    intro id b bn off old hu hm hM hfit
    have hvl := hv.len
    simp only [Array.length_toList] at hvl
    obtain ⟨w', h1, h2⟩ := write_cells (P := P) HI hm hM hv hfit
    refine ⟨w', ?_, h2⟩
    subst hu
    simp [Instr.storeAt, Instr.sureAddr, storeVar, sizeT_run hn, hvl, hl, h1]
  unfold storeKA at h
  split at h
  · rename_i id off len sz cd k
    split at h
    · rename_i old hM
      split at h
      · rename_i hh
        cases h
        obtain ⟨a, n', c', hx', he⟩ := hx.elem_inv
        obtain ⟨b, bn, cur, T, hm, _⟩ := HI.row hM hx'.ms_s
        obtain ⟨_, _, _, hcl⟩ := hx'.ms_inv
        obtain ⟨c, he2, _⟩ := hcl b bn hm
        cases he2
        obtain ⟨w', h1, h2⟩ := go (by rw [he, addr_add0]) hm hM (by omega)
        exact ⟨w', _, _, h1, rfl, h2⟩
      · cases h
    · cases h
  · rename_i id off
    split at h
    · rename_i old hM
      split at h
      · rename_i hh
        cases h
        obtain ⟨b, bn, cur, T, hm, _⟩ := HI.row hM hx.mptr_s
        obtain ⟨_, _, hp⟩ := hx.mptr_inv
        obtain ⟨w', h1, h2⟩ := go (hp b bn hm) hm hM hh
        exact ⟨w', _, _, h1, rfl, h2⟩
      · cases h
    · cases h
  · cases h

theorem does_frzA [Inhabited TieT] {base : Nat} {M M' : MS} {x x' : AV} {v : Value} (HI : Inv w0 G M w) (hx : R G x v) (h : frzA base M x = some (x', M')) : ∃ G', Gle G G' ∧ Inv w0 G' M' w ∧ R G' x' v := by
  cases x with
  | agg cs =>
    simp only [frzA, Option.map_eq_some_iff] at h
    obtain ⟨⟨cs', M1⟩, h1, h2⟩ := h
    cases h2
    obtain ⟨vs, rfl, hs, hv, h7⟩ := hx.agg_inv
    obtain ⟨G', k1, k2, k3, k4, _⟩ := does_frzAll (vs := fun j => vs.getD j undef) HI hv h1
    exact ⟨G', k1, k2, .agg _ _ (by rw [hs, k3]) k4 (by rw [k3]; exact h7)⟩
  | _ => obtain ⟨G', k1, k2, k3, _⟩ := does_frz (base := base) HI hx (by simpa only [frzA] using h); exact ⟨G', k1, k2, k3⟩
theorem does_frzTup [Inhabited TieT] {base : Nat} : ∀ {cs cs' : List AV} {vs : Nat → Value} {M M' : MS} {G : Gh}, Inv w0 G M w → (∀ (j : Nat) (h : j < cs.length), R G cs[j] (vs j)) → frzTup base M cs = some (cs', M') →
    ∃ G', Gle G G' ∧ Inv w0 G' M' w ∧ cs'.length = cs.length ∧ (∀ (j : Nat) (h : j < cs'.length), R G' cs'[j] (vs j))
  | [], cs', vs, M, M', G, HI, _, h => by simp [frzTup] at h; obtain ⟨rfl, rfl⟩ := h; exact ⟨G, Gle.refl G, HI, rfl, fun j hj => by simp at hj⟩
  | c :: cs, cs', vs, M, M', G, HI, hr, h => by
    simp only [frzTup] at h
    split at h
    · rename_i c' M1 h1
      split at h
      · rename_i r' M2 h2
        cases h
        obtain ⟨G1, g1, g2, g3⟩ := does_frzA HI (hr 0 (by simp)) h1
        obtain ⟨G2, k1, k2, k3, k4⟩ := does_frzTup (vs := fun j => vs (j + 1)) g2 (fun j hj => (hr (j + 1) (by simpa using hj)).mono g1) h2
        refine ⟨G2, g1.trans k1, k2, by simp [k3], fun j hj => ?_⟩
        cases j with
        | zero => exact g3.mono k1
        | succ j => exact k4 j (by simpa using hj)
      · cases h
    · cases h
theorem does_frzV [Inhabited TieT] {base : Nat} {M M' : MS} {x x' : AV} {v : Value} (HI : Inv w0 G M w) (hx : R G x v) (h : frzV base M x = some (x', M')) : ∃ G', Gle G G' ∧ Inv w0 G' M' w ∧ R G' x' v := by
  cases x with
  | tup cs =>
    simp only [frzV, Option.map_eq_some_iff] at h
    obtain ⟨⟨cs', M1⟩, h1, h2⟩ := h
    cases h2
    obtain ⟨vs, rfl, hs, hv⟩ := hx.tup_inv
    obtain ⟨G', k1, k2, k3, k4⟩ := does_frzTup (vs := fun j => vs.getD j undef) HI hv h1
    exact ⟨G', k1, k2, .tup _ _ (by rw [hs, k3]) k4⟩
  | _ => exact does_frzA (base := base) HI hx (by simpa only [frzV] using h)
theorem does_copy [Inhabited TieT] {dT sT ty e : TypeId} {sz id off len n : Nat} {cd : Bool} {x : AV} {u v : Value} {cs old : List AV} (ht : P.underlying dT = some (.slice e)) (hsz : sizeT P e = some sz)
    (HI : Inv w0 G M w) (hd : R G (.ms id off len sz cd) u) (hx : R G x v) (hv : view M x = some cs) (hn : lenOf x = some n) (hM : M[id]? = some (some old)) (hfit : off + len * sz ≤ old.length) (hk : Nat.min n len * sz ≤ cs.length) :
    ∃ w', (Builtin.copy_ #[dT, sT] ty #[u, v]).run P w = .ok (.int .i64 (Nat.min n len : Nat)) w' ∧ Inv w0 G (M.set id (some (splice old off (cs.take (Nat.min n len * sz))))) w' := by
  obtain ⟨A, n', c, sx, vs, rfl, hlx, hln, hA, hnc, hcm, hcr, hcell⟩ := view_CR HI hx hv
  rw [hn] at hlx; cases hlx
  obtain ⟨b, bn, _, _, hmb, _⟩ := HI.row hM hd.ms_s
  obtain ⟨i0, i1, isz, icl⟩ := hd.ms_inv
  obtain ⟨cc, rfl, c1, c2, c3, c4⟩ := icl b bn hmb
  have hcl := hcr.len
  have hminle : Nat.min n len ≤ len := Nat.min_le_right _ _
  have hm2 := Nat.mul_le_mul_right sz hminle
  obtain ⟨w', h1, h2⟩ := write_cells (P := P) HI hmb hM (hcr.take (Nat.min n len * sz)) (o := off) (by simp; omega)
  refine ⟨w', ?_, h2⟩
  have hf : (Builtin.firstCells sz (Nat.min n len) (.slice A n c)).run P w = .ok (vs.take (Nat.min n len * sz)).toArray w := by
    cases A with
    | none =>
      have := hA rfl; subst this
      have : Nat.min 0 len = 0 := Nat.zero_min _
      simp [this, Builtin.firstCells]
    | some ad =>
      refine run_firstCells_some (P := P) w sz _ ad n c _ (by simp; omega) fun j q hj => ?_
      simp only [List.getElem?_take] at hj
      split at hj
      · exact (hcell ad rfl).2 j q hj
      · cases hj
  simp only [Builtin.copy_, List.getElem?_toArray]
  simp [run_underlying ht, Builtin.lenOf, sizeT_run hsz, hf, h1, goInt]
end
end Go.Proofs.Ytlcdafidoddefaa.Av
namespace Go.Proofs.Ytlcdafidoddefaa.Av
open Go.RowKit
set_option linter.unusedSimpArgs false
section
variable {P : Program} {w0 w : World} {G : Gh} {M : MS} {env : Env} {a : Act}
theorem trOo_R (HE : EnvR G env a) {x : Option Operand} {o : Option O} (h : trOo x = some o) :
    (∀ y, o.map (·.ev env) = some y → ∃ u, x.map a.eval = some u ∧ R G y u) ∧ (o.map (·.ev env) = none → x.map a.eval = none) := by
  cases x with
  | none => simp [trOo] at h; subst h; simp
  | some x =>
    simp only [trOo, Option.map_eq_some_iff] at h
    obtain ⟨o', h1, rfl⟩ := h
    refine ⟨fun y hy => ?_, fun hn => by simp at hn⟩
    simp at hy; subst hy
    exact ⟨_, rfl, trO_R HE h1⟩
theorem trOs_arr (HE : EnvR G env a) {xs : Array Operand} {os : List O} (h : trOs xs.toList = some os) :
    (xs.map a.eval).size = (os.map (·.ev env)).length ∧ ∀ (j : Nat) (h : j < (os.map (·.ev env)).length), R G ((os.map (·.ev env))[j]) ((xs.map a.eval).getD j undef) := by
  obtain ⟨h1, h2⟩ := trOs_R HE h
  refine ⟨by simpa using h1.symm, fun j hj => ?_⟩
  have := h2 j hj
  have e : (xs.map a.eval).getD j undef = (xs.toList.map a.eval).getD j undef := by simp [Array.getD_eq_getD_getElem?, List.getD]
  rw [e]; exact this
theorem placesF_run : ∀ {fs : List Field} {pl : List (Nat × Nat)}, placesF P fs = some pl → ∀ w : World, (fs.mapM (fun f => (do pure (f.offset, ← sizeOf f.type) : Sem (Nat × Nat)))).run P w = .ok pl w
  | [], pl, h, w => by simp [placesF] at h; subst h; rfl
  | f :: fs, pl, h, w => by
    simp only [placesF] at h
    split at h
    · rename_i n r h1 h2
      cases h
      have ih := placesF_run h2 w
      rw [List.mapM_cons]
      simp only [Sem.run_bind, sizeT_run h1, Result.andThen_ok, Sem.run_pure, ih]
    · cases h
theorem does_build {t : TypeId} {parts : Array (Nat × Operand)} {i : I} {call : Call} {base : Nat} {D : List Nat} {out : Out} (HE : EnvR G env a) (ht : trI P (.build t parts) = some i) (h : evI call base env M D i = some out) :
    ∃ v z, (Instr.build t (parts.map fun (i, x) => (i, a.eval x))).run P w = .ok v w ∧ out = .q z ∧ R G z v := by
  have fin : ∀ (pl : Nat → Option (Nat × Nat)) (ps : List (Nat × Nat × O)) (zs : List Value) (z : Value), zs.all (·.oneCell') = true → z.cells.toList = zs → trParts pl parts.toList = some ps → i = .build (zs.map avC1) ps →
      ∃ cells z', Instr.fill pl z.cells (parts.map fun (i, x) => (i, a.eval x)).toList = some cells ∧ out = .q z' ∧ R G z' (.agg cells) := by
    intro pl ps zs z h1 hz htp hi
    subst hi
    simp only [evI, Option.map_eq_some_iff] at h
    obtain ⟨cs, hcs, rfl⟩ := h
    obtain ⟨hl, hp⟩ := trParts_inv HE htp
    obtain ⟨cells, hf, hc⟩ := fill_CR (G := G) pl (parts := parts.toList.map fun (i, x) => (i, a.eval x)) hl hp (cells := z.cells) (cs := zs.map avC1) (by rw [hz]; exact CR.zs h1) hcs
    refine ⟨cells, _, by simpa using hf, rfl, ?_⟩
    have hlen := hc.len
    refine .agg _ _ (by simpa using hlen) (fun j hj => ?_) fun j hj => ?_
    · have := (hc.arr j hj).1; simpa using this
    · have := (hc.arr j hj).2; simpa using this
  simp only [trI] at ht
  split at ht
  · rename_i fs n b zs hu hel
    obtain ⟨inf, z, h1, h2, h3, h4, h5, h6, h7, h8⟩ := elInfo_inv hel
    split at ht
    · rename_i pl hpl
      rw [Option.map_eq_some_iff] at ht
      obtain ⟨ps, hps, rfl⟩ := ht
      obtain ⟨cells, z', f1, f2, f3⟩ := fin (fun i => pl[i]?) ps zs z h8 h5 hps rfl
      refine ⟨.agg cells, z', ?_, f2, f3⟩
      have hpr := placesF_run (P := P) hpl w
      have hpa : (fs.mapM (fun f => (do pure (f.offset, ← sizeOf f.type) : Sem (Nat × Nat)))).run P w = .ok pl.toArray w := by
        rw [Array.mapM_eq_mapM_toList]
        simp only [Sem.run_map, hpr, Result.andThen_ok]
      simp only [Instr.build, Sem.run_bind, zeroValue, typeInfo, run_program, Result.andThen_ok, h1, h2, Sem.run_pure, run_underlying hu, hpa]
      simp only [List.getElem?_toArray, f1]
      rfl
    · cases ht
  · rename_i n e n' b zs hu hel
    obtain ⟨inf, z, h1, h2, h3, h4, h5, h6, h7, h8⟩ := elInfo_inv hel
    split at ht
    · rename_i sz hsz
      rw [Option.map_eq_some_iff] at ht
      obtain ⟨ps, hps, rfl⟩ := ht
      obtain ⟨cells, z', f1, f2, f3⟩ := fin (fun i => some (i * sz, sz)) ps zs z h8 h5 hps rfl
      refine ⟨.agg cells, z', ?_, f2, f3⟩
      simp only [Instr.build, Sem.run_bind, zeroValue, typeInfo, run_program, Result.andThen_ok, h1, h2, Sem.run_pure, run_underlying hu, sizeT_run hsz, f1]
    · cases ht
  · cases ht
theorem does_bslice [Inhabited TieT] {t : TypeId} {len : Nat} {parts : Array (Nat × Operand)} {i : I} {call : Call} {base : Nat} {D : List Nat} {out : Out} (HE : EnvR G env a) (HI : Inv w0 G M w) (ht : trI P (.buildSlice t len parts) = some i) (h : evI call base env M D i = some out) :
    ∃ v w' G', (Instr.buildSlice t len (parts.map fun (i, x) => (i, a.eval x))).run P w = .ok v w' ∧ Gle G G' ∧ OutR w0 G' M out v w' := by
  simp only [trI] at ht
  split at ht
  · rename_i e hu
    split at ht
    · rename_i n b zs hel
      obtain ⟨inf, z, h1, h2, h3, h4, h5, h6, h7, h8⟩ := elInfo_inv hel
      split at ht
      · rename_i hlim
        rw [Option.map_eq_some_iff] at ht
        obtain ⟨ps, hps, rfl⟩ := ht
        obtain ⟨hl, hp⟩ := trParts_inv HE hps
        simp only [evI] at h
        split at h
        · rename_i cs hcs
          have hzc : CR G ((List.replicate len (zs.map avC1)).flatten) ((Array.range (len * n)).map (z.cells[· % z.cells.size]!)).toList := by
            have := made_eq z.cells (by omega) len
            rw [h6] at this
            rw [h6, this, h5]
            exact (CR.zs h8).rep len
          obtain ⟨cells, hf, hc⟩ := fill_CR (G := G) (fun i => some (i * n, n)) (parts := parts.toList.map fun (i, x) => (i, a.eval x)) hl hp hzc hcs
          have hclen : cs.length = len * n := by
            have e1 := hc.len
            have e2 := hzc.len
            have e3 : ∀ {aparts : List (Nat × Nat × AV)} {cs cs' : List AV}, fillA cs aparts = some cs' → cs'.length = cs.length := by
              intro aparts
              induction aparts with
              | nil => intro cs cs' hh; simp [fillA] at hh; rw [hh]
              | cons p r ih =>
                intro cs cs' hh
                obtain ⟨o, k, x⟩ := p
                simp only [fillA] at hh
                split at hh
                · split at hh
                  · rename_i hfit
                    rw [ih hh]; simp; omega
                  · cases hh
                · cases hh
            rw [e3 hcs]
            simp only [Array.length_toList, Array.size_map, Array.size_range] at e2
            exact e2.symm
          have hrun : (Instr.buildSlice t len (parts.map fun (i, x) => (i, a.eval x))).run P w = .ok (.slice (some ⟨w.heap.size, 0, none⟩) len len) (w.alloc (.cells cells e)) := by
            by_cases h0 : len * n = 0
            · have hl0 : len = 0 := by rcases Nat.mul_eq_zero.1 h0 with h | h; exact h; omega
              subst hl0
              simp only [Nat.zero_mul] at hf
              have hf' : Instr.fill (fun i => some (i * n, n)) #[] (parts.map fun (i, x) => (i, a.eval x)).toList = some cells := by
                simpa [Array.range_zero'] using hf
              simp at hf'
              simp [Instr.buildSlice, run_underlying hu, sizeOf, typeInfo, h1, h3, Array.range_zero', hf', newRow]
            · have hl1 : ¬ (2 ^ 24 < len * n) := by omega
              have hf' : Instr.fill (fun i => some (i * n, n)) ((Array.range (len * n)).map (z.cells[· % z.cells.size]!)) (parts.map fun (i, x) => (i, a.eval x)).toList = some cells := by
                simpa using hf
              simp only [Instr.buildSlice, Sem.run_bind, run_underlying hu, Result.andThen_ok, sizeOf, typeInfo, zeroValue, run_program, h1, h2, Sem.run_pure, h3, Sem.run_ite, gt_iff_lt, hl1, h0, if_false]
              simp only [hf', newRow, Sem.run_bind, run_newObj, Result.andThen_ok, Sem.run_pure]
              rfl
          have mk : ∀ {G' : Gh} {M' : MS} {cs' : List AV}, Inv w0 G' M' w → CR G' cs' cells.toList → allI cs' = true → cs'.length = len * n →
              ∃ G2, Gle G' G2 ∧ Inv w0 G2 M' (w.alloc (.cells cells e)) ∧ R G2 (.list n cs' false true) (.slice (some ⟨w.heap.size, 0, none⟩) len len) := by
            intro G' M' cs' HI' hc' hI hl'
            obtain ⟨G2, k1, k2, k3, k4⟩ := new_row (T := e) HI' hc' hI
            refine ⟨G2, k1, by simpa using k2, .imm _ _ (.list n cs' true _ len len _ h7 hl' (Nat.le_refl _) ?_ (fun _ => rfl) k3 k4)⟩
            have : len ≤ len * n := Nat.le_mul_of_pos_right _ h7
            simp only [maxLen]; omega
          split at h
          · rename_i hI
            cases h
            obtain ⟨G2, k1, k2, k3⟩ := mk HI hc hI hclen
            exact ⟨_, _, G2, hrun, k1, k3, k2⟩
          · split at h
            · rename_i cs' M' hfz
              cases h
              obtain ⟨G1, g1, g2, g3, g4, g5⟩ := does_frzAll (vs := fun j => cells.toList.getD j undef) HI (fun j hj => (hc.get j hj).1) hfz
              have hc' : CR G1 cs' cells.toList := CR.of (by rw [g3]; exact hc.len) fun j hj => ⟨g4 j hj, (hc.get j (by omega)).2⟩
              obtain ⟨G2, k1, k2, k3⟩ := mk g2 hc' g5 (by rw [g3]; exact hclen)
              exact ⟨_, _, G2, hrun, g1.trans k1, k3, k2⟩
            · cases h
        · cases h
      · cases ht
    · cases ht
  · cases ht
end
end Go.Proofs.Ytlcdafidoddefaa.Av
namespace Go.Proofs.Ytlcdafidoddefaa.Av
open Go.RowKit
set_option linter.unusedSimpArgs false
set_option linter.unusedVariables false
theorem cells_of_cell0 {w : World} {a : Addr} {v : Value} (h : w.cell? a = some v) : ∃ o : Obj, w.heap[a.block]? = some o ∧ ∃ c T f, o = .cells c T f := by
  unfold World.cell? at h
  cases ho : w.heap[a.block]? with
  | none => simp [ho] at h
  | some o => cases o <;> simp [ho] at h <;> exact ⟨_, rfl, _, _, _, rfl⟩
section
variable {P : Program} {w : World} {G : Gh}
def ERel (G : Gh) (c : AV) (e : MapEntry) : Prop := ∃ a b, c = .tup [a, b] ∧ R G a e.key ∧ R G b e.val
def FRel (G : Gh) : Option (Nat × AV) → Option (Nat × Value) → Prop
  | none, none => True
  | some (i, b), some (j, v) => i = j ∧ R G b v
  | _, _ => False
inductive ERels (G : Gh) : List AV → List MapEntry → Prop
  | nil : ERels G [] []
  | cons {c : AV} {e : MapEntry} {cs : List AV} {es : List MapEntry} (h : ERel G c e) (t : ERels G cs es) : ERels G (c :: cs) (e :: es)
theorem keyEq_flat {mk : MKey} {x y : AV} {q : Bool} (h : keyEqA mk x y = some q) :
    (∃ k a b, mk = .int k ∧ x = .flat (.int k a) ∧ y = .flat (.int k b) ∧ q = (a == b)) ∨ (∃ a b, mk = .str ∧ x = .flat (.string a) ∧ y = .flat (.string b) ∧ q = (a == b)) ∨
    (∃ a b, mk = .bool ∧ x = .flat (.bool a) ∧ y = .flat (.bool b) ∧ q = (a == b)) ∨ (∃ (n : Nat) (k : IntKind) (xs ys : List Int), mk = .arr n k ∧ x = .agg (xs.map fun z => .flat (.int k z)) ∧ y = .agg (ys.map fun z => .flat (.int k z)) ∧ xs.length = n ∧ ys.length = n ∧ q = (xs == ys)) := by
  unfold keyEqA at h
  split at h
  · rename_i k i a j b
    split at h
    · rename_i hk
      obtain ⟨rfl, rfl⟩ := hk
      cases h
      exact .inl ⟨_, a, b, rfl, rfl, rfl, rfl⟩
    · cases h
  · cases h; exact .inr (.inl ⟨_, _, rfl, rfl, rfl, rfl⟩)
  · cases h; exact .inr (.inr (.inl ⟨_, _, rfl, rfl, rfl, rfl⟩))
  · split at h
    · rename_i a b h1 h2
      split at h
      · rename_i hl
        cases h
        exact .inr (.inr (.inr ⟨_, _, a, b, rfl, by rw [asInts_inv h1], by rw [asInts_inv h2], hl.1, hl.2, rfl⟩))
      · cases h
    · cases h
  · cases h
theorem find_now {mk : MKey} {d : TypeDesc} {k : AV} {kv : Value} (hk : R G k kv) (hd : (∃ i, mk = .int i ∧ d = .int i) ∨ (mk = .str ∧ d = .string) ∨ (mk = .bool ∧ d = .bool)) : ∀ {cs : List AV} {es : List MapEntry} {i : Nat} {r : Option (Nat × AV)}, ERels G cs es → findA mk k cs i = some r →
    ∃ r', Instr.findNow d kv es i = some r' ∧ FRel G r r'
  | _, _, i, r, .nil, h => by
    simp only [findA, Option.some.injEq] at h; subst h
    exact ⟨none, rfl, trivial⟩
  | _, _, i, r, .cons (e := e) (es := es) ⟨a, b, rfl, ha, hb⟩ ht, h => by
    simp only [findA] at h
    have hs : ∀ q, keyEqA mk k a = some q → Instr.sameNow d kv e.key = some q := by
      intro q hq
      rcases keyEq_flat hq with ⟨j, x, y, rfl, rfl, rfl, rfl⟩ | ⟨x, y, rfl, rfl, rfl, rfl⟩ | ⟨x, y, rfl, rfl, rfl, rfl⟩ | ⟨n, j, xs, ys, rfl, _⟩
      · have e1 := hk.flat_inv; have e2 := ha.flat_inv
        rcases hd with ⟨j', hj, rfl⟩ | ⟨hj, _⟩ | ⟨hj, _⟩
        · cases hj; simp [Instr.sameNow, e1, e2]
        · cases hj
        · cases hj
      · have e1 := hk.flat_inv; have e2 := ha.flat_inv
        rcases hd with ⟨j', hj, rfl⟩ | ⟨hj, rfl⟩ | ⟨hj, _⟩
        · cases hj
        · simp [Instr.sameNow, e1, e2]
        · cases hj
      · have e1 := hk.flat_inv; have e2 := ha.flat_inv
        rcases hd with ⟨j', hj, rfl⟩ | ⟨hj, rfl⟩ | ⟨hj, rfl⟩
        · cases hj
        · cases hj
        · simp [Instr.sameNow, e1, e2]
      · rcases hd with ⟨j', hj, rfl⟩ | ⟨hj, rfl⟩ | ⟨hj, rfl⟩ <;> cases hj
    split at h
    · rename_i hq
      simp only [Option.some.injEq] at h; subst h
      exact ⟨some (i, e.val), by simp [Instr.findNow, hs _ hq], rfl, hb⟩
    · rename_i hq
      obtain ⟨r', h1, h2⟩ := find_now hk hd ht h
      exact ⟨r', by simp [Instr.findNow, hs _ hq, h1], h2⟩
    · cases h
theorem run_equal_arr {t : TypeId} {n : Nat} {k : IntKind} (hk : eqKind P t = .arr n k) {la lb : List Int} (ha : la.length = n) (hb : lb.length = n) : (Op.equal t (.agg (la.map fun n => Value.int k n).toArray) (.agg (lb.map fun n => Value.int k n).toArray)).run P w = .ok (la == lb) w := by
  obtain ⟨e, ht, he, hs, hgt⟩ := eqKind_arr hk
  obtain ⟨i, hi, his⟩ : ∃ i, P.info? e = some i ∧ i.size = 1 := by
    unfold sizeT at hs
    rw [Option.map_eq_some_iff] at hs
    exact hs
  have hc : P.cellsOf e = 1 := by simp [Program.cellsOf, hi, his]
  have h3 := run_eqItems_ints (P := P) (w := w) 9998 he la lb (List.range la.length) (fun i hi => by simp at hi; omega)
  rw [range_all_eq la lb (by omega)] at h3
  rw [ha] at h3
  have := run_equalIn_array (P := P) w 9999 (la.map fun n => Value.int k n).toArray (lb.map fun n => Value.int k n).toArray ht hi
  rw [hc, h3] at this
  exact this
theorem find_asking {t : TypeId} {n : Nat} {i : IntKind} (ht : eqKind P t = .arr n i) {k : AV} {kv : Value} (hk : R G k kv) : ∀ {cs : List AV} {es : List MapEntry} {j : Nat} {r : Option (Nat × AV)}, ERels G cs es → findA (.arr n i) k cs j = some r →
    ∃ r', (Instr.findAsking t kv es j).run P w = .ok r' w ∧ FRel G r r'
  | _, _, j, r, .nil, h => by
    simp only [findA, Option.some.injEq] at h; subst h
    exact ⟨none, rfl, trivial⟩
  | _, _, j, r, .cons (e := e) (es := es) ⟨a, b, rfl, ha, hb⟩ hr, h => by
    simp only [findA] at h
    have hs : ∀ q, keyEqA (.arr n i) k a = some q → (Op.equal t kv e.key).run P w = .ok q w := by
      intro q hq
      rcases keyEq_flat hq with ⟨_, _, _, hh, _⟩ | ⟨_, _, hh, _⟩ | ⟨_, _, hh, _⟩ | ⟨n', i', xs, ys, hh, rfl, rfl, h1, h2, rfl⟩
      · cases hh
      · cases hh
      · cases hh
      · cases hh
        have e1 := agg_ints hk; have e2 := agg_ints ha
        rw [e1, e2]
        exact run_equal_arr ht h1 h2
    split at h
    · rename_i hq
      simp only [Option.some.injEq] at h; subst h
      exact ⟨some (j, e.val), by simp [Instr.findAsking, hs _ hq], rfl, hb⟩
    · rename_i hq
      obtain ⟨r', h1, h2⟩ := find_asking ht hk hr h
      exact ⟨r', by simp [Instr.findAsking, hs _ hq, h1], h2⟩
    · cases h
theorem does_find {t : TypeId} {mk : MKey} (hm : keyT P t = some mk) {k : AV} {kv : Value} (hk : R G k kv) {cs : List AV} {es : List MapEntry} {r : Option (Nat × AV)} (hr : ERels G cs es) (h : findA mk k cs 0 = some r) :
    ∃ r', (Instr.findKey t kv es).run P w = .ok r' w ∧ FRel G r r' := by
  unfold keyT at hm
  split at hm
  · rename_i i hu
    cases hm
    obtain ⟨r', h1, h2⟩ := find_now (d := .int i) hk (.inl ⟨i, rfl, rfl⟩) hr h
    exact ⟨r', by simp [Instr.findKey, run_underlying hu, h1], h2⟩
  · rename_i hu
    cases hm
    obtain ⟨r', h1, h2⟩ := find_now (d := .string) hk (.inr (.inl ⟨rfl, rfl⟩)) hr h
    exact ⟨r', by simp [Instr.findKey, run_underlying hu, h1], h2⟩
  · rename_i hu
    cases hm
    obtain ⟨r', h1, h2⟩ := find_now (d := .bool) hk (.inr (.inr ⟨rfl, rfl⟩)) hr h
    exact ⟨r', by simp [Instr.findKey, run_underlying hu, h1], h2⟩
  · rename_i n e hu
    split at hm
    · rename_i n' i hq
      split at hm
      · rename_i hn
        subst hn
        cases hm
        obtain ⟨r', h1, h2⟩ := find_asking (w := w) hq hk hr h
        cases hr with
        | nil =>
          refine ⟨r', ?_, h2⟩
          have : r' = none := by simpa [Instr.findAsking] using h1.symm
          subst this
          simp [Instr.findKey, run_underlying hu, Instr.findNow]
        | cons he ht =>
          refine ⟨r', ?_, h2⟩
          simp [Instr.findKey, run_underlying hu, Instr.findNow, Instr.sameNow, h1]
      · cases hm
    · cases hm
  · cases hm
end
section
variable {P : Program} {w : World} {G : Gh}
theorem does_checkKey {t : TypeId} {mk : MKey} (hm : keyT P t = some mk) {k : AV} {kv : Value} (hk : R G k kv) (h : isKeyA mk k = true) (em : Bool) : (Instr.checkKey em 10000 t kv).run P w = .ok () w := by
  unfold keyT at hm
  split at hm
  · rename_i i hu
    cases hm
    unfold isKeyA at h
    split at h <;> first | (rename_i hh; cases hh; done) | skip
    all_goals first | (rename_i hh _; cases hh; done) | skip
    all_goals try (cases h; done)
    have e1 := hk.flat_inv
    rw [e1, Instr.checkKey]
    simp [run_underlying hu]
  · rename_i hu
    cases hm
    unfold isKeyA at h
    split at h
    all_goals try (rename_i hh; cases hh; done)
    all_goals try (cases h; done)
    have e1 := hk.flat_inv
    rw [e1, Instr.checkKey]
    simp [run_underlying hu]
  · rename_i hu
    cases hm
    unfold isKeyA at h
    split at h
    all_goals try (rename_i hh; cases hh; done)
    all_goals try (cases h; done)
    have e1 := hk.flat_inv
    rw [e1, Instr.checkKey]
    simp [run_underlying hu]
  · rename_i n e hu
    split at hm
    · rename_i n' i hq
      split at hm
      · rename_i hn
        subst hn
        cases hm
        obtain ⟨e', ht, he, hs, hgt⟩ := eqKind_arr hq
        rw [hu] at ht
        cases ht
        cases k with
        | agg xs =>
          simp only [isKeyA] at h
          split at h
          · rename_i l hl
            have hln : l.length = n := by simpa using h
            rw [asInts_inv hl] at hk
            have e1 := agg_ints hk
            obtain ⟨q, hqi, hqs⟩ : ∃ q, P.info? e = some q ∧ q.size = 1 := by
              unfold sizeT at hs
              rw [Option.map_eq_some_iff] at hs
              exact hs
            have hag : ∀ w : World, (isAgg e).run P w = .ok false w := fun w => by simp [isAgg, run_underlying he]
            have p1 : ∀ j, j < n → (part e (l.map fun z => Value.int i z).toArray (j * 1)).run P w = .ok (.int i (l.getD j 0)) w := fun j hj => by
              simp [part, hag, show j < l.length by omega]
            have p2 : ∀ z, (Instr.checkKey em 9999 e (.int i z)).run P w = .ok () w := fun z => by
              rw [Instr.checkKey]; simp [run_underlying he]
            have hsz : (sizeOf e).run P w = .ok 1 w := by simp [sizeOf, typeInfo, hqi, hqs]
            rw [e1, Instr.checkKey]
            simp only [Sem.run_bind, run_underlying hu, Result.andThen_ok]
            simp only [Std.Legacy.Range.forIn_eq_forIn_range', Std.Legacy.Range.size, Nat.sub_zero, Nat.add_one_sub_one, Nat.div_one]
            have each : ∀ j ∈ List.range' 0 n, j < n := fun j hj => by
              have := List.mem_range'_1.1 hj; omega
            generalize List.range' 0 n = is at each
            induction is with
            | nil => simp
            | cons j is ih =>
              simp only [List.forIn_cons, Sem.run_bind, hsz, Result.andThen_ok, p1 j (each j (by simp)), p2, Sem.run_pure]
              exact ih fun y hy => each y (by simp [hy])
          · cases h
        | _ => simp [isKeyA] at h
      · cases hm
    · cases hm
  · cases hm
/-- What a map's block is in the heap. -/
theorem map_cells [Inhabited TieT] {w0 : World} {M : MS} {id : Nat} {xv : Value} {cs : List AV} (HI : Inv w0 G M w) (hx : R G (.mp id) xv) (hM : M[id]? = some (some cs)) : ∃ (r : Nat) (es : Array MapEntry) (clock : Nat), xv = .map (some r) ∧ w.heap[r]? = some (.map es clock) ∧ ERels G cs es.toList := by
  obtain ⟨r, rfl, hid, hs⟩ := hx.mp_inv
  have hlt : id < M.length := (List.getElem?_eq_some_iff.1 hM).1
  obtain ⟨_, _, cs', o, hM', ho, es, clock, rfl, hsz, hj⟩ := HI.spc id _ hs hlt
  rw [hM] at hM'
  cases hM'
  refine ⟨r, es, clock, rfl, ho, ?_⟩
  have key : ∀ (cs : List AV) (es : List MapEntry), es.length = cs.length → (∀ (j : Nat) (h : j < cs.length), ∃ x, cs[j] = .tup x ∧ x.length = 2 ∧ R G (x.getD 0 .any) (es.getD j default).key ∧ R G (x.getD 1 .any) (es.getD j default).val) → ERels G cs es := by
    intro cs
    induction cs with
    | nil => intro es hl _; cases es with
      | nil => exact .nil
      | cons e es => simp at hl
    | cons c cs ih =>
      intro es hl hj
      cases es with
      | nil => simp at hl
      | cons e es =>
        refine .cons ?_ (ih es (by simpa using hl) fun j h => ?_)
        · obtain ⟨x, h1, h2, h3, h4⟩ := hj 0 (by simp)
          match x, h2 with
          | [a, b], _ => exact ⟨a, b, h1, h3, h4⟩
        · have := hj (j + 1) (by simpa using h)
          simpa using this
  refine key cs es.toList (by simpa using hsz) fun j h => ?_
  obtain ⟨x, h1, h2, h3, h4⟩ := hj j h
  exact ⟨x, h1, h2, by simpa [Array.getD_eq_getD_getElem?] using h3, by simpa [Array.getD_eq_getD_getElem?] using h4⟩
end
section
variable {P : Program} {w : World} {G : Gh}
theorem R_tup2 {a b : AV} {u v : Value} (h1 : R G a u) (h2 : R G b v) : R G (.tup [a, b]) (.tuple #[u, v]) := by
  refine .tup _ _ rfl fun j hj => ?_
  match j, hj with
  | 0, _ => exact h1
  | 1, _ => exact h2
theorem does_lookup [Inhabited TieT] {w0 : World} {M : MS} {t kt et : TypeId} {mk : MKey} {ok : Bool} {id : Nat} {k zA : AV} {xv kv zv : Value} {cs : List AV} {r : Option (Nat × AV)} (hu : P.underlying t = some (.map kt et)) (hm : keyT P kt = some mk) (hkA : isKeyA mk k = true) (HI : Inv w0 G M w) (hx : R G (.mp id) xv) (hk : R G k kv)
    (hM : M[id]? = some (some cs)) (h : findA mk k cs 0 = some r) (hz : (zeroValue et).run P w = .ok zv w) (hzA : R G zA zv) :
    ∃ r', (Instr.lookup t xv kv ok).run P w = .ok r' w ∧ R G (getA ok zA r) r' := by
  obtain ⟨q, es, clock, rfl, ho, hr⟩ := map_cells HI hx hM
  obtain ⟨r1, h1, h2⟩ := does_find (w := w) hm hk hr h
  have hc := fun em => does_checkKey (w := w) hm hk hkA em
  have hobj : (getObj q).run P w = .ok (.map es clock) w := by simp [getObj, Sem.run, ho]
  match r, r1, h2 with
  | none, none, _ =>
    cases ok with
    | true => exact ⟨.tuple #[zv, .bool false], by simp [Instr.lookup, run_underlying hu, hobj, hc, h1, hz], R_tup2 hzA (.imm _ _ (.flat _))⟩
    | false => exact ⟨zv, by simp [Instr.lookup, run_underlying hu, hobj, hc, h1, hz], hzA⟩
  | some (i, b), some (j, v), ⟨_, hb⟩ =>
    cases ok with
    | true => exact ⟨.tuple #[v, .bool true], by simp [Instr.lookup, run_underlying hu, hobj, hc, h1], R_tup2 hb (.imm _ _ (.flat _))⟩
    | false => exact ⟨v, by simp [Instr.lookup, run_underlying hu, hobj, hc, h1], hb⟩
end
section
variable {P : Program} {w0 : World}
/-- A map is written. -/
theorem Inv.putMap [Inhabited TieT] {w : World} {G : Gh} {M : MS} (h : Inv w0 G M w) {id r : Nat} {ds : List AV} {fs : Array MapEntry} {ck : Nat} (hs : G.s id = some (.map r)) (hid : id < M.length) (hE : SpO G ds (.map r) (.map fs ck)) :
    Inv w0 G (M.set id (some ds)) (w.putObj r (.map fs ck)) := by
  obtain ⟨hB, hm, cs, o, hM, ho, hsp⟩ := h.spc id _ hs hid
  have hlt : r < w.heap.size := (Array.getElem?_eq_some_iff.1 ho).1
  have hne : ∀ {b : Nat} {c : Array Value} {T : TypeId} {f : Nat × Nat}, w.heap[b]? = some (.cells c T f) → b ≠ r := fun hb e => h.at_ne hs hid hb e.symm
  have hoth : ∀ k, k ≠ r → (w.putObj r (.map fs ck)).heap[k]? = w.heap[k]? := fun k hk => World.putObj_heap_other hk
  refine ⟨⟨h.below.os, h.below.tape, h.below.output, by simpa using h.below.size, fun k hk => by rw [hoth k (by have := hB; simp only [Sp.at] at this; omega)]; exact h.below.block k hk⟩, by simp [h.len], fun a v ha => ?_, fun id' b n hm' => ?_, h.sep, h.inj, fun id' cs' hM' hsn => ?_, fun id' sp hsp' hid' => ?_, fun id' r y L pl hsp hid => h.tie id' r y L pl hsp (by simpa using hid), fun i j sp sp' h1 h2 h3 h4 => h.sinj i j sp sp' h1 h2 (by simpa using h3) (by simpa using h4), fun d hd => ?_, fun q o hp => by
    obtain ⟨a1, a2, a3, a4, a5⟩ := h.prot q o hp
    exact ⟨by rw [hoth q (fun e => a4 id _ hs hid e.symm)]; exact a1, a2, a3, fun id' sp hsp hid => a4 id' sp hsp (by simpa using hid), a5⟩⟩
  · obtain ⟨hc, h1⟩ := h.imm a v ha
    obtain ⟨o', ho', hcell⟩ := cells_of_cell0 hc
    exact ⟨(World.cell?_of_block (hoth _ (by
      intro e
      obtain ⟨c, T, f, rfl⟩ := hcell
      exact hne ho' e))).trans hc, h1⟩
  · obtain ⟨hB', cs', hM', cur, T, hh, rest⟩ := h.blk id' b n hm'
    have he : id' ≠ id := fun e => by subst e; rw [hm] at hm'; cases hm'
    exact ⟨hB', cs', by rw [List.getElem?_set_ne (Ne.symm he)]; exact hM', cur, T, by rw [hoth _ (hne hh)]; exact hh, rest⟩
  · by_cases he : id' = id
    · subst he; rw [hs] at hsn; cases hsn
    · rw [List.getElem?_set_ne (Ne.symm he)] at hM'
      exact h.live id' cs' hM' hsn
  · have hid2 : id' < M.length := by simpa using hid'
    by_cases he : id' = id
    · subst he
      have hsp2 : G.s id' = some sp := hsp'
      rw [hs] at hsp2
      cases hsp2
      exact ⟨hB, hm, _, _, by simp [hid2], World.putObj_heap_same hlt, hE⟩
    · obtain ⟨hB', hm', cs', o', hM', ho', hsp2⟩ := h.spc id' sp hsp' hid2
      have hne2 : sp.at ≠ r := fun e => he (h.sinj id' id sp _ hsp' hs hid2 hid e)
      exact ⟨hB', hm', cs', o', by rw [List.getElem?_set_ne (Ne.symm he)]; exact hM', by rw [hoth _ hne2]; exact ho', hsp2⟩
  · obtain ⟨hB', ho'⟩ := h.dfr d hd
    refine ⟨hB', ?_⟩
    by_cases he : d = r
    · subst he
      simp only [Sp.at] at ho
      rw [ho] at ho'
      obtain ⟨_, _, h1, _⟩ := hsp
      subst h1
      cases ho'
    · rw [hoth _ he]; exact ho'
end
section
variable {P : Program} {w0 : World}
/-- A map is made. -/
def Gh.withMap (G : Gh) (r : Nat) : Gh :=
  { G with m := G.m ++ [none], s := fun id => if id < G.m.length then G.s id else if id = G.m.length then some (.map r) else none }
theorem Inv.withMap [Inhabited TieT] {w : World} {G : Gh} {M : MS} (h : Inv w0 G M w) :
    Gle G (G.withMap w.heap.size) ∧ Inv w0 (G.withMap w.heap.size) (M ++ [some []]) (w.alloc (.map #[] 0)) := by
  have hle : Gle G (G.withMap w.heap.size) := ⟨fun _ _ h => h, by simp [Gh.withMap], fun id b hid hb => by
    simp only [Gh.withMap] at hb
    rwa [List.getElem?_append_left hid] at hb, fun id hid => by simp [Gh.withMap, hid], fun _ h => h, rfl, fun _ _ h => h⟩
  have hb : Below w.heap.size w (w.alloc (.map #[] 0)) := (Below.refl _ w).alloc (Nat.le_refl _) _
  have hL1 : (w.alloc (.map #[] 0)).heap[w.heap.size]? = some (.map #[] 0) := World.alloc_heap_new w _
  have hi := h.grow hb
  have ws := h.below.size
  have olds : ∀ {id : Nat} {sp : Sp}, (G.withMap w.heap.size).s id = some sp → id < (M ++ [some []]).length → (id < M.length ∧ G.s id = some sp) ∨ (id = M.length ∧ sp = .map w.heap.size) := by
    intro id sp hsp hid
    simp only [Gh.withMap] at hsp
    split at hsp
    · rename_i hh; exact .inl ⟨by rw [← h.len]; exact hh, hsp⟩
    · split at hsp
      · rename_i hh; cases hsp; exact .inr ⟨by rw [← h.len]; exact hh, rfl⟩
      · cases hsp
  have oldm : ∀ {id : Nat} {x : Nat × Nat}, (G.withMap w.heap.size).m[id]? = some (some x) → G.m[id]? = some (some x) ∧ id < M.length := by
    intro id x hx
    simp only [Gh.withMap] at hx
    rcases Nat.lt_or_ge id G.m.length with hid | hid
    · rw [List.getElem?_append_left hid] at hx; exact ⟨hx, by rw [← h.len]; exact hid⟩
    · rw [List.getElem?_append_right hid] at hx
      have : id - G.m.length = 0 := by
        rcases Nat.eq_zero_or_pos (id - G.m.length) with h0 | h0
        · exact h0
        · rw [List.getElem?_eq_none (by simp; omega)] at hx; cases hx
      rw [this] at hx; simp at hx
  refine ⟨hle, ⟨hi.below, by simp [Gh.withMap, h.len], hi.imm, fun id b n hm => ?_, fun id b n hm a ha => h.sep id b n (oldm hm).1 a ha, fun i j b n n' h1 h2 => h.inj i j b n n' (oldm h1).1 (oldm h2).1, fun id cs hM hsn => ?_, fun id sp hsp hid => ?_, fun id r y' L' pl' hsp hid => ?_, fun i j sp sp' h1 h2 h3 h4 h5 => ?_, fun d hd => ?_, fun q o hp => by
    obtain ⟨a1, a2, a3, a4, a5⟩ := hi.prot q o hp
    obtain ⟨c1, _⟩ := h.prot q o hp
    have := (Array.getElem?_eq_some_iff.1 c1).1
    refine ⟨a1, a2, fun id n hm => a3 id n (oldm hm).1, fun id sp hsp hid => ?_, a5⟩
    rcases olds hsp hid with ⟨q1, q2⟩ | ⟨_, rfl⟩
    · exact a4 id sp q2 q1
    · simp only [Sp.at]; omega⟩⟩
  · obtain ⟨q1, q2⟩ := oldm hm
    obtain ⟨hB', cs', hM, cur', T', hh', hsz, hl', hr'⟩ := hi.blk id b n q1
    exact ⟨hB', cs', by rw [List.getElem?_append_left q2]; exact hM, cur', T', hh', hsz, hl', fun j hj => ⟨(hr' j hj).1.mono hle, (hr' j hj).2⟩⟩
  · rcases Nat.lt_or_ge id M.length with hid | hid
    · rw [List.getElem?_append_left hid] at hM
      have hsn' : G.s id = none := by simpa [Gh.withMap, h.len, hid] using hsn
      obtain ⟨b', n, hm⟩ := h.live id cs hM hsn'
      exact ⟨b', n, by simp only [Gh.withMap]; rw [List.getElem?_append_left (by rw [h.len]; exact hid)]; exact hm⟩
    · rw [List.getElem?_append_right hid] at hM
      have : id - M.length = 0 := by
        rcases Nat.eq_zero_or_pos (id - M.length) with h0 | h0
        · exact h0
        · rw [List.getElem?_eq_none (by simp; omega)] at hM; cases hM
      have : id = G.m.length := by have := h.len; omega
      simp [Gh.withMap, this] at hsn
  · rcases olds hsp hid with ⟨q1, q2⟩ | ⟨rfl, rfl⟩
    · obtain ⟨hB, hm, cs, o, hM, ho, r⟩ := hi.spc id sp q2 q1
      exact ⟨hB, by simp only [Gh.withMap]; rw [List.getElem?_append_left (by rw [h.len]; exact q1)]; exact hm, cs, o, by rw [List.getElem?_append_left q1]; exact hM, ho, r.mono hle⟩
    · refine ⟨by simp only [Sp.at]; omega, by simp [Gh.withMap, ← h.len], [], _, by simp, hL1, #[], 0, rfl, rfl, fun j hj => by simp at hj⟩
  · rcases olds hsp hid with ⟨q1, q2⟩ | ⟨rfl, hq⟩
    · exact h.tie id r y' L' pl' q2 q1
    · cases hq
  · have atlt : ∀ {i : Nat} {sp : Sp}, G.s i = some sp → i < M.length → sp.at < w.heap.size := by
      intro i sp hs hi'
      obtain ⟨_, _, _, _, _, ho, _⟩ := h.spc i sp hs hi'
      exact (Array.getElem?_eq_some_iff.1 ho).1
    rcases olds h1 h3 with ⟨q1, q2⟩ | ⟨rfl, rfl⟩ <;> rcases olds h2 h4 with ⟨r1, r2⟩ | ⟨rfl, rfl⟩
    · exact h.sinj i j sp sp' q2 r2 q1 r1 h5
    · have := atlt q2 q1; have h6 : sp.at = w.heap.size := h5; omega
    · have := atlt r2 r1; have h6 : w.heap.size = sp'.at := h5; omega
    · rfl
  · exact hi.dfr d hd
end
section
variable {P : Program} {w : World} {G : Gh}
/-- Equal keys are the same bits. -/
theorem same_bits {mk : MKey} {x y : AV} {u v : Value} (h : keyEqA mk x y = some true) (hx : R G x u) (hy : R G y v) : Instr.sameBits 10000 v u = true := by
  rcases keyEq_flat h with ⟨k, a, b, rfl, rfl, rfl, hq⟩ | ⟨a, b, rfl, rfl, rfl, hq⟩ | ⟨a, b, rfl, rfl, rfl, hq⟩ | ⟨n, k, xs, ys, rfl, rfl, rfl, h1, h2, hq⟩
  · have e1 := hx.flat_inv; have e2 := hy.flat_inv
    have : a = b := by simpa using hq.symm
    subst this
    rw [e1, e2]; simp [Instr.sameBits]
  · have e1 := hx.flat_inv; have e2 := hy.flat_inv
    have : a = b := (Go.MapKept.bytes_beq a b).1 hq.symm
    subst this
    rw [e1, e2]
    exact (Go.MapKept.bytes_beq a a).2 rfl
  · have e1 := hx.flat_inv; have e2 := hy.flat_inv
    have : a = b := by simpa using hq.symm
    subst this
    rw [e1, e2]; simp [Instr.sameBits]
  · have e1 := agg_ints hx; have e2 := agg_ints hy
    have : xs = ys := by simpa using hq.symm
    subst this
    rw [e1, e2]
    simp only [Instr.sameBits, beq_self_eq_true, Bool.true_and, List.all_eq_true]
    rintro ⟨p, q⟩ hp
    have hpq : ∀ (l : List Value) (p q : Value), (p, q) ∈ l.zip l → p = q ∧ p ∈ l := by
      intro l
      induction l with
      | nil => intro p q h; simp at h
      | cons c l ih =>
        intro p q h
        simp only [List.zip_cons_cons, List.mem_cons] at h
        rcases h with h | h
        · cases h; exact ⟨rfl, by simp⟩
        · obtain ⟨a, b⟩ := ih p q h; exact ⟨a, by simp [b]⟩
    obtain ⟨rfl, hm⟩ := hpq _ p q hp
    simp only [List.mem_map] at hm
    obtain ⟨z, _, rfl⟩ := hm
    simp [Instr.sameBits]
end
section
variable {P : Program} {w : World} {G : Gh}
theorem run_mapUpdate_new {t kt et : TypeId} {q : Nat} {es : Array MapEntry} {clock : Nat} {kv xv : Value} (hu : P.underlying t = some (.map kt et)) (ho : w.heap[q]? = some (.map es clock)) (hc : (Instr.checkKey false 10000 kt kv).run P w = .ok () w) (h1 : (Instr.findKey kt kv es.toList).run P w = .ok none w) :
    (Instr.mapUpdate t (.map (some q)) kv xv).run P w = .ok () { w with heap := w.heap.setIfInBounds q (.map (es.push { key := kv, val := xv, born := clock }) (clock + 1)) } := by
  have hobj : (getObj q).run P w = .ok (.map es clock) w := by simp [getObj, Sem.run, ho]
  have hset := fun o => MapKept.run_setObj_map (P := P) o ho
  simp [Instr.mapUpdate, run_underlying hu, hobj, hc, h1, hset]
theorem run_mapUpdate_old {t kt et : TypeId} {q i : Nat} {es : Array MapEntry} {clock : Nat} {kv xv ov : Value} {e : MapEntry} (hu : P.underlying t = some (.map kt et)) (ho : w.heap[q]? = some (.map es clock)) (hc : (Instr.checkKey false 10000 kt kv).run P w = .ok () w) (h1 : (Instr.findKey kt kv es.toList).run P w = .ok (some (i, ov)) w)
    (he : es[i]? = some e) (hb : Instr.sameBits 10000 e.key kv = true) :
    (Instr.mapUpdate t (.map (some q)) kv xv).run P w = .ok () { w with heap := w.heap.setIfInBounds q (.map (es.modify i fun e => { e with key := kv, val := xv }) clock) } := by
  have hobj : (getObj q).run P w = .ok (.map es clock) w := by simp [getObj, Sem.run, ho]
  have hset := fun o => MapKept.run_setObj_map (P := P) o ho
  simp [Instr.mapUpdate, run_underlying hu, hobj, hc, h1, hset, he, Instr.keyThatStays, hb]
end
section
variable {P : Program} {w0 w : World} {G : Gh} {M : MS}
theorem ERels.app {cs ds : List AV} {es fs : List MapEntry} (h : ERels G cs es) (h' : ERels G ds fs) : ERels G (cs ++ ds) (es ++ fs) := by
  induction h with
  | nil => exact h'
  | cons h t ih => exact .cons h ih
theorem ERels.set {cs : List AV} {es : List MapEntry} (h : ERels G cs es) {i : Nat} {c : AV} {e : MapEntry} (hc : ERel G c e) : ERels G (cs.set i c) (es.set i e) := by
  induction h generalizing i with
  | nil => exact .nil
  | cons h t ih => cases i with
    | zero => exact .cons hc t
    | succ i => exact .cons h ih
theorem ERels.erase {cs : List AV} {es : List MapEntry} (h : ERels G cs es) {i : Nat} : ERels G (cs.eraseIdx i) (es.eraseIdx i) := by
  induction h generalizing i with
  | nil => exact .nil
  | cons h t ih => cases i with
    | zero => exact t
    | succ i => exact .cons h ih
theorem ERels.len {cs : List AV} {es : List MapEntry} (h : ERels G cs es) : es.length = cs.length := by
  induction h with
  | nil => rfl
  | cons h t ih => simp [ih]
theorem ERels.get {cs : List AV} {es : List MapEntry} (h : ERels G cs es) : ∀ (j : Nat) (c : AV), cs[j]? = some c → ∃ e, es[j]? = some e ∧ ERel G c e := by
  induction h with
  | nil => intro j c hj; simp at hj
  | cons h t ih => intro j c hj; cases j with
    | zero => simp at hj; subst hj; exact ⟨_, by simp, h⟩
    | succ j => simpa using ih j c (by simpa using hj)
theorem SpO_of {r : Nat} {cs : List AV} {fs : Array MapEntry} {ck : Nat} (h : ERels G cs fs.toList) : SpO G cs (.map r) (.map fs ck) := by
  refine ⟨fs, ck, rfl, by simpa using h.len, fun j hj => ?_⟩
  obtain ⟨e, he, a, b, h1, h2, h3⟩ := h.get j cs[j] (by simp [hj])
  have : fs.getD j default = e := by
    simp only [Array.getElem?_toList] at he
    simp [Array.getD_eq_getD_getElem?, he]
  exact ⟨[a, b], h1, rfl, by rw [this]; exact h2, by rw [this]; exact h3⟩
theorem findA_at {mk : MKey} {k : AV} : ∀ {cs : List AV} {i j : Nat} {b : AV}, findA mk k cs i = some (some (j, b)) → i ≤ j ∧ ∃ a, cs[j - i]? = some (.tup [a, b]) ∧ keyEqA mk k a = some true
  | [], i, j, b, h => by simp [findA] at h
  | .tup [a, b'] :: cs, i, j, b, h => by
    simp only [findA] at h
    split at h
    · rename_i hk
      cases h
      exact ⟨Nat.le_refl _, a, by simp, hk⟩
    · obtain ⟨h1, a', h2, h3⟩ := findA_at h
      refine ⟨by omega, a', ?_, h3⟩
      have : j - i = (j - (i + 1)) + 1 := by omega
      rw [this]; simpa using h2
    · cases h
  | .tup [] :: cs, i, j, b, h => by simp [findA] at h
  | .tup [_] :: cs, i, j, b, h => by simp [findA] at h
  | .tup (_ :: _ :: _ :: _) :: cs, i, j, b, h => by simp [findA] at h
  | .flat _ :: cs, i, j, b, h => by simp [findA] at h
  | .list _ _ _ _ :: cs, i, j, b, h => by simp [findA] at h
  | .agg _ :: cs, i, j, b, h => by simp [findA] at h
  | .elem _ _ :: cs, i, j, b, h => by simp [findA] at h
  | .mptr _ _ :: cs, i, j, b, h => by simp [findA] at h
  | .ms _ _ _ _ _ :: cs, i, j, b, h => by simp [findA] at h
  | .clo _ _ :: cs, i, j, b, h => by simp [findA] at h
  | .any :: cs, i, j, b, h => by simp [findA] at h
  | .yld _ _ _ :: cs, i, j, b, h => by simp [findA] at h
  | .mp _ :: cs, i, j, b, h => by simp [findA] at h
theorem ERels.modify {cs : List AV} {es : List MapEntry} (h : ERels G cs es) {i : Nat} {c : AV} {f : MapEntry → MapEntry} (hc : ∀ e, es[i]? = some e → ERel G c (f e)) : ERels G (cs.set i c) (es.modify i f) := by
  induction h generalizing i with
  | nil => simpa using ERels.nil
  | cons h t ih => cases i with
    | zero => exact .cons (hc _ (by simp)) t
    | succ i =>
      rw [List.modify_succ_cons]
      exact .cons h (ih fun e he => hc e (by simpa using he))
theorem does_mset [Inhabited TieT] {t kt et : TypeId} {mk : MKey} {id : Nat} {k x : AV} {mv kv xv : Value} {cs ds : List AV} (hu : P.underlying t = some (.map kt et)) (hm : keyT P kt = some mk) (hkA : isKeyA mk k = true) (HI : Inv w0 G M w) (hmv : R G (.mp id) mv) (hk : R G k kv) (hx : R G x xv)
    (hM : M[id]? = some (some cs)) (h : putE mk k x cs = some ds) : ∃ w', (Instr.mapUpdate t mv kv xv).run P w = .ok () w' ∧ Inv w0 G (M.set id (some ds)) w' := by
  obtain ⟨q, es, clock, rfl, ho, hr⟩ := map_cells HI hmv hM
  obtain ⟨r', hr', hid, hs⟩ := hmv.mp_inv
  cases hr'
  have hlt : id < M.length := (List.getElem?_eq_some_iff.1 hM).1
  have hc := does_checkKey (w := w) hm hk hkA false
  unfold putE at h
  split at h
  · rename_i hf
    cases h
    obtain ⟨r1, h1, h2⟩ := does_find (w := w) hm hk hr hf
    match r1, h2 with
    | none, _ =>
      refine ⟨_, run_mapUpdate_new hu ho hc h1, ?_⟩
      exact HI.putMap hs hlt (SpO_of (by rw [Array.toList_push]; exact hr.app (.cons ⟨k, x, rfl, hk, hx⟩ .nil)))
  · rename_i i b hf
    cases h
    obtain ⟨_, a, ha, hka⟩ := findA_at hf
    obtain ⟨r1, h1, h2⟩ := does_find (w := w) hm hk hr hf
    match r1, h2 with
    | some (j, v), ⟨hij, _⟩ =>
      subst hij
      obtain ⟨e, he, a', b', hab, hea, heb⟩ := hr.get _ _ ha
      cases hab
      simp only [Nat.sub_zero, Array.getElem?_toList] at he
      have hil : i < es.size := (Array.getElem?_eq_some_iff.1 he).1
      have hee : es[i] = e := (Array.getElem?_eq_some_iff.1 he).2
      refine ⟨_, run_mapUpdate_old hu ho hc h1 he (same_bits hka hk hea), ?_⟩
      refine HI.putMap hs hlt (SpO_of ?_)
      rw [Array.toList_modify]
      exact hr.modify fun e' _ => ⟨k, x, rfl, hk, hx⟩
  · cases h
theorem does_mdel [Inhabited TieT] {t kt et ty : TypeId} {mk : MKey} {id : Nat} {k : AV} {mv kv : Value} {cs ds : List AV} {T : Array TypeId} (hT : T[0]? = some t) (hu : P.underlying t = some (.map kt et)) (hm : keyT P kt = some mk) (hkA : isKeyA mk k = true) (HI : Inv w0 G M w) (hmv : R G (.mp id) mv) (hk : R G k kv)
    (hM : M[id]? = some (some cs)) (h : delE mk k cs = some ds) : ∃ w', (Builtin.delete_ T ty #[mv, kv]).run P w = .ok (.tuple #[]) w' ∧ Inv w0 G (M.set id (some ds)) w' := by
  obtain ⟨q, es, clock, rfl, ho, hr⟩ := map_cells HI hmv hM
  obtain ⟨r', hr', hid, hs⟩ := hmv.mp_inv
  cases hr'
  have hlt : id < M.length := (List.getElem?_eq_some_iff.1 hM).1
  have hc := fun em => does_checkKey (w := w) hm hk hkA em
  have hobj : (getObj q).run P w = .ok (.map es clock) w := by simp [getObj, Sem.run, ho]
  have hset := fun o => MapKept.run_setObj_map (P := P) o ho
  unfold delE at h
  split at h
  · rename_i hf
    cases h
    obtain ⟨r1, h1, h2⟩ := does_find (w := w) hm hk hr hf
    match r1, h2 with
    | none, _ =>
      refine ⟨{ w with heap := w.heap.setIfInBounds q (.map es clock) }, ?_, ?_⟩
      · simp [Builtin.delete_, hT, run_underlying hu, hobj, hc, h1, hset]
      · exact HI.putMap hs hlt (SpO_of hr)
  · rename_i i b hf
    cases h
    obtain ⟨r1, h1, h2⟩ := does_find (w := w) hm hk hr hf
    match r1, h2 with
    | some (j, v), ⟨hij, _⟩ =>
      subst hij
      refine ⟨{ w with heap := w.heap.setIfInBounds q (.map (es.eraseIdxIfInBounds i) clock) }, ?_, ?_⟩
      · simp [Builtin.delete_, hT, run_underlying hu, hobj, hc, h1, hset]
      · exact HI.putMap hs hlt (SpO_of (by rw [Array.toList_eraseIdxIfInBounds]; exact hr.erase))
  · cases h
end
section
variable {P : Program} {w0 w : World} {G : Gh} {M : MS}
theorem nilP_R [Inhabited TieT] (HI : Inv w0 G M w) {x : AV} {v : Value} (hx : R G x v) {b : Bool} (h : nilP M x = some b) : ∃ p, v = .pointer p ∧ p.isNone = b := by
  unfold nilP at h
  split at h
  · cases h
    exact ⟨none, hx.flat_inv, rfl⟩
  · rename_i id off
    split at h
    · rename_i hal
      cases h
      unfold aliveA at hal
      split at hal
      · rename_i cs hM
        obtain ⟨bb, n, _, _, hm, _⟩ := HI.row hM hx.mptr_s
        exact ⟨_, hx.mptr_inv.2.2 bb n hm, rfl⟩
      · cases hal
    · cases h
  · cases h
    obtain ⟨a, n, c, _, rfl⟩ := hx.elem_inv
    exact ⟨_, rfl, rfl⟩
  · cases h
theorem nilM_R {x : AV} {v : Value} (hx : R G x v) {b : Bool} (h : nilM x = some b) : ∃ p, v = .map p ∧ p.isNone = b := by
  unfold nilM at h
  split at h
  · cases h
    exact ⟨none, hx.flat_inv, rfl⟩
  · cases h
    obtain ⟨r, rfl, _⟩ := hx.mp_inv
    exact ⟨_, rfl, rfl⟩
  · cases h
theorem nilB_inv {eq : Bool} {p q : Option Bool} {out : Out} (h : nilB eq p q = some out) : ∃ a b, p = some a ∧ q = some b ∧ (a = true ∨ b = true) ∧ out = .q (.flat (.bool ((a == b) == eq))) := by
  unfold nilB at h
  split at h
  · rename_i a b
    split at h
    · rename_i hab
      cases h
      exact ⟨a, b, rfl, rfl, by simpa using hab, rfl⟩
    · cases h
  · cases h
theorem run_eqIn_ptr (d : Nat) {t e : TypeId} (ht : P.underlying t = some (.pointer e)) {p q : Option Addr} (h : p.isNone = true ∨ q.isNone = true) : (Op.equalIn (d + 1) t (.pointer p) (.pointer q)).run P w = .ok (p.isNone == q.isNone) w := by
  cases p <;> cases q <;> simp at h <;> simp [Op.equalIn, run_underlying ht]
theorem run_eq_ptr {t e : TypeId} (ht : P.underlying t = some (.pointer e)) {p q : Option Addr} (h : p.isNone = true ∨ q.isNone = true) : (Op.equal t (.pointer p) (.pointer q)).run P w = .ok (p.isNone == q.isNone) w := run_eqIn_ptr 9999 ht h
theorem run_eqIn_map (d : Nat) {t k e : TypeId} (ht : P.underlying t = some (.map k e)) {p q : Option Nat} (h : p.isNone = true ∨ q.isNone = true) : (Op.equalIn (d + 1) t (.map p) (.map q)).run P w = .ok (p.isNone == q.isNone) w := by
  cases p <;> cases q <;> simp at h <;> simp [Op.equalIn, run_underlying ht]
theorem run_eq_map {t k e : TypeId} (ht : P.underlying t = some (.map k e)) {p q : Option Nat} (h : p.isNone = true ∨ q.isNone = true) : (Op.equal t (.map p) (.map q)).run P w = .ok (p.isNone == q.isNone) w := run_eqIn_map 9999 ht h
theorem does_nilc [Inhabited TieT] {t : TypeId} {m eq : Bool} {op : BinOp} {ox oy : Operand} {x y : AV} {u v : Value} {base : Nat} {D : List Nat} {out : Out} (hk : nilKT P t = some m) (ho : (op = .eql ∧ eq = true) ∨ (op = .neq ∧ eq = false)) (HI : Inv w0 G M w) (hx : R G x u) (hy : R G y v)
    (h : evX base M D (.nilc m eq) [x, y] = some out) : ∃ b : Bool, ((do eqGuard op t ox oy u v; binOp op t u v : Sem Value)).run P w = .ok (.bool b) w ∧ out = .q (.flat (.bool b)) := by
  have fin : ∀ (a b : Bool), (eqGuard op t ox oy u v).run P w = .ok () w → (Op.equal t u v).run P w = .ok (a == b) w → (binOp .eql t u v = (do pure (.bool (← Op.equal t u v)))) → (binOp .neq t u v = (do pure (.bool (!(← Op.equal t u v))))) → 
      ((do eqGuard op t ox oy u v; binOp op t u v : Sem Value)).run P w = .ok (.bool ((a == b) == eq)) w := by
    intro a b h1 h2 h3 h4
    rw [Sem.run_bind, h1]
    simp only [Result.andThen_ok]
    rcases ho with ⟨rfl, rfl⟩ | ⟨rfl, rfl⟩
    · rw [h3]; simp [h2]
    · rw [h4]; simp [h2]
  unfold nilKT at hk
  split at hk
  · rename_i e ht
    cases hk
    simp only [evX] at h
    obtain ⟨a, b, h1, h2, h3, rfl⟩ := nilB_inv h
    obtain ⟨p, rfl, hp⟩ := nilP_R HI hx h1
    obtain ⟨q, rfl, hq⟩ := nilP_R HI hy h2
    subst hp; subst hq
    exact ⟨_, fin p.isNone q.isNone (by rw [eqGuard_at_pointer]; rfl) (run_eq_ptr ht h3) (by simp [binOp]) (by simp [binOp]), rfl⟩
  · rename_i k e ht
    cases hk
    simp only [evX] at h
    obtain ⟨a, b, h1, h2, h3, rfl⟩ := nilB_inv h
    obtain ⟨p, rfl, hp⟩ := nilM_R hx h1
    obtain ⟨q, rfl, hq⟩ := nilM_R hy h2
    subst hp; subst hq
    exact ⟨_, fin p.isNone q.isNone (by rw [eqGuard_at_map]; rfl) (run_eq_map ht h3) (by simp [binOp]) (by simp [binOp]), rfl⟩
  · cases hk
theorem does_aslice [Inhabited TieT] {t : TypeId} {q : Nat × Nat} {x : AV} {u : Value} {base : Nat} {D : List Nat} {out : Out} (ht : aslT P t = some q) (HI : Inv w0 G M w) (hx : R G x u)
    (h : evX base M D (.aslice q.1 q.2) [x] = some out) : ∃ r z, (Instr.sliceAt t u none none none).run P w = .ok r w ∧ out = .q z ∧ R G z r := by
  unfold aslT at ht
  split at ht
  · rename_i n e hu
    rw [Option.map_eq_some_iff] at ht
    obtain ⟨sz, hs, rfl⟩ := ht
    cases x <;> simp only [evX] at h <;> try (cases h; done)
    rename_i id off
    split at h
    · rename_i cs hM
      split at h
      · rename_i hc
        obtain ⟨hsz, hl, hfit⟩ := hc
        cases h
        obtain ⟨b, bn, cur, T, hm, hB, hh, hcs, hle, hr⟩ := HI.row hM hx.mptr_s
        obtain ⟨i0, i1, i2⟩ := hx.mptr_inv
        have hu' := i2 b bn hm
        subst hu'
        refine ⟨.slice (some ⟨b, off, none⟩) n n, _, ?_, rfl, .ms _ _ _ _ _ _ i0 hx.mptr_s ⟨_, _, rfl⟩ hsz fun b' n' hm' => ?_⟩
        · simp [Instr.sliceAt, run_underlying hu, Instr.sliceBounds, sizeT_run hs, Instr.sureAddr, addr_add0]
        · rw [hm] at hm'; cases hm'
          exact ⟨n, rfl, Nat.le_refl _, by simp only [LIM] at hl; simp only [maxLen]; omega, by omega, fun _ => rfl⟩
      · cases h
    · cases h
  · cases ht
theorem mapKT_inv {t : TypeId} {mk : MKey} (h : mapKT P t = some mk) : ∃ kt et, P.underlying t = some (.map kt et) ∧ keyT P kt = some mk := by
  unfold mapKT at h
  split at h
  · rename_i k e hu; exact ⟨k, e, hu, h⟩
  · cases h
theorem mapZ_inv {t kt et : TypeId} {z : AV} (hu : P.underlying t = some (.map kt et)) (h : mapZ P t = some z) : ∃ zv, (∀ w : World, (zeroValue et).run P w = .ok zv w) ∧ ∀ G, R G z zv := by
  unfold mapZ at h
  rw [hu] at h
  simp only at h
  split at h
  · rename_i i hi
    split at h
    · rename_i zv hz
      cases h
      exact ⟨zv, fun w => by simp [zeroValue, typeInfo, hi, hz], fun G => .imm _ _ (avC_R _ zv)⟩
    · cases h
  · cases h
theorem mapA_inv {M : MS} {x : AV} {id : Nat} {cs : List AV} (h : mapA M x = some (id, cs)) : x = .mp id ∧ M[id]? = some (some cs) := by
  unfold mapA at h
  split at h
  · split at h
    · rename_i hM; cases h; exact ⟨rfl, hM⟩
    · cases h
  · cases h
theorem nilM_true {x : AV} (h : nilM x = some true) : x = .flat (.map none) := by
  unfold nilM at h
  split at h
  · rfl
  · cases h
  · cases h
theorem does_mget [Inhabited TieT] {t : TypeId} {mk : MKey} {ok : Bool} {x k z : AV} {xv kv : Value} {base : Nat} {D : List Nat} {out : Out} (hm : mapKT P t = some mk) (hz : mapZ P t = some z) (HI : Inv w0 G M w) (hx : R G x xv) (hk : R G k kv)
    (h : evX base M D (.mget mk ok z) [x, k] = some out) : ∃ r y, (Instr.lookup t xv kv ok).run P w = .ok r w ∧ out = .q y ∧ R G y r := by
  obtain ⟨kt, et, hu, hkt⟩ := mapKT_inv hm
  obtain ⟨zv, hzr, hzR⟩ := mapZ_inv hu hz
  simp only [evX] at h
  split at h
  · rename_i hkA
    split at h
    · rename_i hn
      cases h
      have := nilM_true hn
      subst this
      have := hx.flat_inv
      subst this
      have hc := fun em => does_checkKey (w := w) hkt hk hkA em
      have hf : (Instr.findKey kt kv []).run P w = .ok none w := by
        obtain ⟨r', h1, h2⟩ := does_find (w := w) hkt hk .nil (r := none) rfl
        match r', h2 with
        | none, _ => exact h1
      cases ok with
      | true => exact ⟨.tuple #[zv, .bool false], _, by simp [Instr.lookup, run_underlying hu, hc, hf, hzr], rfl, R_tup2 (hzR G) (.imm _ _ (.flat _))⟩
      | false => exact ⟨zv, _, by simp [Instr.lookup, run_underlying hu, hc, hf, hzr], rfl, hzR G⟩
    · split at h
      · rename_i id cs hmA
        rw [Option.map_eq_some_iff] at h
        obtain ⟨r, hr, rfl⟩ := h
        obtain ⟨rfl, hM⟩ := mapA_inv hmA
        obtain ⟨r', h1, h2⟩ := does_lookup (ok := ok) hu hkt hkA HI hx hk hM hr (hzr w) (hzR G)
        exact ⟨r', _, h1, rfl, h2⟩
      · cases h
  · cases h
end
end Go.Proofs.Ytlcdafidoddefaa.Av
