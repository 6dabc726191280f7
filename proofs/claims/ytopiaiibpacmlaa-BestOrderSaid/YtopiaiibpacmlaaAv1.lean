/- A value semantics for the translated code: what an instruction does to values that are lists, structs and references to blocks of the call's own. Definitions alone: the instructions, their reading of the loaded code, the evaluator. -/
import Derived.Below
import Derived.Orders
import Derived.Laws.Append
import Derived.Laws.AppendOwn
import Derived.WalkKit
namespace Go.Proofs.Ytopiaiibpacmlaa.Av
open Go.RowKit

/-- Values as the evaluator has them. 'flat': just that value. 'list': a slice whose cells never change (sz cells an element). 'elem': the address of cell k of a slice. 'mptr', 'ms': an address in, a slice of, a block of the call's own. -/
inductive AV where
  | flat (v : Value)
  | list (sz : Nat) (cs : List AV) (nil capd : Bool)
  | agg (cs : List AV)
  | elem (x : AV) (k : Nat)
  | mptr (id off : Nat)
  | ms (id off len sz : Nat) (capd : Bool)
  | clo (fn : Nat) (caps : List AV)
  | tup (vs : List AV)
instance : Inhabited AV := ⟨.flat undef⟩

abbrev MS := List (Option (List AV))
abbrev Env := Nat → AV
def upd (e : Env) (t : Nat) (v : AV) : Env := fun x => if x = t then v else e x
def updO (e : Env) (t : Option Nat) (v : AV) : Env := match t with | some t => upd e t v | none => e

inductive O where
  | t (n : Nat)
  | k (v : AV)
def O.ev (env : Env) : O → AV | .t n => env n | .k v => v
def O.reads : O → List Nat | .t n => [n] | .k _ => []

inductive EqK where | no | bool | slice | ptr | arr (n : Nat) (k : IntKind)
  deriving DecidableEq

inductive I where
  | mov (x : O)
  | pick (c a b : O)
  | bin (op : BinOp) (ek : EqK) (x y : O)
  | un (op : UnOp) (x : O)
  | convI (k : IntKind) (x : O)
  | convS (x : O)
  | bytesOf (x : O)
  | strOf (x : O)
  | lenS (x : O)
  | lenStr (x : O)
  | load (agg : Bool) (n : Nat) (a : O)
  | store (n : Nat) (a x : O)
  | alloc (zs : List AV)
  | box (n : Nat) (x : O)
  | build (zs : List AV) (parts : List (Nat × Nat × O))
  | bslice (sz len : Nat) (zs : List AV) (parts : List (Nat × Nat × O))
  | mslice (sz bytes : Nat) (zs : List AV) (n c : O)
  | slice (sz : Nat) (x : O) (lo hi mx : Option O)
  | sstr (x : O) (lo hi : Option O)
  | idx (sz : Nat) (x i : O)
  | aidx (n sz : Nat) (x i : O)
  | ival (n sz : Nat) (agg : Bool) (x i : O)
  | istr (x i : O)
  | fad (off : Nat) (x : O)
  | fld (agg : Bool) (off n : Nat) (x : O)
  | ext (i : Nat) (x : O)
  | clo (fn : Nat) (caps : List O)
  | nilck (x : O)
  | call (f : Nat) (args : List O)
  | calld (f : O) (args : List O)
  | app (sz bytes : Nat) (s x : O)
  | copy (sz : Nat) (d s : O)
  | min (x y : O)
  | max (x y : O)
  | clear (sz : Nat) (zs : List AV) (x : O)
  | stop

structure AOp where
  dst : Option Nat
  i : I
  g : Option (Nat × Bool)

inductive AC where
  | skip
  | seq (a b : AC)
  | cond (c : O) (a b : AC)
  | block (id : Nat) (a : AC)
  | loop (a : AC)
  | exit (id : Nat)
  | ret
  | region (n : Nat) (ops : List AOp)
  | stop

inductive RV where
  | t (n : Nat)
  | cell (a : Nat) (agg : Bool) (n : Nat)
structure AF where
  body : AC
  res : List RV
  keep : Bool

/-! ### Reading memory -/
def isI : AV → Bool
  | .flat _ | .list .. => true
  | .agg cs => all cs
  | .elem x _ => isI x
  | .mptr .. | .ms .. => false
  | .clo _ cs => all cs
  | .tup cs => all cs
where all : List AV → Bool
  | [] => true
  | c :: cs => isI c && all cs
def allI : List AV → Bool
  | [] => true
  | c :: cs => isI c && allI cs

/-- The cells of a slice. -/
def view (M : MS) : AV → Option (List AV)
  | .list _ cs _ _ => some cs
  | .ms id off len sz _ => match M[id]? with
    | some (some cs) => if off + len * sz ≤ cs.length then some ((cs.drop off).take (len * sz)) else none
    | _ => none
  | _ => none
def lenOf : AV → Option Nat
  | .list sz cs _ _ => some (cs.length / sz)
  | .ms _ _ len _ _ => some len
  | _ => none
def lenM (M : MS) (x : AV) : Option Nat := match view M x with
  | some _ => lenOf x
  | none => none
/-- The cells from an address on. -/
def aview (M : MS) : AV → Option (List AV)
  | .elem x k => (view M x).map (·.drop k)
  | .mptr id off => match M[id]? with
    | some (some cs) => some (cs.drop off)
    | _ => none
  | _ => none
/-- What is read of the cells from an address on. -/
def ldA (agg : Bool) (n : Nat) (cs : List AV) : Option AV := if agg then (if n ≤ cs.length then some (.agg (cs.take n)) else none) else cs.head?
def aliveA (M : MS) (id : Nat) : Bool := match M[id]? with
  | some (some _) => true
  | _ => false
/-- A value's cells. -/
def cellsOf : AV → Option (List AV)
  | .agg cs => some cs
  | .tup _ => none
  | .flat v => if v.oneCell' then some [.flat v] else none
  | x => some [x]
def asInt : AV → Option Int
  | .flat (.int _ n) => some n
  | _ => none
def asInt64 : AV → Option Int
  | .flat (.int .i64 n) => some n
  | _ => none
def asBool : AV → Option Bool
  | .flat (.bool b) => some b
  | _ => none
def asInts (k : IntKind) : List AV → Option (List Int)
  | [] => some []
  | .flat (.int k' n) :: r => if k = k' then (asInts k r).map (n :: ·) else none
  | _ :: _ => none
def intBin (op : BinOp) (k : IntKind) (a b : Int) : Option Value :=
  match op with
  | .add => some (.int k (k.wrap (a + b)))
  | .sub => some (.int k (k.wrap (a - b)))
  | .mul => some (.int k (k.wrap (a * b)))
  | .quo => if b = 0 then none else some (.int k (k.wrap (a.tdiv b)))
  | .rem => if b = 0 then none else some (.int k (a.tmod b))
  | .eql => some (.bool (a == b))
  | .neq => some (.bool (a != b))
  | .lss => some (.bool (a < b))
  | .leq => some (.bool (a ≤ b))
  | .gtr => some (.bool (a > b))
  | .geq => some (.bool (a ≥ b))
  | .and => some (.int k (k.wrap (BitVec.ofInt k.bits a &&& BitVec.ofInt k.bits b).toNat))
  | .or => some (.int k (k.wrap (BitVec.ofInt k.bits a ||| BitVec.ofInt k.bits b).toNat))
  | .xor => some (.int k (k.wrap (BitVec.ofInt k.bits a ^^^ BitVec.ofInt k.bits b).toNat))
  | _ => none
def strBin (op : BinOp) (a b : ByteArray) : Option Value :=
  match op with
  | .add => if a.size + b.size ≤ 9223372036854775807 then some (.string (a ++ b)) else none
  | .eql => some (.bool (a.toList == b.toList))
  | .neq => some (.bool !(a.toList == b.toList))
  | .lss => some (.bool (Op.bytesLess a.toList b.toList))
  | .leq => some (.bool (Op.bytesLess a.toList b.toList || a.toList == b.toList))
  | .gtr => some (.bool !(Op.bytesLess a.toList b.toList || a.toList == b.toList))
  | .geq => some (.bool !(Op.bytesLess a.toList b.toList))
  | _ => none
def eqV (op : BinOp) (b : Bool) : Option AV :=
  match op with
  | .eql => some (.flat (.bool b))
  | .neq => some (.flat (.bool !b))
  | _ => none
def bin (op : BinOp) (ek : EqK) : AV → AV → Option AV
  | .flat (.int k a), .flat (.int k' b) => if k = k' then (intBin op k a b).map .flat else none
  | .flat (.string a), .flat (.string b) => (strBin op a b).map .flat
  | .flat (.bool a), .flat (.bool b) => if ek = .bool then eqV op (a == b) else none
  | .list _ _ n _, .list _ [] true _ => if ek = .slice then eqV op n else none
  | .ms .., .list _ [] true _ => none
  | .agg xs, .agg ys => match ek with
    | .arr n k => match asInts k xs, asInts k ys with
      | some a, some b => if a.length = n ∧ b.length = n then eqV op (a == b) else none
      | _, _ => none
    | _ => none
  | _, _ => none
def unop (op : UnOp) : AV → Option AV
  | .flat (.bool b) => match op with | .not => some (.flat (.bool !b)) | _ => none
  | .flat (.int k n) => match op with | .neg => some (.flat (.int k (k.wrap (0 - n)))) | _ => none
  | _ => none
def fillA (cells : List AV) : List (Nat × Nat × AV) → Option (List AV)
  | [] => some cells
  | (off, n, v) :: r => match cellsOf v with
    | some cs => if cs.length = n ∧ off + n ≤ cells.length then fillA (cells.take off ++ cs ++ cells.drop (off + n)) r else none
    | none => none
def splice (cs : List AV) (off : Nat) (xs : List AV) : List AV := cs.take off ++ xs ++ cs.drop (off + xs.length)
def optNat (d : Nat) : Option AV → Option Nat
  | none => some d
  | some (.flat (.int _ n)) => if 0 ≤ n then some n.toNat else none
  | _ => none
def bytesVals (s : ByteArray) : List AV := s.data.toList.map fun b => .flat (.int .u8 (b.toNat : Int))
/-- What an instruction comes to: a value, nothing written; or a value, the blocks behind, and which of the caller's blocks were written. -/
inductive Out where
  | q (v : AV)
  | x (v : AV) (M : MS) (D : List Nat)
/-- What a call comes to. -/
abbrev Call := Nat → List AV → MS → Option Out

def dirt (base id : Nat) (D : List Nat) : List Nat := if id < base then id :: D else D
/-- The caller's blocks among rows that are given up. -/
def dirts (base : Nat) : List AV → List Nat → List Nat
  | [], D => D
  | .ms id _ _ _ _ :: r, D => dirt base id (dirts base r D)
  | _ :: r, D => dirts base r D

/-- Rows of the call's own that are handed on as values: told as lists; the blocks are given up. -/
def frz (base : Nat) (M : MS) : AV → Option (AV × MS)
  | .ms id off len sz cd => match M[id]? with
    | some (some cs) => if base ≤ id ∧ off + len * sz ≤ cs.length ∧ allI cs then some (.list sz ((cs.drop off).take (len * sz)) false cd, M.set id none) else none
    | _ => none
  | .mptr .. => none
  | x => if isI x then some (x, M) else none
def frzAll (base : Nat) (M : MS) : List AV → Option (List AV × MS)
  | [] => some ([], M)
  | v :: r => match frz base M v with
    | some (v', M') => match frzAll base M' r with
      | some (r', M'') => some (v' :: r', M'')
      | none => none
    | none => none
def frzA (base : Nat) (M : MS) : AV → Option (AV × MS)
  | .agg cs => (frzAll base M cs).map fun (cs, M) => (.agg cs, M)
  | x => frz base M x
def frzTup (base : Nat) (M : MS) : List AV → Option (List AV × MS)
  | [] => some ([], M)
  | v :: r => match frzA base M v with
    | some (v', M') => match frzTup base M' r with
      | some (r', M'') => some (v' :: r', M'')
      | none => none
    | none => none
def frzV (base : Nat) (M : MS) : AV → Option (AV × MS)
  | .tup vs => (frzTup base M vs).map fun (vs, M) => (.tup vs, M)
  | x => frzA base M x

def LIM : Nat := 1099511627776

def storeA (base : Nat) (M : MS) (D : List Nat) (cs : List AV) : AV → Option Out
  | .elem (.ms id off len sz _) k => match frzAll base M cs with
    | some (cs', M') => match M'[id]? with
      | some (some old) => if k + cs'.length ≤ len * sz ∧ off + len * sz ≤ old.length then some (.x (.flat undef) (M'.set id (some (splice old (off + k) cs'))) (dirt base id D)) else none
      | _ => none
    | none => none
  | .mptr id off => match M[id]? with
    | some (some old) => if off + cs.length ≤ old.length then some (.x (.flat undef) (M.set id (some (splice old off cs))) (dirt base id D)) else none
    | _ => none
  | _ => none

def appA (base : Nat) (M : MS) (D : List Nat) (sz bytes : Nat) (s : AV) (m : Nat) (news : List AV) : Option Out :=
  if m = 0 then
    match s with
    | .list .. => some (.q s)
    | .ms id _ _ _ _ => if aliveA M id then some (.q s) else none
    | _ => none
  else
  match s with
  | .list sz' cs nil capd =>
    if (nil ∨ sz' = sz) ∧ capd ∧ allI news ∧ m * sz = news.length ∧ cs.length / sz + m ≤ LIM ∧ (cs.length / sz + m) * bytes ≤ 140737488355328 then
      some (.x (.ms M.length 0 (cs.length / sz + m) sz false) (M ++ [some (cs ++ news)]) D) else none
  | .ms id off len sz' capd => match M[id]? with
    | some (some old) =>
      if sz' = sz ∧ allI news ∧ m * sz = news.length ∧ len + m ≤ LIM ∧ (len + m) * bytes ≤ 140737488355328 ∧ off + len * sz ≤ old.length then
        if capd then some (.x (.ms M.length 0 (len + m) sz false) (M ++ [some ((old.drop off).take (len * sz) ++ news)]) D)
        else if off = 0 then some (.x (.ms M.length 0 (len + m) sz false) (M.set id none ++ [some (old.take (len * sz) ++ news)]) (dirt base id D)) else none
      else none
    | _ => none
  | _ => none

def cutCapd (mx : Option AV) (m h : Nat) (d : Bool) : Bool := match mx with
  | some _ => decide (m = h)
  | none => d
def sliceA (sz : Nat) (x : AV) (lo hi mx : Option AV) : Option Out :=
  match x with
  | .list sz' cs nil capd =>
    let n := cs.length / sz
    match optNat 0 lo, optNat n hi, optNat n mx with
    | some l, some h, some m =>
      if (nil ∨ sz' = sz) ∧ l ≤ h ∧ h ≤ m ∧ m ≤ n ∧ (mx.isSome → hi.isSome) then
        if nil then some (.q x)
        else some (.q (.list sz ((cs.drop (l * sz)).take ((h - l) * sz)) false (cutCapd mx m h (capd && decide (h = n)))))
      else none
    | _, _, _ => none
  | .ms id off len sz' capd =>
    match optNat 0 lo, optNat len hi, optNat len mx with
    | some l, some h, some m =>
      if sz' = sz ∧ l ≤ h ∧ h ≤ m ∧ m ≤ len ∧ (mx.isSome → hi.isSome) then
        if l = 0 then some (.q (.ms id off h sz (cutCapd mx m h (capd && decide (h = len)))))
        else if h = l then none
        else some (.q (.ms id (off + l * sz) (h - l) sz (cutCapd mx m h (capd && decide (h = len)))))
      else none
    | _, _, _ => none
  | _ => none

def evI (call : Call) (base : Nat) (env : Env) (M : MS) (D : List Nat) : I → Option Out
  | .mov x => some (.q (x.ev env))
  | .pick c a b => match asBool (c.ev env) with
    | some t => some (.q (bif t then a.ev env else b.ev env))
    | none => none
  | .bin op ek x y => (bin op ek (x.ev env) (y.ev env)).map .q
  | .un op x => (unop op (x.ev env)).map .q
  | .convI k x => match x.ev env with
    | .flat (.int _ n) => some (.q (.flat (.int k (k.wrap n))))
    | _ => none
  | .convS x => match x.ev env with
    | .flat (.string s) => some (.q (.flat (.string s)))
    | _ => none
  | .bytesOf x => match x.ev env with
    | .flat (.string s) => if s.size ≤ LIM then some (.q (.list 1 (bytesVals s) false false)) else none
    | _ => none
  | .strOf x => match view M (x.ev env), lenM M (x.ev env) with
    | some cs, some n => if n = cs.length then (asInts .u8 cs).map fun l => .q (.flat (.string (l.foldl (fun r n => r.push (UInt8.ofNat n.toNat)) ByteArray.empty))) else none
    | _, _ => none
  | .lenS x => (lenOf (x.ev env)).map fun (n : Nat) => .q (.flat (.int .i64 (n : Int)))
  | .lenStr x => match x.ev env with
    | .flat (.string s) => some (.q (.flat (.int .i64 s.size)))
    | _ => none
  | .load agg n a => match aview M (a.ev env) with
    | some cs => (ldA agg n cs).map .q
    | none => none
  | .store n a x => match cellsOf (x.ev env) with
    | some cs => if cs.length = n then storeA base M D cs (a.ev env) else none
    | none => none
  | .alloc zs => some (.x (.mptr M.length 0) (M ++ [some zs]) D)
  | .box n x => match cellsOf (x.ev env) with
    | some cs => if cs.length = n then some (.x (.mptr M.length 0) (M ++ [some cs]) D) else none
    | none => none
  | .build zs parts => (fillA zs (parts.map fun (o, n, x) => (o, n, x.ev env))).map fun cs => .q (.agg cs)
  | .bslice sz len zs parts =>
    match fillA ((List.replicate len zs).flatten) (parts.map fun (o, n, x) => (o, n, x.ev env)) with
    | some cs => if allI cs then some (.q (.list sz cs false true)) else
      match frzAll 0 M cs with
      | some (cs', M') => some (.x (.list sz cs' false true) M' (dirts base cs D))
      | none => none
    | none => none
  | .mslice sz bytes zs n c => match n.ev env, c.ev env with
    | .flat (.int _ n), .flat (.int _ c) => if 0 ≤ n ∧ n ≤ c ∧ c ≤ LIM ∧ bytes * c ≤ 140737488355328 then
        some (.x (.ms M.length 0 n.toNat sz (decide (n = c))) (M ++ [some ((List.replicate n.toNat zs).flatten)]) D) else none
    | _, _ => none
  | .slice sz x lo hi mx => match view M (x.ev env) with
    | some _ => sliceA sz (x.ev env) (lo.map (·.ev env)) (hi.map (·.ev env)) (mx.map (·.ev env))
    | none => none
  | .sstr x lo hi => match x.ev env with
    | .flat (.string s) => match optNat 0 (lo.map (·.ev env)), optNat s.size (hi.map (·.ev env)) with
      | some l, some h => if l ≤ h ∧ h ≤ s.size then some (.q (.flat (.string (s.extract l h)))) else none
      | _, _ => none
    | _ => none
  | .idx sz x i => match lenM M (x.ev env), asInt (i.ev env) with
    | some n, some i => if 0 ≤ i ∧ i < n then some (.q (.elem (x.ev env) (i.toNat * sz))) else none
    | _, _ => none
  | .aidx n sz x i => match asInt (i.ev env) with
    | some i => if 0 ≤ i ∧ i < n then match x.ev env with
        | .mptr id off => if aliveA M id then some (.q (.mptr id (off + i.toNat * sz))) else none
        | .elem x k => some (.q (.elem x (k + i.toNat * sz)))
        | _ => none
      else none
    | none => none
  | .ival n sz agg x i => match asInt (i.ev env), x.ev env with
    | some i, .agg cs => if 0 ≤ i ∧ i < n ∧ i.toNat * sz + sz ≤ cs.length then
        (if agg then some (.q (.agg ((cs.drop (i.toNat * sz)).take sz))) else (cs[i.toNat * sz]?).map .q) else none
    | _, _ => none
  | .istr x i => match x.ev env, asInt (i.ev env) with
    | .flat (.string s), some i => if 0 ≤ i then match s[i.toNat]? with
        | some b => some (.q (.flat (.int .u8 b.toNat)))
        | none => none
      else none
    | _, _ => none
  | .fad off x => match x.ev env with
    | .mptr id o => if aliveA M id then some (.q (.mptr id (o + off))) else none
    | .elem x k => some (.q (.elem x (k + off)))
    | _ => none
  | .fld agg off n x => match x.ev env with
    | .agg cs => if off + n ≤ cs.length then (if agg then some (.q (.agg ((cs.drop off).take n))) else (cs[off]?).map .q) else none
    | _ => none
  | .ext i x => match x.ev env with
    | .tup vs => (vs[i]?).map .q
    | _ => none
  | .clo fn caps => some (.q (.clo fn (caps.map (·.ev env))))
  | .nilck x => match x.ev env with
    | .mptr id o => if aliveA M id then some (.q (.mptr id o)) else none
    | .elem x k => some (.q (.elem x k))
    | _ => none
  | .call f args => callA call base M D f (args.map (·.ev env))
  | .calld f args => match f.ev env with
    | .clo f caps => callA call base M D f (args.map (·.ev env) ++ caps)
    | _ => none
  | .app sz bytes s x => match view M (x.ev env), lenOf (x.ev env) with
    | some news, some m => appA base M D sz bytes (s.ev env) m news
    | _, _ => none
  | .copy sz d s => match d.ev env, view M (s.ev env), lenOf (s.ev env) with
    | .ms id off len sz' _, some cs, some n => match M[id]? with
      | some (some old) =>
        let k := Nat.min n len
        if sz' = sz ∧ allI cs ∧ off + len * sz ≤ old.length ∧ k * sz ≤ cs.length then
          some (.x (.flat (.int .i64 k)) (M.set id (some (splice old off (cs.take (k * sz))))) (dirt base id D)) else none
      | _ => none
    | _, _, _ => none
  | .min x y => match x.ev env, y.ev env with
    | .flat (.int k a), .flat (.int k' b) => if k = k' then some (.q (.flat (.int k (if b < a then b else a)))) else none
    | _, _ => none
  | .max x y => match x.ev env, y.ev env with
    | .flat (.int k a), .flat (.int k' b) => if k = k' then some (.q (.flat (.int k (if a < b then b else a)))) else none
    | _, _ => none
  | .clear sz zs x => match x.ev env with
    | .list _ [] _ _ => some (.q (.flat undef))
    | .ms id off len sz' _ => match M[id]? with
      | some (some old) => if sz' = sz ∧ zs.length = sz ∧ off + len * sz ≤ old.length then
          (if len = 0 then some (.q (.flat undef)) else some (.x (.flat undef) (M.set id (some (splice old off (List.replicate len zs).flatten))) (dirt base id D))) else none
      | _ => none
    | _ => none
  | .stop => none
where
  callA (call : Call) (base : Nat) (M : MS) (D : List Nat) (f : Nat) (args : List AV) : Option Out :=
    match call f args M with
    | some (.q v) => some (.q v)
    | some (.x v M' D') => some (.x v M' (D'.filter (· < base) ++ D))
    | none => none

def wantA (env : Env) : Option (Nat × Bool) → Option Bool
  | none => some true
  | some (t, b) => match env t with
    | .flat (.bool c) => some (c == b)
    | .flat (.tuple _) => some false
    | _ => none

/-- Instructions that write nothing, one after the other. -/
def evQ (call : Call) (base : Nat) (M : MS) : List AOp → Env → Option Env
  | [], env => some env
  | o :: r, env => match wantA env o.g with
    | some true => match evI call base env M [] o.i with
      | some (.q v) => evQ call base M r (updO env o.dst v)
      | _ => none
    | some false => evQ call base M r (updO env o.dst (.flat undef))
    | none => none
/-- Instructions, one after the other. -/
def evS (call : Call) (base : Nat) : List AOp → Env → MS → List Nat → Option (Env × MS × List Nat)
  | [], env, M, D => some (env, M, D)
  | o :: r, env, M, D => match wantA env o.g with
    | some true => match evI call base env M D o.i with
      | some (.q v) => evS call base r (updO env o.dst v) M D
      | some (.x v M' D') => evS call base r (updO env o.dst v) M' D'
      | none => none
    | some false => evS call base r (updO env o.dst (.flat undef)) M D
    | none => none

inductive Ex where
  | nrm | exit (id : Nat) | ret
  deriving DecidableEq
def evLoop (f : Env → MS → List Nat → Option (Ex × Env × MS × List Nat)) : Nat → Env → MS → List Nat → Option (Ex × Env × MS × List Nat)
  | 0, _, _, _ => none
  | n + 1, env, M, D => match f env M D with
    | some (.nrm, env, M, D) => evLoop f n env M D
    | r => r
def evAC (call : Call) (base n : Nat) : AC → Env → MS → List Nat → Option (Ex × Env × MS × List Nat)
  | .skip, env, M, D => some (.nrm, env, M, D)
  | .seq a b, env, M, D => match evAC call base n a env M D with
    | some (.nrm, env, M, D) => evAC call base n b env M D
    | r => r
  | .cond c a b, env, M, D => match asBool (c.ev env) with
    | some true => evAC call base n a env M D
    | some false => evAC call base n b env M D
    | none => none
  | .block id a, env, M, D => match evAC call base n a env M D with
    | some (.exit id', env, M, D) => if id' = id then some (.nrm, env, M, D) else some (.exit id', env, M, D)
    | r => r
  | .loop a, env, M, D => evLoop (evAC call base n a) n env M D
  | .exit id, env, M, D => some (.exit id, env, M, D)
  | .ret, env, M, D => some (.ret, env, M, D)
  | .region k ops, env, M, D => match evQ call base M (ops.take k) env with
    | some env => match evS call base (ops.drop k) env M D with
      | some (env, M, D) => some (.nrm, env, M, D)
      | none => none
    | none => none
  | .stop, _, _, _ => none

def rvA (env : Env) (M : MS) : RV → Option AV
  | .t n => some (env n)
  | .cell a agg n => match aview M (env a) with
    | some cs => ldA agg n cs
    | none => none
def resA (env : Env) (M : MS) : List RV → Option (List AV)
  | [] => some []
  | r :: rs => match rvA env M r, resA env M rs with
    | some v, some vs => some (v :: vs)
    | _, _ => none
def tupA : List AV → AV
  | [v] => v
  | vs => .tup vs
/-- How a call ends. -/
def fin (base : Nat) (keep : Bool) (r : AV) (M : MS) (D : List Nat) : Option Out :=
  if keep then some (.x r M D)
  else match frzV base M r with
    | some (r', M') =>
      if isI r' then
        match D with
        | [] => some (.q r')
        | _ => if D.all (fun id => match M'[id]? with | some (some cs) => allI cs | _ => true) then some (.x r' (M'.take base) D) else some (.x r' M' D)
      else none
    | none => none

structure Pr where
  A : Nat → Option AF
  ext : Call
def env0 (args : List AV) : Env := fun t => args.getD t (.flat undef)
def evFn (p : Pr) : Nat → Call
  | 0, _, _, _ => none
  | n + 1, f, args, M => match p.A f with
    | some af => match evAC (evFn p n) M.length n af.body (env0 args) M [] with
      | some (.exit _, _, _, _) => none
      | some (_, env, M', D) => match resA env M' af.res with
        | some vs => fin M.length af.keep (tupA vs) M' D
        | none => none
      | none => none
    | none => p.ext f args M
end Go.Proofs.Ytopiaiibpacmlaa.Av
