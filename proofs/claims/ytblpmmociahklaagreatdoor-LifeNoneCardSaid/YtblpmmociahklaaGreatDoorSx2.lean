/- The evaluator's functions: what an operation gives, off the evaluator's own values and memory. -/
import Derived.Test.YtblpmmociahklaaGreatDoorSx1
namespace Go.Proofs.YtblpmmociahklaaGreatDoor.Sx
open Go

/-- An entry of a map. -/
structure ME where
  key : AV
  val : AV
  born : Nat
  deriving Inhabited

/-- A block of the evaluator's memory. -/
inductive AO where
  | cells (t : TypeId) (cs : List AV) (fx : Bool)
  | map (es : List ME) (clock : Nat)
  | miter (m : Option Nat) (since : Nat) (seen : List Nat) (stepped : Nat)
  | loop (st : LoopState) (pend : Option Code) (tm : Tr AV) (ps : List Tmp) (assign body : Code) (defers : Nat)
  | dfr
  | dead

structure Heap where
  t : Tr AO
  next : Nat

def Heap.get (H : Heap) (b : Nat) : Option AO := H.t.get b
def Heap.put (H : Heap) (b : Nat) (o : AO) : Heap := { H with t := H.t.set b o }
def Heap.new (H : Heap) (o : AO) : Heap := { t := H.t.set H.next o, next := H.next + 1 }

/-- A call that is put off. -/
inductive ADf where
  | fn (f : Fn) (cap args : List AV)
  | mark (b : Nat)

structure St where
  tm : Tr AV
  df : List ADf
  H : Heap

inductive AEx where
  | nrm
  | exit (id : Nat)
  | goto (l : Nat)
  | ret

def tmA (tm : Tr AV) (t : Nat) : AV := match tm.get t with | some v => v | none => undefA

def opd (tm : Tr AV) : Operand → Option AV
  | .tmp t => some (tmA tm t)
  | .const v => toA v
  | .global g => some (.glob g)
  | .func f => some (.fn (.func f) [] [])

def opds (tm : Tr AV) : List Operand → Option (List AV)
  | [] => some []
  | x :: xs => match opd tm x with | some v => (match opds tm xs with | some vs => some (v :: vs) | none => none) | none => none

def optL : Option Operand → List Operand | some x => [x] | none => []

/-- An operation's operands, in a fixed order. -/
def opnds : Op → List Operand
  | .alloc _ | .ready _ | .waits _ => []
  | .move x | .assign x | .box _ x | .load _ x | .nilCheck x | .unOp _ _ x | .convert _ _ x | .sliceToArrayPointer _ x | .makeInterface _ x
  | .makeChan _ x | .fieldAddr _ x _ | .field _ x _ | .range _ x | .next x _ | .entry x | .typeAssert x _ _ _ | .extract x _ | .panic x | .recv _ x _ => [x]
  | .pick c a b => [c, a, b]
  | .build _ ps | .buildSlice _ _ ps => ps.toList.map (·.2)
  | .store _ a v | .binOp _ _ a v _ | .makeSlice _ a v | .indexAddr _ a v | .index _ a v | .lookup _ a v _ | .mapEntry _ a v | .send a v => [a, v]
  | .makeFunc _ first captured => first.toList ++ captured.toList
  | .makeMap _ r => optL r
  | .slice _ x l h m => x :: (optL l ++ optL h ++ optL m)
  | .mapUpdate _ m k v | .entryStore _ m k v | .insert _ m k v => [m, k, v]
  | .call c | .go c | .defer c => (match c.callee with | .value f => [f] | .invoke r _ => [r] | .builtin _ => []) ++ c.args.toList
  | .select _ _ => []

def leaf : AV → Bool
  | .agg _ | .tup _ => false
  | _ => true
def cellsA : AV → List AV
  | .agg cs => cs
  | v => [v]

def isAggT (P : Program) (t : TypeId) : Option Bool :=
  match P.underlying t with
  | some (.struct _) => some true
  | some (.array _ _) => some true
  | some _ => some false
  | none => none
def sizeT (P : Program) (t : TypeId) : Option Nat := match P.info? t with | some i => some i.size | none => none
def zeroT (P : Program) (t : TypeId) : Option AV :=
  match P.info? t with
  | some i => (match i.zero with | some z => toA z | none => none)
  | none => none

def inKind (k : IntKind) (n : Int) : Bool :=
  match k with
  | .i64 => decide (-9223372036854775808 ≤ n) && decide (n ≤ 9223372036854775807)
  | .u8 => decide (0 ≤ n) && decide (n ≤ 255)
  | .u64 => decide (0 ≤ n) && decide (n ≤ 18446744073709551615)
  | .i32 => decide (-2147483648 ≤ n) && decide (n ≤ 2147483647)
  | _ => false
def wrapF (k : IntKind) (n : Int) : Int := if inKind k n then n else k.wrap n

def partF (P : Program) (t : TypeId) (cs : List AV) (off : Nat) : Option AV :=
  match isAggT P t with
  | some true => (match sizeT P t with | some n => some (.agg ((cs.drop off).take n)) | none => none)
  | some false => cs[off]?
  | none => none

def lessB : List UInt8 → List UInt8 → Bool
  | _, [] => false
  | [], _ :: _ => true
  | a :: x, b :: y => a < b || (a == b && lessB x y)

def strOp (op : BinOp) (x y : List UInt8) : Option AV :=
  match op with
  | .add => if x.length + y.length < 4294967296 then some (.str (x ++ y)) else none
  | .eql => some (.bool (x == y))
  | .neq => some (.bool !(x == y))
  | .lss => some (.bool (lessB x y))
  | .leq => some (.bool (lessB x y || x == y))
  | .gtr => some (.bool !(lessB x y || x == y))
  | .geq => some (.bool !(lessB x y))
  | _ => none

def intOp (op : BinOp) (k : IntKind) (x y : Int) : Option AV :=
  match op with
  | .add => some (.int k (wrapF k (x + y)))
  | .sub => some (.int k (wrapF k (x - y)))
  | .mul => some (.int k (wrapF k (x * y)))
  | .quo => if y = 0 then none else some (.int k (wrapF k (x.tdiv y)))
  | .rem => if y = 0 then none else some (.int k (x.tmod y))
  | .and => some (.int k (k.wrap (BitVec.ofInt k.bits x &&& BitVec.ofInt k.bits y).toNat))
  | .or => some (.int k (k.wrap (BitVec.ofInt k.bits x ||| BitVec.ofInt k.bits y).toNat))
  | .xor => some (.int k (k.wrap (BitVec.ofInt k.bits x ^^^ BitVec.ofInt k.bits y).toNat))
  | .andNot => some (.int k (k.wrap (BitVec.ofInt k.bits x &&& ~~~ (BitVec.ofInt k.bits y)).toNat))
  | .eql => some (.bool (x == y))
  | .neq => some (.bool (x != y))
  | .lss => some (.bool (decide (x < y)))
  | .leq => some (.bool (decide (x ≤ y)))
  | .gtr => some (.bool (decide (x > y)))
  | .geq => some (.bool (decide (x ≥ y)))
  | _ => none

/-- '==' at a type. -/
def eqF (P : Program) : Nat → TypeId → AV → AV → Option Bool
  | 0, _, _, _ => none
  | d + 1, t, x, y =>
    match P.underlying t with
    | none => none
    | some u =>
      match u, x, y with
      | .bool, .bool a, .bool b => some (a == b)
      | .int _, .int k a, .int k' b => if k = k' then some (a == b) else none
      | .string, .str a, .str b => some (a == b)
      | .pointer _, .nilp, .nilp => some true
      | .pointer _, .nilp, .ptr _ _ => some false
      | .pointer _, .ptr _ _, .nilp => some false
      | .pointer e, .ptr a i, .ptr b j => if a = b then (match sizeT P e with | some (_ + 1) => some (i == j) | _ => none) else none
      | .interface _, .nili, .nili => some true
      | .interface _, .nili, .ifc _ _ => some false
      | .interface _, .ifc _ _, .nili => some false
      | .interface _, .ifc tx vx, .ifc ty vy =>
        if tx ≠ ty then some false
        else match P.info? tx with
          | some i => if i.comparable then eqF P d tx vx vy else none
          | none => none
      | .struct fs, .agg xs, .agg ys =>
        if P.stoodInHeld t then none else
        fs.toList.foldr (fun f k =>
          if f.name ≠ "_" then
            match partF P f.type xs f.offset, partF P f.type ys f.offset with
            | some a, some b => (match eqF P d f.type a b with | some true => k | some false => some false | none => none)
            | _, _ => none
          else k) (some true)
      | .slice _, .nils, .nils => some true
      | .slice _, .nils, .slc _ _ _ _ _ => some false
      | .slice _, .slc _ _ _ _ _, .nils => some false
      | .map _ _, .nilm, .nilm => some true
      | .map _ _, .nilm, .map _ => some false
      | .map _ _, .map _, .nilm => some false
      | .func _ _ _, .nilf, .nilf => some true
      | .func _ _ _, .nilf, .fn _ _ _ => some false
      | .func _ _ _, .fn _ _ _, .nilf => some false
      | _, _, _ => none

def isConstO : Operand → Bool | .const _ => true | _ => false

/-- No nil pair of an interface type with methods is compared. -/
def guardF (P : Program) (t : TypeId) (x y : Operand) (a b : AV) : Bool :=
  match a, b with
  | .nili, .nili => isConstO x || isConstO y
  | .agg _, .agg _ => !(P.eqGuardType P.depth t)
  | .sym _, _ => false
  | _, .sym _ => false
  | _, _ => true

def binF (P : Program) (op : BinOp) (t : TypeId) (xo yo : Operand) (x y : AV) : Option AV :=
  match op, x, y with
  | .shl, .int k a, .int _ b => if b < 0 then none else some (.int k (wrapF k (a * 2 ^ (min b.toNat k.bits))))
  | .shr, .int k a, .int _ b => if b < 0 then none else some (.int k (a.fdiv (2 ^ (min b.toNat k.bits))))
  | op, .int k a, .int k' b => if k = k' then intOp op k a b else none
  | op, .str a, .str b => strOp op a b
  | .eql, x, y => if guardF P t xo yo x y then (match eqF P 40 t x y with | some r => some (.bool r) | none => none) else none
  | .neq, x, y => if guardF P t xo yo x y then (match eqF P 40 t x y with | some r => some (.bool !r) | none => none) else none
  | _, _, _ => none

def unF (op : UnOp) (x : AV) : Option AV :=
  match op, x with
  | .neg, .int k n => some (.int k (wrapF k (0 - n)))
  | .not, .bool b => some (.bool !b)
  | .xor, .int k n => some (.int k (k.wrap (BitVec.ofInt k.bits (if k.signed then -1 else k.max) ^^^ BitVec.ofInt k.bits n).toNat))
  | _, _ => none

/-- 'fill' of the machine's. -/
def fillF (place : Nat → Option (Nat × Nat)) (cells : List AV) : List (Nat × AV) → Option (List AV)
  | [] => some cells
  | (i, v) :: rest =>
    match place i with
    | none => none
    | some (off, size) =>
      if (cellsA v).length ≠ size || decide (off + (cellsA v).length > cells.length) then none
      else fillF place ((cellsA v).zipIdx.foldl (fun cs (c, j) => cs.set (off + j) c) cells) rest

def placesF (P : Program) : List Field → Option (List (Nat × Nat))
  | [] => some []
  | f :: fs => match sizeT P f.type with | some n => (match placesF P fs with | some l => some ((f.offset, n) :: l) | none => none) | none => none

def buildF (P : Program) (t : TypeId) (parts : List (Nat × AV)) : Option AV :=
  match zeroT P t with
  | none => none
  | some z =>
    match P.underlying t with
    | some (.struct fs) =>
      (match placesF P fs.toList with
       | some l => (match fillF (fun i => l[i]?) (cellsA z) parts with | some cs => some (.agg cs) | none => none)
       | none => none)
    | some (.array _ e) =>
      (match sizeT P e with
       | some n => (match fillF (fun i => some (i * n, n)) (cellsA z) parts with | some cs => some (.agg cs) | none => none)
       | none => none)
    | _ => none

/-- Where a slice is cut: low, high, most. -/
def boundF (x : AV) (y : Nat) : Option Nat :=
  match x with
  | .int _ i => if 0 ≤ i ∧ i ≤ (y : Int) then some i.toNat else none
  | _ => none

structure Cuts where
  l : Option AV
  h : Option AV
  m : Option AV

/-- The operands of a slice, given back to their places. -/
def cutsF (lo hi mx : Bool) (xs : List AV) : Option Cuts :=
  match lo, hi, mx, xs with
  | false, false, false, [] => some ⟨none, none, none⟩
  | true, false, false, [l] => some ⟨some l, none, none⟩
  | false, true, false, [h] => some ⟨none, some h, none⟩
  | true, true, false, [l, h] => some ⟨some l, some h, none⟩
  | false, true, true, [h, m] => some ⟨none, some h, some m⟩
  | true, true, true, [l, h, m] => some ⟨some l, some h, some m⟩
  | _, _, _, _ => none

def boundsF (len cap : Nat) (c : Cuts) : Option (Nat × Nat × Nat) :=
  match (match c.m with | some v => boundF v cap | none => some cap) with
  | none => none
  | some m =>
    match (match c.h with | some v => boundF v m | none => some len) with
    | none => none
    | some h =>
      match (match c.l with | some v => boundF v h | none => some 0) with
      | none => none
      | some l => some (l, h, m)

def sliceF (P : Program) (t : TypeId) (x : AV) (c : Cuts) : Option AV :=
  match P.underlying t, x with
  | some (.array n e), .ptr b o =>
    (match boundsF n n c, sizeT P e with
     | some (l, h, m), some s => if c.m.isSome && c.h.isNone then none else some (.slc b (o + l * s) (h - l) (m - l) none)
     | _, _ => none)
  | some .string, .str s =>
    (match c.m with
     | some _ => none
     | none => match boundsF s.length s.length c with | some (l, h, _) => some (.str ((s.drop l).take (h - l))) | none => none)
  | some (.slice e), .slc b o len cap es =>
    (match boundsF len cap c, sizeT P e with
     | some (l, h, m), some s =>
       if c.m.isSome && c.h.isNone then none else
       if c.m.isSome then some (.slc b (o + l * s) (h - l) (m - l) none)
       else (match es with
         | none => some (.slc b (o + l * s) (h - l) (m - l) none)
         | some s' => if s' = s then some (.slc b (o + l * s) (h - l) (m - l) (some s)) else none)
     | _, _ => none)
  | some (.slice e), .nils =>
    (match boundsF 0 0 c, sizeT P e with
     | some _, some _ => if c.m.isSome && c.h.isNone then none else some .nils
     | _, _ => none)
  | _, _ => none

def maxF : AV → List AV → Option AV
  | a, [] => some a
  | .int k x, .int k' y :: rest => if k = k' then maxF (.int k (if y > x then y else x)) rest else none
  | _, _ => none
def minF : AV → List AV → Option AV
  | a, [] => some a
  | .int k x, .int k' y :: rest => if k = k' then minF (.int k (if y < x then y else x)) rest else none
  | _, _ => none

inductive Cls where
  | pure | read | alloc | big
  deriving DecidableEq

def clsOf (P : Program) (o : Op) : Cls :=
  match o with
  | .move _ | .assign _ | .pick _ _ _ | .build _ _ | .nilCheck _ | .binOp _ _ _ _ _ | .unOp _ _ _ | .makeInterface _ _ | .makeFunc _ _ _
  | .slice _ _ _ _ _ | .fieldAddr _ _ _ | .field _ _ _ | .indexAddr _ _ _ | .index _ _ _ | .typeAssert _ _ _ _ | .extract _ _ => .pure
  | .convert s d _ => (match P.underlying s, P.underlying d with | some (.slice _), some .string => .read | some (.slice _), some (.slice _) => .big | some .string, some (.slice _) => .big | some (.pointer _), some .unsafePointer => .read | some .unsafePointer, some (.pointer _) => .read | _, _ => .pure)
  | .load _ _ | .lookup _ _ _ _ | .entry _ => .read
  | .alloc _ | .box _ _ | .buildSlice _ _ _ | .makeMap _ _ | .makeSlice _ _ _ => .alloc
  | .call c =>
    (match c.callee with
     | .builtin .len => (match c.argTypes[0]? with | some t => (match P.underlying t with | some (.map _ _) => .read | _ => .pure) | none => .pure)
     | .builtin .max | .builtin .min | .builtin .cap | .builtin .unsafeSliceData => .pure
     | _ => .big)
  | _ => .big

/-- Built-in functions off their operands alone. -/
def biF (P : Program) (b : Builtin) (at0 : Option TypeId) (xs : List AV) : Option AV :=
  match b, xs with
  | .len, [x] =>
    (match at0 with
     | some t =>
       (match P.underlying t, x with
        | some .string, .str s => some (.int .i64 (s.length : Nat))
        | some (.array n _), _ => some (.int .i64 n)
        | some (.slice _), .slc _ _ n _ _ => some (.int .i64 n)
        | some (.slice _), .nils => some (.int .i64 0)
        | _, _ => none)
     | none => none)
  | .cap, [x] =>
    (match at0 with
     | some t =>
       (match P.underlying t, x with
        | some (.slice _), .slc _ _ _ n none => some (.int .i64 n)
        | some (.slice _), .nils => some (.int .i64 0)
        | some (.array n _), _ => some (.int .i64 n)
        | _, _ => none)
     | none => none)
  | .unsafeSliceData, [x] =>
    (match x with
     | .nils => some .nilp
     | .slc b o (_ + 1) _ _ => some (.ptr b o)
     | _ => none)
  | .max, x :: rest => maxF x rest
  | .min, x :: rest => minF x rest
  | _, _ => none

/-- Operations off their operands alone. -/
def pureF (P : Program) (o : Op) (xs : List AV) : Option AV :=
  match o, xs with
  | .move _, [x] => some x
  | .assign _, [x] => some x
  | .pick _ _ _, [.bool c, a, b] => some (if c then a else b)
  | .build t ps, xs => buildF P t ((ps.toList.map (·.1)).zip xs)
  | .nilCheck _, [x] =>
    (match x with
     | .nilp | .nili | .nilf => none
     | .fn (.method _) _ _ => none
     | .sym _ | .any => none
     | x => some x)
  | .binOp op t xo yo _, [x, y] => binF P op t xo yo x y
  | .unOp op _ _, [x] => unF op x
  | .convert s d _, [x] =>
    (match P.underlying s, P.underlying d, x with
     | some _, some (.int k), .int _ n => some (.int k (wrapF k n))
     | some _, some .string, .str s => some (.str s)
     | _, _, _ => none)
  | .makeInterface t _, [x] =>
    (match P.underlying t with
     | some (.interface _) => none
     | some _ => some (.ifc t x)
     | none => none)
  | .makeFunc f first _, xs => if Fn.plain f then some (.fn f (xs.take first.size) (xs.drop first.size)) else none
  | .slice t _ l h m, x :: cs =>
    (match cutsF l.isSome h.isSome m.isSome cs with
     | some c => sliceF P t x c
     | none => none)
  | .fieldAddr t _ f, [x] =>
    (match P.underlying t, x with
     | some (.struct fs), .ptr b o =>
       (match fs.toList[f]? with
        | some fd => (match sizeT P fd.type with | some 0 => none | some _ => some (.ptr b (o + fd.offset)) | none => none)
        | none => none)
     | _, _ => none)
  | .field t _ f, [x] =>
    (match P.underlying t, x with
     | some (.struct fs), .agg cs => (match fs.toList[f]? with | some fd => partF P fd.type cs fd.offset | none => none)
     | _, _ => none)
  | .indexAddr t _ _, [x, .int _ i] =>
    (match P.underlying t, x with
     | some (.array n e), .ptr b o => (match sizeT P e with | some s => if 0 ≤ i ∧ i < (n : Int) then some (.ptr b (o + i.toNat * s)) else none | none => none)
     | some (.slice e), .slc b o len _ _ => (match sizeT P e with | some s => if 0 ≤ i ∧ i < (len : Int) then some (.ptr b (o + i.toNat * s)) else none | none => none)
     | _, _ => none)
  | .index t _ _, [x, .int _ i] =>
    (match P.underlying t, x with
     | some (.array n e), .agg cs => (match sizeT P e with | some s => if 0 ≤ i ∧ i < (n : Int) then partF P e cs (i.toNat * s) else none | none => none)
     | some .string, .str s => if 0 ≤ i then (match s[i.toNat]? with | some c => some (.int .u8 c.toNat) | none => none) else none
     | _, _ => none)
  | .typeAssert _ _ t ok, [x] =>
    (match P.underlying t, x with
     | some (.interface _), _ => none
     | some _, .nili => if ok then (match zeroT P t with | some z => some (.tup [z, .bool false]) | none => none) else none
     | some _, .ifc u v =>
       if u = t then some (if ok then .tup [v, .bool true] else v)
       else if ok then (match zeroT P t with | some z => some (.tup [z, .bool false]) | none => none) else none
     | _, _ => none)
  | .extract _ i, [.tup vs] => vs[i]?
  | .call c, xs => (match c.callee with | .builtin b => biF P b c.argTypes[0]? xs | _ => none)
  | _, _ => none

def loadF (P : Program) (t : TypeId) (H : Heap) (b o : Nat) : Option AV :=
  match H.get b with
  | some (.cells _ cs _) =>
    (match isAggT P t with
     | some true =>
       (match sizeT P t with
        | some n => if o + n ≤ cs.length then some (.agg ((cs.drop o).take n)) else none
        | none => none)
     | some false => cs[o]?
     | none => none)
  | _ => none

def bytesF : List AV → Option (List UInt8)
  | [] => some []
  | .int .u8 n :: rest => (match bytesF rest with | some l => some (UInt8.ofNat n.toNat :: l) | none => none)
  | _ :: _ => none

def AV.same : AV → AV → Bool
  | .bool a, .bool b => a == b
  | .int k a, .int l b => k == l && a == b
  | .str a, .str b => a == b
  | .nilp, .nilp | .nils, .nils | .nilm, .nilm | .nilf, .nilf | .nili, .nili => true
  | .ptr a b, .ptr c d => a == c && b == d
  | .glob a, .glob b => a == b
  | .slc a b c d e, .slc a' b' c' d' e' => a == a' && b == b' && c == c' && d == d' && e == e'
  | .map a, .map b => a == b
  | .yld a, .yld b => a == b
  | .sym a, .sym b => a == b
  | .fn f xs ys, .fn g us vs => decide (f = g) && sames xs us && sames ys vs
  | .ifc t x, .ifc u y => t == u && AV.same x y
  | .agg xs, .agg ys => sames xs ys
  | .tup xs, .tup ys => sames xs ys
  | _, _ => false
where
  sames : List AV → List AV → Bool
    | [], [] => true
    | x :: xs, y :: ys => AV.same x y && sames xs ys
    | _, _ => false

/-- Keys that are plain: bools, whole numbers, strings, and structs of these. -/
def plainKey : Nat → AV → Bool
  | _, .bool _ | _, .int _ _ | _, .str _ => true
  | f + 1, .agg cs => cs.all (plainKey f)
  | _, _ => false

def findK (P : Program) (t : TypeId) (k : AV) : List ME → Nat → Option (Option (Nat × AV))
  | [], _ => some none
  | e :: es, i =>
    match eqF P 8 t k e.key with
    | some true => some (some (i, e.val))
    | some false => findK P t k es (i + 1)
    | none => none

/-- A value is a key of a type: a bool, a whole number, a string, or a struct of these. -/
def keyFits (P : Program) : Nat → TypeId → AV → Bool
  | 0, _, _ => false
  | d + 1, t, k =>
    match P.underlying t with
    | some (.int _) => (match k with | .int _ _ => true | _ => false)
    | some .string => (match k with | .str _ => true | _ => false)
    | some .bool => (match k with | .bool _ => true | _ => false)
    | some (.struct fs) =>
      (match k with
       | .agg cs => fs.toList.all fun f => (match partF P f.type cs f.offset with | some a => keyFits P d f.type a | none => false)
       | _ => false)
    | _ => false

def lookupF (P : Program) (t : TypeId) (es : List ME) (k : AV) (ok : Bool) : Option AV :=
  match P.underlying t with
  | some (.map kt et) =>
    if keyFits P 6 kt k then
      match findK P kt k es 0 with
      | some (some (_, v)) => some (if ok then .tup [v, .bool true] else v)
      | some none => (match zeroT P et with | some z => some (if ok then .tup [z, .bool false] else z) | none => none)
      | none => none
    else none
  | _ => none

/-- The length of a map. -/
def lenR (P : Program) (at0 : Option TypeId) (x : AV) (H : Heap) : Option AV :=
  match at0 with
  | some t =>
    (match P.underlying t, x with
     | some (.map _ _), .nilm => some (.int .i64 0)
     | some (.map _ _), .map b => (match H.get b with | some (.map es _) => some (.int .i64 (es.length : Nat)) | _ => none)
     | _, _ => none)
  | none => none

def readF (P : Program) (o : Op) (xs : List AV) (H : Heap) : Option AV :=
  match o, xs with
  | .load t _, [.ptr b off] => loadF P t H b off
  | .lookup t _ _ ok, [m, k] =>
    (match m with
     | .nilm => lookupF P t [] k ok
     | .map b => (match H.get b with | some (.map es _) => lookupF P t es k ok | _ => none)
     | _ => none)
  | .entry _, [.ptr b 0] =>
    (match H.get b with
     | some (.miter (some m) _ (stamp :: _) stepped) =>
       (match H.get m with
        | some (.map es clock) =>
          if clock = stepped then (match es.find? (fun e => e.born == stamp) with | some e => some (.tup [e.key, e.val]) | none => none) else none
        | _ => none)
     | _ => none)
  | .convert s d _, [x] =>
    (match P.underlying s, P.underlying d with
     | some (.slice e), some .string =>
       (match P.underlying e with
        | some (.int .u8) =>
          (match x with
           | .nils => some (.str [])
           | .slc b off len _ _ =>
             (match H.get b with
              | some (.cells _ cs _) => if off + len ≤ cs.length then (match bytesF ((cs.drop off).take len) with | some l => some (.str l) | none => none) else none
              | _ => none)
           | _ => none)
        | _ => none)
     | some (.pointer t), some .unsafePointer =>
       (match x with
        | .nilp => some .nilp
        | .ptr b off =>
          (match H.get b, sizeT P t with
           | some (.cells _ cs _), some (_ + 1) => if off < cs.length then some (.ptr b off) else none
           | _, _ => none)
        | _ => none)
     | some .unsafePointer, some (.pointer u) =>
       (match x with
        | .nilp => some .nilp
        | .ptr b off =>
          (match H.get b, sizeT P u with
           | some (.cells e cs true), some (_ + 1) => if liesAt P P.depth e (cs.length / P.cellsOf e) off u 1 then some (.ptr b off) else none
           | _, _ => none)
        | _ => none)
     | _, _ => none)
  | .call c, [x] => (match c.callee with | .builtin .len => lenR P c.argTypes[0]? x H | _ => none)
  | _, _ => none

def repF (z : List AV) (n : Nat) : Option (List AV) :=
  if z.length = 0 ∧ n ≠ 0 then none else some ((List.range n).map fun i => z.getD (i % z.length) undefA)

/-- What a new block holds, and whether it is a map, or a slice (of so many, with room for so many). -/
inductive NewA where
  | ptr (o : AO)
  | map
  | slc (o : AO) (len cap : Nat)

def NewA.obj : NewA → AO
  | .ptr o => o
  | .map => .map [] 0
  | .slc o _ _ => o
def NewA.val (b : Nat) : NewA → AV
  | .ptr _ => .ptr b 0
  | .map => .map b
  | .slc _ l c => .slc b 0 l c none

def allocF (P : Program) (o : Op) (xs : List AV) : Option NewA :=
  match o, xs with
  | .alloc e, [] => (match zeroT P e with | some z => some (.ptr (.cells e (cellsA z) true)) | none => none)
  | .box e _, [x] => some (.ptr (.cells e (cellsA x) true))
  | .buildSlice t len ps, xs =>
      (match P.underlying t with
       | some (.slice e) =>
         (match sizeT P e with
          | some s =>
            if len * s ≤ 16777216 then
              (match (if len * s = 0 then some [] else (match zeroT P e with | some z => some (cellsA z) | none => none)) with
               | some z => (match repF z (len * s) with
                  | some zs => (match fillF (fun i => some (i * s, s)) zs ((ps.toList.map (·.1)).zip xs) with
                     | some cs => some (.slc (.cells e cs true) len len)
                     | none => none)
                  | none => none)
               | none => none)
            else none
          | none => none)
       | _ => none)
  | .makeMap _ none, [] => some .map
  | .makeMap t (some _), [.int _ _] => (match P.underlying t with | some (.map _ _) => some .map | _ => none)
  | .makeSlice t _ _, [.int _ l, .int _ c] =>
    (match P.underlying t with
     | some (.slice e) =>
       (match P.info? e with
        | some i =>
          if 0 ≤ l ∧ l ≤ c ∧ c ≤ 65536 ∧ i.bytes ≤ 65536 then
            (match (if c.toNat * i.size = 0 then some [] else (match zeroT P e with | some z => some (cellsA z) | none => none)) with
             | some z => (match repF z (c.toNat * i.size) with | some zs => some (.slc (.cells e zs true) l.toNat c.toNat) | none => none)
             | none => none)
          else none
        | none => none)
     | _ => none)
  | _, _ => none

/-- Cells of a block, written from a place on. -/
def setCells : List AV → Nat → List AV → List AV
  | cs, _, [] => cs
  | cs, i, v :: vs => setCells (cs.set i v) (i + 1) vs

def storeF (P : Program) (t : TypeId) (H : Heap) (b o : Nat) (v : AV) : Option Heap :=
  match H.get b with
  | some (.cells e cs fx) =>
    (match sizeT P t with
     | some n =>
       if (cellsA v).length = n ∧ o + n ≤ cs.length ∧ (cellsA v).all leaf then some (H.put b (.cells e (setCells cs o (cellsA v)) fx)) else none
     | none => none)
  | _ => none

/-- The first cells of what is appended. -/
def srcF (s n : Nat) (H : Heap) : AV → Option (List AV)
  | .nils => some []
  | .str l => some ((l.take n).map fun c => .int .u8 c.toNat)
  | .slc b o _ _ _ =>
    (match H.get b with
     | some (.cells _ cs _) => if o + n * s ≤ cs.length then some ((cs.drop o).take (n * s)) else none
     | _ => none)
  | _ => none
def lenF : AV → Option Nat
  | .nils => some 0
  | .slc _ _ n _ _ => some n
  | .str l => some l.length
  | _ => none

def isSrcT : TypeDesc → Bool
  | .slice _ | .string => true
  | _ => false

def appendF (P : Program) (c : Call) (x y : AV) (H : Heap) : Option (AV × Heap) :=
  match c.argTypes[0]?, c.argTypes[1]? with
  | some t, some u =>
    (match P.underlying t, P.underlying u with
     | some (.slice e), some ud =>
       (if isSrcT ud = false then none else
         match P.info? e, lenF y, zeroT P e with
         | some i, some n, some z =>
           (match srcF i.size n H y with
            | none => none
            | some new =>
              if i.bytes ≤ 65536 ∧ n ≤ 65536 ∧ (cellsA z).length = i.size ∧ new.length = n * i.size ∧ new.all leaf then
                match x with
                | .nils => if n = 0 then some (.nils, H) else some (.slc H.next 0 n n (some i.size), H.new (.cells e new false))
                | .slc b o len cap es =>
                  (match H.get b with
                   | some (.cells e' cs fx) =>
                     if len ≤ 65536 then
                       if len + n ≤ cap then
                         if o + (len + n) * i.size ≤ cs.length ∧ new.length = n * i.size then some (.slc b o (len + n) cap es, H.put b (.cells e' (setCells cs (o + len * i.size) new) fx)) else none
                       else
                         if o + len * i.size ≤ cs.length ∧ new.length = n * i.size then
                           match es with
                           | none => some (.slc H.next 0 (len + n) (len + n) (some i.size), H.new (.cells e ((cs.drop o).take (len * i.size) ++ new) false))
                           | some s' => if s' = i.size ∧ e' = e then some (.slc H.next 0 (len + n) (len + n) (some i.size), (H.new (.cells e' ((cs.drop o).take (len * i.size) ++ new) false)).put b .dead) else none
                         else none
                     else none
                   | _ => none)
                | _ => none
              else none)
         | _, _, _ => none)
     | _, _ => none)
  | _, _ => none

def copyF (P : Program) (c : Call) (x y : AV) (H : Heap) : Option (AV × Heap) :=
  match c.argTypes[0]? with
  | some t =>
    (match P.underlying t with
     | some (.slice e) =>
       (match sizeT P e, lenF y with
        | some s, some m =>
          (match x with
           | .nils => some (.int .i64 0, H)
           | .slc b o len _ _ =>
             let n := min m len
             (match srcF s n H y, H.get b with
              | some new, some (.cells e' cs fx) =>
                if o + n * s ≤ cs.length ∧ new.length = n * s ∧ new.all leaf then some (.int .i64 n, H.put b (.cells e' (setCells cs o new) fx)) else none
              | _, _ => none)
           | _ => none)
        | _, _ => none)
     | _ => none)
  | none => none

/-- A string off a place: the bytes' block is not written any more. -/
def unsF (P : Program) (c : Call) (x : AV) (n : Int) (H : Heap) : Option (AV × Heap) :=
  match x with
  | .nilp => if n = 0 then some (.str [], H) else none
  | .ptr b o =>
    if n = 0 then some (.str [], H)
    else if 0 ≤ n ∧ n ≤ 65536 then
      (match H.get b, c.argTypes[0]? with
       | some (.cells e cs _), some pt =>
         (match P.underlying pt, P.underlying e, sizeT P e with
          | some (.pointer u), some (.int .u8), some 1 =>
            if e = u ∧ o + n.toNat ≤ cs.length then (match bytesF ((cs.drop o).take n.toNat) with | some l => some (.str l, H.put b .dead) | none => none) else none
          | _, _, _ => none)
       | _, _ => none)
    else none
  | _ => none

def updF (P : Program) (t : TypeId) (es : List ME) (clock : Nat) (k v : AV) : Option (List ME × Nat) :=
  match P.underlying t with
  | some (.map kt _) =>
    if keyFits P 6 kt k then
      match findK P kt k es 0 with
      | some (some (i, _)) => (match es[i]? with | some e => if AV.same e.key k && plainKey 6 k then some (es.modify i fun e => { e with key := k, val := v }, clock) else none | none => none)
      | some none => some (es ++ [{ key := k, val := v, born := clock }], clock + 1)
      | none => none
    else none
  | _ => none

def entF (P : Program) (t : TypeId) (es : List ME) (clock : Nat) (k : AV) : Option (AV × Nat × List ME × Nat) :=
  match P.underlying t with
  | some (.map kt et) =>
    if keyFits P 6 kt k then
      match findK P kt k es 0 with
      | some (some (i, v)) => (match es[i]? with | some e => if AV.same e.key k && plainKey 6 k then some (v, e.born, es.modify i fun e => { e with key := k }, clock) else none | none => none)
      | some none => (match zeroT P et with | some z => some (z, clock, es ++ [{ key := k, val := z, born := clock }], clock + 1) | none => none)
      | none => none
    else none
  | _ => none

def setBorn (st : Int) (v : AV) : List ME → Option (List ME)
  | [] => none
  | e :: es => if (e.born : Int) == st then some ({ e with val := v } :: es) else (match setBorn st v es with | some es' => some (e :: es') | none => none)

def delF (P : Program) (t : TypeId) (es : List ME) (k : AV) : Option (List ME) :=
  match P.underlying t with
  | some (.map kt _) =>
    if keyFits P 6 kt k then
      match findK P kt k es 0 with
      | some (some (i, _)) => some (es.eraseIdx i)
      | some none => some es
      | none => none
    else none
  | _ => none

inductive Out where
  | val (v : AV) (H : Heap)
  | skip (H : Heap)
  | dfr (d : ADf)
  | enter (f : FuncId) (args : List AV)
  | round (b : Nat) (args : List AV)

def callF (P : Program) (f : AV) (args : List AV) : Option Out :=
  match f with
  | .fn (.func k) first cap => some (.enter k (first ++ args ++ cap))
  | .yld b => some (.round b args)
  | _ => none

def bigF (P : Program) (o : Op) (xs : List AV) (H : Heap) : Option Out :=
  match o, xs with
  | .store t _ _, [.ptr b off, v] => (match storeF P t H b off v with | some H' => some (.skip H') | none => none)
  | .mapUpdate t _ _ _, [.map b, k, v] | .insert t _ _ _, [.map b, k, v] =>
    (match H.get b with
     | some (.map es clock) => (match updF P t es clock k v with | some (es', c') => some (.skip (H.put b (.map es' c'))) | none => none)
     | _ => none)
  | .mapEntry t _ _, [.map b, k] =>
    (match H.get b with
     | some (.map es clock) => (match entF P t es clock k with | some (v, st, es', c') => some (.val (.tup [v, .int .i64 (st : Nat)]) (H.put b (.map es' c'))) | none => none)
     | _ => none)
  | .entryStore _ _ _ _, [.map b, .int _ st, v] =>
    (match H.get b with
     | some (.map es clock) => (match setBorn st v es with | some es' => some (.skip (H.put b (.map es' clock))) | none => none)
     | _ => none)
  | .range t _, [x] =>
    (match P.underlying t, x with
     | some (.map _ _), .nilm => some (.val (.ptr H.next 0) (H.new (.miter none 0 [] 0)))
     | some (.map _ _), .map b => (match H.get b with | some (.map _ clock) => some (.val (.ptr H.next 0) (H.new (.miter (some b) clock [] clock))) | _ => none)
     | _, _ => none)
  | .next _ false, [.ptr b 0] =>
    (match H.get b with
     | some (.miter none _ _ _) => some (.val (.tup [.bool false]) H)
     | some (.miter (some m) since seen last) =>
       (match H.get m with
        | some (.map es clock) =>
          if !seen.isEmpty && !es.isEmpty && es.all (fun e => decide (e.born ≥ last)) then none else
          (match es.filter (fun e => !seen.contains e.born) with
           | [] => some (.val (.tup [.bool false]) H)
           | [e] => if e.born < since then some (.val (.tup [.bool true, e.key, e.val]) (H.put b (.miter (some m) since (e.born :: seen) clock))) else none
           | _ => none)
        | _ => none)
     | _ => none)
  | .call c, xs =>
    (match c.callee, xs with
     | .value _, f :: args => callF P f args
     | .builtin .append, [x, y] => (match appendF P c x y H with | some (v, H') => some (.val v H') | none => none)
     | .builtin .copy, [x, y] => (match copyF P c x y H with | some (v, H') => some (.val v H') | none => none)
     | .builtin .unsafeString, [x, .int _ n] => if c.argTypes.size = 0 then none else (match unsF P c x n H with | some (v, H') => some (.val v H') | none => none)
     | .builtin .delete, [m, k] =>
       (match c.argTypes[0]?, m with
        | some t, .map b =>
          (match H.get b with
           | some (.map es clock) => (match delF P t es k with | some es' => some (.val undefA (H.put b (.map es' clock))) | none => none)
           | _ => none)
        | _, _ => none)
     | _, _ => none)
  | .convert s d _, [.str l] =>
    (match P.underlying s, P.underlying d with
     | some .string, some (.slice e) =>
       (match P.underlying e with
        | some (.int .u8) => if l.length ≤ 65536 then some (.val (.slc H.next 0 l.length l.length (some 1)) (H.new (.cells e (l.map fun c => .int .u8 c.toNat) false))) else none
        | _ => none)
     | _, _ => none)
  | .convert s d _, [.slc b o len cap es] =>
    (match P.underlying s, P.underlying d, H.get b with
     | some (.slice _), some (.slice e), some (.cells _ _ _) =>
       (match P.underlying e with
        | some (.int .u8) => if s = d then some (.val (.slc b o len cap es) H) else none
        | _ => none)
     | _, _, _ => none)
  | .defer c, xs =>
    (match c.callee, xs with
     | .value _, .fn g first cap :: args => some (.dfr (.fn g cap (first ++ args)))
     | _, _ => none)
  | _, _ => none

/-! ### Statements -/

/-- Whether a guarded operation is wanted. -/
def wantF (ops : List Oper) (tm : Tr AV) : Option (Nat × Bool) → Option Bool
  | none => some true
  | some (j, w) =>
    match ops[j]? with
    | some oj =>
      (match oj.dst with
       | some d => (match tm.get d with | some (.bool b) => some (b == w) | some (.tup _) => some false | none => some false | _ => none)
       | none => some false)
    | none => some false

def putT (tm : Tr AV) (d : Option Tmp) (v : AV) : Tr AV := match d with | some t => tm.set t v | none => tm

/-- The calls that the evaluator makes: a function's, a round's, a function's that was put off. -/
inductive How where
  | fn | rd | dn
abbrev CallF := How → Nat → List AV → Heap → Option (AV × Heap)

def outF (call : CallF) (d : Option Tmp) (s : St) : Out → Option St
  | .val v H => some { s with tm := putT s.tm d v, H := H }
  | .skip H => some { s with tm := putT s.tm d undefA, H := H }
  | .dfr x => some { s with tm := putT s.tm d undefA, df := x :: s.df }
  | .enter f args => (match call .fn f args s.H with | some (v, H) => some { s with tm := putT s.tm d v, H := H } | none => none)
  | .round b args => (match call .rd b args s.H with | some (v, H) => some { s with tm := putT s.tm d v, H := H } | none => none)

def opF (P : Program) (call : CallF) (o : Oper) (s : St) : Option St :=
  match opds s.tm (opnds o.op) with
  | none => none
  | some xs =>
    match clsOf P o.op with
    | .pure => (match pureF P o.op xs with | some v => some { s with tm := putT s.tm o.dst v } | none => none)
    | .read => (match readF P o.op xs s.H with | some v => some { s with tm := putT s.tm o.dst v } | none => none)
    | .alloc => (match allocF P o.op xs with | some a => some { s with tm := putT s.tm o.dst (a.val s.H.next), H := s.H.new a.obj } | none => none)
    | .big => (match bigF P o.op xs s.H with | some r => outF call o.dst s r | none => none)

def seqF (P : Program) (call : CallF) (all : List Oper) : List Oper → St → Option St
  | [], s => some s
  | o :: rest, s =>
    match wantF all s.tm o.guard with
    | some true => (match opF P call o s with | some s' => seqF P call all rest s' | none => none)
    | some false => seqF P call all rest { s with tm := putT s.tm o.dst undefA }
    | none => none

/-! ### A statement whose order is open -/

/-- Those ahead of each operation, as bits. -/
def aheadL : List Oper → List Nat → List Nat
  | [], acc => acc
  | o :: rest, acc => aheadL rest (acc ++ [o.after.foldl (fun s e => if Region.binds .any e then s ||| 2 ^ e.on ||| acc.getD e.on 0 else s) 0])

/-- A read that is held against later memories. -/
structure Wt where
  i : Nat
  op : Op
  xs : List AV
  v : AV

/-- What has been done at an operation. -/
inductive Kd where
  | off
  | pure (xs : List AV)
  | read (xs : List AV)
  | alloc (xs : List AV) (a : NewA)
  | big (xs : List AV) (pend : List (Nat × Nat × AO)) (reg : Heap) (s' : St)

structure Dr where
  tm : Tr AV
  H : Heap
  snaps : List Heap
  bigs : List Nat
  pend : List (Nat × Nat × AO)
  wts : List Wt
  log : List (Kd × AV)

def regP (m : Nat) : List (Nat × Nat × AO) → Heap → Heap × List (Nat × Nat × AO)
  | [], H => (H, [])
  | (i, b, o) :: rest, H =>
    if m.testBit i then regP m rest (H.put b o)
    else match regP m rest H with | (H', l) => (H', (i, b, o) :: l)

def holdW (P : Program) (H : Heap) (ws : List Wt) : Bool :=
  ws.all fun w => match readF P w.op w.xs H with | some v => AV.same v w.v | none => false

/-- A read's value in each of some memories. -/
def readAll (P : Program) (o : Op) (xs : List AV) (v : AV) : List Heap → Bool
  | [] => true
  | H :: Hs => (match readF P o xs H with | some u => AV.same u v | none => false) && readAll P o xs v Hs

/-- How many of the great ones are not ahead. -/
def behind (m : Nat) (bigs : List Nat) : Nat := (bigs.filter fun b => !m.testBit b).length

def bigV (o : Oper) (s' : St) : AV := match o.dst with | some d => tmA s'.tm d | none => undefA

def drawF (P : Program) (call : CallF) (all : List Oper) (base : Nat) : Nat → List (Oper × Nat) → Dr → Option Dr
  | _, [], s => some s
  | i, (o, m) :: rest, s =>
    match wantF all s.tm o.guard with
    | none => none
    | some false => drawF P call all base (i + 1) rest { s with tm := putT s.tm o.dst undefA, log := (.off, undefA) :: s.log }
    | some true =>
      match opds s.tm (opnds o.op) with
      | none => none
      | some xs =>
        match clsOf P o.op with
        | .pure => (match pureF P o.op xs with | some v => drawF P call all base (i + 1) rest { s with tm := putT s.tm o.dst v, log := (.pure xs, v) :: s.log } | none => none)
        | .read =>
          (match readF P o.op xs s.H with
           | some v =>
             if readAll P o.op xs v (s.snaps.take (behind m s.bigs + 1)) then
               drawF P call all base (i + 1) rest { s with tm := putT s.tm o.dst v, wts := { i := i, op := o.op, xs := xs, v := v } :: s.wts, log := (.read xs, v) :: s.log }
             else none
           | none => none)
        | .alloc =>
          (match allocF P o.op xs with
           | some a => drawF P call all base (i + 1) rest { s with tm := putT s.tm o.dst (a.val (base + i)), pend := (i, base + i, a.obj) :: s.pend, log := (.alloc xs a, a.val (base + i)) :: s.log }
           | none => none)
        | .big =>
          if s.bigs.all fun b => m.testBit b then
            match bigF P o.op xs (regP m s.pend s.H).1 with
            | some r =>
              (match outF call o.dst { tm := s.tm, df := [], H := (regP m s.pend s.H).1 } r with
               | some s' =>
                 (match s'.df with
                  | [] =>
                    if holdW P s'.H (s.wts.filter fun w => !m.testBit w.i) then
                      drawF P call all base (i + 1) rest
                        { tm := s'.tm, H := s'.H, snaps := s'.H :: s.snaps, bigs := i :: s.bigs, pend := (regP m s.pend s.H).2, wts := s.wts.filter fun w => !m.testBit w.i,
                          log := (.big xs s.pend (regP m s.pend s.H).1 s', bigV o s') :: s.log }
                    else none
                  | _ :: _ => none)
               | none => none)
            | none => none
          else none

/-- Who writes a temporary. -/
def writer (L : List Oper) (t : Tmp) : Option Nat := L.findIdx? fun o => o.dst == some t

/-- The temporaries that an operation looks at. -/
def looks (L : List Oper) (o : Oper) : List Tmp :=
  (opnds o.op).filterMap (fun | .tmp t => some t | _ => none) ++
  (match o.guard with
   | some (g, _) => (match L[g]? with | some og => (match og.dst with | some t => [t] | none => []) | none => [])
   | none => [])

/-- What must hold of a region by its text: each temporary is written once, and whoever looks at one that is written here stands behind its writer. -/
def textOk (L : List Oper) (ms : List Nat) : Bool :=
  (List.range L.length).all fun i =>
    match L[i]?, ms[i]? with
    | some o, some m =>
      decide (m < 2 ^ i) &&
      (match o.dst with | some t => writer L t == some i | none => true) &&
      (looks L o).all (fun t => match writer L t with | none => true | some j => m.testBit j || (ms.getD j 0).testBit i || i == j)
    | _, _ => false

def regionF (P : Program) (call : CallF) (ops : List Oper) (draw : Bool) (s : St) : Option St :=
  if draw then
    if textOk ops (aheadL ops []) then
      match drawF P call ops s.H.next 0 (ops.zip (aheadL ops [])) { tm := s.tm, H := { s.H with next := s.H.next + ops.length }, snaps := [{ s.H with next := s.H.next + ops.length }], bigs := [], pend := [], wts := [], log := [] } with
      | some r => some { tm := r.tm, df := s.df, H := (regP (2 ^ ops.length - 1) r.pend r.H).1 }
      | none => none
    else none
  else seqF P call ops ops s

def isDefer : Op → Bool
  | .defer _ => true
  | _ => false

/-- A function that is walked. -/
def bodied (P : Program) (g : Nat) : Bool := match P.funcs[g]? with | some fn => fn.body.isSome | none => false

/-- Rounds, till one does not end at its end. -/
def loopF (body : St → Option (AEx × St)) : Nat → St → Option (AEx × St)
  | 0, _ => none
  | n + 1, s =>
    match body s with
    | some (.nrm, s') => loopF body n s'
    | r => r

def setPs : Tr AV → List Tmp → List AV → Tr AV
  | tm, p :: ps, v :: vs => setPs (tm.set p v) ps vs
  | tm, _, _ => tm

def codeF (P : Program) (call : CallF) (L : Nat) (rnd : Option Nat) : Code → St → Option (AEx × St)
  | .skip, s => some (.nrm, s)
  | .label _, s => some (.nrm, s)
  | .region _ ops draw, s => if rnd.isSome && ops.toList.any (fun o => isDefer o.op) then none else (match regionF P call ops.toList draw s with | some s' => some (.nrm, s') | none => none)
  | .seq a b, s => (match codeF P call L rnd a s with | some (.nrm, s') => codeF P call L rnd b s' | r => r)
  | .cond c a b, s =>
    (match opd s.tm c with
     | some (.bool true) => codeF P call L rnd a s
     | some (.bool false) => codeF P call L rnd b s
     | _ => none)
  | .block id c, s => (match codeF P call L rnd c s with | some (.exit id', s') => if id' = id then some (.nrm, s') else some (.exit id', s') | r => r)
  | .loop c, s => loopF (codeF P call L rnd c) L s
  | .exit id, s => some (.exit id, s)
  | .goto l, s => some (.goto l, s)
  | .ret, s => some (.ret, s)
  | .rangeFunc f ps assign body, s =>
    (match opd s.tm f with
     | some (.fn (.func g) first cap) =>
       if bodied P g = false then none else
       (match (match rnd with
          | none => some (s.H.next, s.H.new .dfr, [ADf.mark s.H.next])
          | some l => (match s.H.get l with | some (.loop _ _ _ _ _ _ d) => some (d, s.H, []) | _ => none)) with
        | none => none
        | some (d, H, mark) =>
          (match call .fn g (first ++ [.yld H.next] ++ cap) (H.new (.loop .ready none s.tm ps.toList assign body d)) with
           | none => none
           | some (_, H2) =>
             (match H2.get H.next with
              | some (.loop st pend tm ps' assign' body' d') =>
                (match st with
                 | .busy => none
                 | _ =>
                   let s' : St := { s with df := mark ++ s.df, H := H2.put H.next (.loop .exhausted pend tm ps' assign' body' d') }
                   (match pend with
                    | none => some (.nrm, s')
                    | some .ret => some (.ret, s')
                    | some (.exit id) => some (.exit id, s')
                    | some _ => none))
              | _ => none)))
     | _ => none)
  | _, _ => none

def resF (P : Program) (tm : Tr AV) (H : Heap) : ResultVar → Option AV
  | .tmp t => some (tmA tm t)
  | .cell a t => (match tmA tm a with | .ptr b o => loadF P t H b o | _ => none)

def ressF (P : Program) (tm : Tr AV) (H : Heap) : List ResultVar → Option (List AV)
  | [] => some []
  | r :: rs => (match resF P tm H r with | some v => (match ressF P tm H rs with | some vs => some (v :: vs) | none => none) | none => none)

def argsT : Nat → List AV → Tr AV → Tr AV
  | _, [], tm => tm
  | i, v :: vs, tm => argsT (i + 1) vs (tm.set i v)

/-- What a code writes to are temporaries below a number. -/
def dOk (n : Nat) : Code → Bool
  | .region _ ops _ => ops.toList.all fun o => match o.dst with | some d => decide (d < n) | none => true
  | .seq a b => dOk n a && dOk n b
  | .cond _ a b => dOk n a && dOk n b
  | .block _ c => dOk n c
  | .loop c => dOk n c
  | .scope c => dOk n c
  | .rangeFunc _ ps a b => ps.toList.all (fun p => decide (p < n)) && dOk n a && dOk n b
  | _ => true

/-- The calls that were put off, one by one. -/
def leaveF (P : Program) (call : CallF) : List ADf → Heap → Option Heap
  | [], H => some H
  | .mark b :: ds, H => (match H.get b with | some .dfr => leaveF P call ds (H.put b .dead) | _ => none)
  | .fn (.func g) cap args :: ds, H => if bodied P g = false then none else (match call .dn g (args ++ cap) H with | some (_, H') => leaveF P call ds H' | none => none)
  | _ :: _, _ => none

/-- Functions that are not walked: what they give. -/
abbrev Hook := How → Nat → Option (List AV → Heap → Option (AV × Heap))

def retV : List AV → AV
  | [v] => v
  | vs => .tup vs

/-- A round of a loop. -/
def roundF (P : Program) (call : CallF) (L : Nat) (f : Nat) (args : List AV) (H : Heap) : Option (AV × Heap) :=
  match H.get f with
  | some (.loop .ready pend tm ps assign body d) =>
    if args.length = ps.length then
      match codeF P call L (some f) assign { tm := setPs tm ps args, df := [], H := H } with
      | some (.nrm, s1) =>
        (match s1.H.get f with
         | some (.loop .ready pend1 tm1 ps1 as1 bo1 d1) =>
           (match codeF P call L (some f) body { s1 with H := s1.H.put f (.loop .busy pend1 tm1 ps1 as1 bo1 d1) } with
            | some (e, s2) =>
              (match s2.H.get f with
               | some (.loop _ _ tm2 ps2 as2 bo2 d2) =>
                 (match e with
                  | .nrm => some (.bool true, s2.H.put f (.loop .ready none tm2 ps2 as2 bo2 d2))
                  | .ret => some (.bool false, s2.H.put f (.loop .done (some .ret) tm2 ps2 as2 bo2 d2))
                  | .exit id => some (.bool false, s2.H.put f (.loop .done (some (.exit id)) tm2 ps2 as2 bo2 d2))
                  | .goto _ => none)
               | _ => none)
            | none => none)
         | _ => none)
      | _ => none
    else none
  | _ => none

/-- A function's own code. -/
def bodyF (P : Program) (call : CallF) (L : Nat) (dn : Bool) (fn : Func) (c : Code) (args : List AV) (H : Heap) : Option (AV × Heap) :=
  if args.length ≤ fn.ntmps ∧ dOk fn.ntmps c = true then
    match codeF P call L none c { tm := argsT 0 args .e, df := [], H := H } with
    | some (e, s) =>
      (match e with
       | .nrm | .ret =>
         (match (if dn then (match s.df with | [] => some s.H | _ => none) else leaveF P call s.df s.H) with
          | some H' =>
            (match ressF P s.tm H' fn.results.toList with
             | some vs => some (retV vs, H')
             | none => none)
          | none => none)
       | _ => none)
    | none => none
  else none

def ev (P : Program) (hk : Hook) (L : Nat) : Nat → CallF
  | 0 => fun _ _ _ _ => none
  | n + 1 => fun how f args H =>
    match how with
    | .rd => roundF P (ev P hk L n) L f args H
    | how =>
      match hk how f with
      | some g => g args H
      | none =>
        match P.funcs[f]? with
        | some fn =>
          (match fn.body with
           | some c => bodyF P (ev P hk L n) L (match how with | .dn => true | _ => false) fn c args H
           | none => none)
        | none => none
end Go.Proofs.YtblpmmociahklaaGreatDoor.Sx
