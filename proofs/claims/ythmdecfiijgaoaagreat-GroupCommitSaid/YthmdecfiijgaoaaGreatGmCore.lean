/- AM: an abstract machine over the model's own code: a deterministic evaluator in continuation form. AM's memory and the model's: what stands for what. -/
import GoSem.Dispatch
import GoSem.Core.Region
import Derived.Below
import Derived.WalkKit
namespace Go.AM
open Go

/-- Where a slice lies: nowhere (nil); nowhere, and without room (not nil); at an abstract place. -/
inductive SA where
  | nil | zero
  | at (id off z : Nat)
  deriving DecidableEq, Inhabited

/-- A place in a row: the element's begin, how far behind it, the element's cells. -/
structure PA where
  id : Nat
  base : Nat
  d : Nat
  z : Nat
  deriving DecidableEq, Inhabited

inductive AV where
  | bool (b : Bool)
  | int (k : IntKind) (n : Int)
  | str (s : List Int)
  | ptr (a : Option PA)
  | it (id : Nat)
  | sl (a : SA) (len : Nat)
  | map (r : Option Nat)
  | fn (f : Nat) (caps : List AV)
  | nilfn
  | agg (cs : List AV)
  | tup (vs : List AV)
  | bad
  deriving Inhabited

def AV.undef : AV := .tup []

inductive Md where
  | ro | own | multi
  deriving DecidableEq, Inhabited

structure ME where
  key : AV
  val : AV
  born : Nat
  deriving Inhabited

inductive AO where
  | cells (xs : List AV) (esz : Nat) (md : Md)
  | map (es : List ME) (clock : Nat)
  | siter (s : List Int) (pos : Nat)
  | miter (m : Option Nat) (since : Nat) (seen : List Nat) (last : Nat)
  | dead
  deriving Inhabited

abbrev H := List AO
abbrev Fr := List AV

/-! Constants. -/
def bytesL (s : ByteArray) : List Int := s.data.toList.map fun b => (b.toNat : Int)

def ofLeaf : Value → AV
  | .bool b => .bool b
  | .int k n => .int k n
  | .string s => .str (bytesL s)
  | .pointer none => .ptr none
  | .slice none 0 0 => .sl .nil 0
  | .map none => .map none
  | .nilFunc => .nilfn
  | _ => .bad

def ofConst : Value → AV
  | .agg cs => .agg (cs.toList.map ofLeaf)
  | .tuple vs => .tup (vs.toList.map ofLeaf)
  | v => ofLeaf v

def leafOk : Value → Bool
  | .bool _ | .int _ _ | .string _ | .pointer none | .slice none 0 0 | .map none | .nilFunc => true
  | _ => false

def constOk : Value → Bool
  | .agg cs => cs.toList.all leafOk
  | .tuple vs => vs.toList.all leafOk
  | v => leafOk v

def ev (fr : Fr) : Operand → AV
  | .tmp t => fr.getD t .undef
  | .const v => ofConst v
  | .func f => .fn f []
  | .global _ => .bad

def operandOk : Operand → Bool
  | .const v => constOk v
  | .global _ => false
  | _ => true

def notBad : AV → Bool
  | .bad => false
  | _ => true

/-- All operands can be read, and none was forgotten. -/
def opOk (o : Op) (e : Operand → AV) : Bool := o.operands.toList.all fun x => operandOk x && notBad (e x)

/-! Casts: a value by its type; what is handed on begins with its constructor. -/
def asInt (k : IntKind) (v : AV) (K : Int → Bool) : Bool :=
  match v with
  | .int k' n => bif k' == k then K n else false
  | _ => false
def asBool (v : AV) (K : Bool → Bool) : Bool := match v with | .bool b => K b | _ => false
def asStr (v : AV) (K : List Int → Bool) : Bool := match v with | .str s => K s | _ => false
def asPtr (v : AV) (K : Option PA → Bool) : Bool := match v with | .ptr a => K a | _ => false
def asSl (v : AV) (K : SA → Nat → Bool) : Bool := match v with | .sl a n => K a n | _ => false
def asMap (v : AV) (K : Option Nat → Bool) : Bool := match v with | .map r => K r | _ => false
def asFn (v : AV) (K : AV → Bool) : Bool := match v with | .fn f cs => K (.fn f cs) | .nilfn => K .nilfn | _ => false
def asAgg (v : AV) (K : List AV → Bool) : Bool := match v with | .agg cs => K cs | _ => false
def asTup (v : AV) (K : List AV → Bool) : Bool := match v with | .tup cs => K cs | _ => false

def castLeaf (d : TypeDesc) (v : AV) (K : AV → Bool) : Bool :=
  match d with
  | .int k => asInt k v fun n => K (.int k n)
  | .bool => asBool v fun b => K (.bool b)
  | .string => asStr v fun s => K (.str s)
  | .pointer _ => asPtr v fun a => K (.ptr a)
  | .slice _ => asSl v fun a n => K (.sl a n)
  | .map _ _ => asMap v fun r => K (.map r)
  | .func _ _ _ => asFn v K
  | _ => false

def castLeaves : List TypeDesc → List AV → (List AV → Bool) → Bool
  | [], [], K => K []
  | d :: ds, v :: vs, K => castLeaf d v fun v => castLeaves ds vs fun vs => K (v :: vs)
  | _, _, _ => false

/-- The leaves of a type, flattened. -/
def leaves (P : Program) : Nat → TypeId → List TypeDesc
  | 0, _ => []
  | n + 1, t =>
    match P.underlying t with
    | some (.struct fs) => fs.toList.flatMap fun f => leaves P n f.type
    | some (.array len e) => (List.replicate len (leaves P n e)).flatten
    | some d => [d]
    | none => []

def castT (P : Program) (t : TypeId) (v : AV) (K : AV → Bool) : Bool :=
  match P.underlying t with
  | some (.struct _) | some (.array _ _) => asAgg v fun cs => castLeaves (leaves P 9 t) cs fun cs => K (.agg cs)
  | some d => castLeaf d v K
  | none => false

def castTs (P : Program) : List TypeId → List AV → (List AV → Bool) → Bool
  | [], [], K => K []
  | t :: ts, v :: vs, K => castT P t v fun v => castTs P ts vs fun vs => K (v :: vs)
  | _, _, _ => false

/-- What a call gives: a tuple, or one value. -/
def castRes (P : Program) (t : TypeId) (v : AV) (K : AV → Bool) : Bool :=
  match P.underlying t with
  | some (.tuple ts) => asTup v fun vs => castTs P ts.toList vs fun vs => K (.tup vs)
  | _ => castT P t v K

/-! Sameness, for what is read again. -/
def sameLeaf : AV → AV → Bool
  | .bool a, .bool b => a == b
  | .int j a, .int k b => j == k && a == b
  | .str a, .str b => a == b
  | .ptr a, .ptr b => a == b
  | .sl a m, .sl b n => a == b && m == n
  | .map a, .map b => a == b
  | .nilfn, .nilfn => true
  | _, _ => false
def sameL : List AV → List AV → Bool
  | [], [] => true
  | a :: as, b :: bs => sameLeaf a b && sameL as bs
  | _, _ => false
def sameV : AV → AV → Bool
  | .agg as, .agg bs => sameL as bs
  | .tup as, .tup bs => sameL as bs
  | a, b => sameLeaf a b

/-! Arithmetic. -/
def abits (op : BinOp) (k : IntKind) (x y : Int) : Option Int :=
  let a := BitVec.ofInt k.bits x
  let b := BitVec.ofInt k.bits y
  match op with
  | .and => some (k.wrap (a &&& b).toNat)
  | .or => some (k.wrap (a ||| b).toNat)
  | .xor => some (k.wrap (a ^^^ b).toNat)
  | .andNot => some (k.wrap (a &&& ~~~b).toNat)
  | _ => none

def ltL : List Int → List Int → Bool
  | _, [] => false
  | [], _ :: _ => true
  | a :: x, b :: y => decide (a < b) || (a == b && ltL x y)

def plainLeaf : TypeDesc → Bool
  | .int _ | .bool | .string => true
  | _ => false

/-- Plain leaves alike? -/
def keyEqLeaf : AV → AV → Option Bool
  | .int j a, .int k b => bif j == k then some (a == b) else none
  | .str a, .str b => some (a == b)
  | .bool a, .bool b => some (a == b)
  | _, _ => none
def keyEqL : List AV → List AV → Option Bool
  | [], [] => some true
  | a :: as, b :: bs => match keyEqLeaf a b with
    | some x => (match keyEqL as bs with | some y => some (x && y) | none => none)
    | none => none
  | _, _ => none

def plainAt (P : Program) (t : TypeId) : Bool := match P.underlying t with | some d => plainLeaf d | none => false
/-- Fields of plain leaves, one behind the other. -/
def plainFs (P : Program) : List Field → Nat → Bool
  | [], _ => true
  | f :: fs, i => f.name != "_" && plainAt P f.type && f.offset == i && plainFs P fs (i + 1)
/-- Program.alikeButTags, over lists. -/
def alikeL (p : Program) : Nat → TypeId → TypeId → Bool
  | 0, _, _ => true
  | n + 1, t, u =>
    t == u ||
    let all (ts us : Array TypeId) : Bool := ts.size == us.size && (ts.toList.zip us.toList).all fun (x, y) => alikeL p n x y
    match ((p.info? t).map (·.desc) : Option TypeDesc), ((p.info? u).map (·.desc) : Option TypeDesc) with
    | some (.pointer x), some (.pointer y) | some (.slice x), some (.slice y) => alikeL p n x y
    | some (.array k x), some (.array l y) => k == l && alikeL p n x y
    | some (.map k x), some (.map l y) => alikeL p n k l && alikeL p n x y
    | some (.chan d x), some (.chan e y) => d == e && alikeL p n x y
    | some (.func ps rs v), some (.func qs ss w) => v == w && all ps qs && all rs ss
    | some (.tuple xs), some (.tuple ys) => all xs ys
    | some (.interface ms), some (.interface ns) => ms.size == ns.size && (ms.toList.zip ns.toList).all fun (a, b) => a.1 == b.1 && alikeL p n a.2 b.2
    | some (.struct fs), some (.struct gs) =>
      fs.size == gs.size && (fs.toList.zip gs.toList).all fun (f, g) => f.name == g.name && f.embedded == g.embedded && f.pkgPath == g.pkgPath && alikeL p n f.type g.type
    | _, _ => false
def plainS (P : Program) (t : TypeId) : Bool :=
  match P.underlying t with
  | some (.struct fs) => plainFs P fs.toList 0 && P.cutTypes.toList.all (fun c => !alikeL P P.depth (P.underlyingId c.2) (P.underlyingId t)) && decide (2 ≤ P.depth)
  | _ => false
/-- Two structs of plain leaves. -/
def eqSK (P : Program) (t : TypeId) (as bs : List AV) (K : Bool → Bool) : Bool :=
  bif plainS P t then castLeaves (leaves P 9 t) as fun as => (match keyEqL as bs with | some b => K b | none => false) else false

def eqK (P : Program) (t : TypeId) (x y : AV) (K : Bool → Bool) : Bool :=
  match x, y with
  | .int j a, .int k b => bif j == k then K (a == b) else false
  | .str a, .str b => K (a == b)
  | .agg as, .agg bs => eqSK P t as bs K
  | x, y => match P.underlying t, x, y with
    | some .bool, .bool a, .bool b => K (a == b)
    | some (.pointer _), .ptr none, .ptr none => K true
    | some (.pointer _), .ptr none, .ptr (some _) => K false
    | some (.pointer _), .ptr (some _), .ptr none => K false
    | some (.slice _), .sl .nil _, .sl .nil _ => K true
    | some (.slice _), .sl .nil _, .sl _ _ => K false
    | some (.slice _), .sl _ _, .sl .nil _ => K false
    | some (.map _ _), .map none, .map none => K true
    | some (.map _ _), .map none, .map (some _) => K false
    | some (.map _ _), .map (some _), .map none => K false
    | some (.func _ _ _), .nilfn, .nilfn => K true
    | some (.func _ _ _), .nilfn, .fn _ _ => K false
    | some (.func _ _ _), .fn _ _, .nilfn => K false
    | _, _, _ => false

def binK (P : Program) (op : BinOp) (t : TypeId) (x y : AV) (K : AV → Bool) : Bool :=
  match op with
  | .eql => eqK P t x y fun b => K (.bool b)
  | .neq => eqK P t x y fun b => K (.bool (!b))
  | .shl => match x, y with
    | .int k a, .int _ b => bif decide (b < 0) then false else K (.int k (k.wrap (a * 2 ^ (min b.toNat k.bits))))
    | _, _ => false
  | .shr => match x, y with
    | .int k a, .int _ b => bif decide (b < 0) then false else K (.int k (a.fdiv (2 ^ (min b.toNat k.bits))))
    | _, _ => false
  | _ => match x, y with
    | .int k a, .int k' b => bif k == k' then
        (match op with
        | .add => K (.int k (k.wrap (a + b)))
        | .sub => K (.int k (k.wrap (a - b)))
        | .mul => K (.int k (k.wrap (a * b)))
        | .quo => bif b == 0 then false else K (.int k (k.wrap (a.tdiv b)))
        | .rem => bif b == 0 then false else K (.int k (a.tmod b))
        | .lss => K (.bool (decide (a < b)))
        | .leq => K (.bool (decide (a ≤ b)))
        | .gtr => K (.bool (decide (a > b)))
        | .geq => K (.bool (decide (a ≥ b)))
        | _ => match abits op k a b with | some r => K (.int k r) | none => false)
      else false
    | .str a, .str b =>
        (match op with
        | .add => bif Nat.ble (a.length + b.length) 9223372036854775807 then K (.str (a ++ b)) else false
        | .lss => K (.bool (ltL a b))
        | .leq => K (.bool (ltL a b || a == b))
        | .gtr => K (.bool (!(ltL a b || a == b)))
        | .geq => K (.bool (!ltL a b))
        | _ => false)
    | _, _ => false

def unK (op : UnOp) (x : AV) (K : AV → Bool) : Bool :=
  match op, x with
  | .neg, .int k n => K (.int k (k.wrap (0 - n)))
  | .xor, .int k n => (match abits .xor k (if k.signed then -1 else k.max) n with | some r => K (.int k r) | none => false)
  | .not, .bool b => K (.bool (!b))
  | _, _ => false

def esizeK (P : Program) (e : TypeId) (K : Nat → Bool) : Bool :=
  match P.info? e with
  | some i => bif i.size == 0 then false else K i.size
  | none => false

/-- An index or a bound: between two numbers. -/
def boundK (v : Option AV) (dflt lo hi : Nat) (K : Nat → Bool) : Bool :=
  match v with
  | none => K dflt
  | some (.int _ n) => bif decide ((lo : Int) ≤ n) && decide (n ≤ (hi : Int)) then K n.toNat else false
  | some _ => false

def sliceK (P : Program) (t : TypeId) (x : AV) (lo hi mx : Option AV) (K : AV → Bool) : Bool :=
  match P.underlying t with
  | some .string =>
    (match x, mx with
    | .str s, none => boundK hi s.length 0 s.length fun h => boundK lo 0 0 h fun l => K (.str ((s.take h).drop l))
    | _, _ => false)
  | some (.slice e) =>
    (match x with
    | .sl .nil n => bif n == 0 && (mx.isNone || hi.isSome) then (boundK mx 0 0 0 fun _ => boundK hi 0 0 0 fun _ => boundK lo 0 0 0 fun _ => esizeK P e fun _ => K (.sl .nil 0)) else false
    | .sl .zero n => bif n == 0 && (mx.isNone || hi.isSome) then (boundK mx 0 0 0 fun _ => boundK hi 0 0 0 fun _ => boundK lo 0 0 0 fun _ => esizeK P e fun _ => K (.sl .zero 0)) else false
    | .sl (.at id off z) n => esizeK P e fun z' => bif z' == z && (mx.isNone || hi.isSome) then
        (boundK mx n 0 n fun m => boundK hi n 0 m fun h => boundK lo 0 0 h fun l =>
          bif mx.isSome && m == l then K (.sl .zero 0) else K (.sl (.at id (off + l * z) z) (h - l)))
        else false
    | _ => false)
  | _ => false

def indexAddrK (P : Program) (t : TypeId) (x i : AV) (K : AV → Bool) : Bool :=
  match P.underlying t, x, i with
  | some (.slice e), .sl (.at id off z) n, .int _ k =>
    esizeK P e fun z' => bif z' == z && (decide (0 ≤ k) && decide (k < (n : Int))) then K (.ptr (some ⟨id, off + k.toNat * z, 0, z⟩)) else false
  | some (.array n e), .ptr (some ⟨id, b, d, z⟩), .int _ k =>
    esizeK P e fun y => bif decide (0 ≤ k) && decide (k < (n : Int)) && decide (d + k.toNat * y < z) then K (.ptr (some ⟨id, b, d + k.toNat * y, z⟩)) else false
  | _, _, _ => false

def partK (P : Program) (t : TypeId) (cs : List AV) (off : Nat) (K : AV → Bool) : Bool :=
  match P.underlying t, P.info? t with
  | some (.struct _), some i | some (.array _ _), some i => bif decide (off + i.size ≤ cs.length) then K (.agg ((cs.drop off).take i.size)) else false
  | some _, some _ => (match cs[off]? with | some v => K v | none => false)
  | _, _ => false

def indexK (P : Program) (t : TypeId) (x i : AV) (K : AV → Bool) : Bool :=
  match P.underlying t, x, i with
  | some .string, .str s, .int _ k =>
    bif decide (0 ≤ k) && decide (k < (s.length : Int)) then K (.int .u8 (s.getD k.toNat 0)) else false
  | some (.array n e), .agg cs, .int _ k =>
    (match P.info? e with
    | some ie => bif decide (0 ≤ k) && decide (k < (n : Int)) then partK P e cs (k.toNat * ie.size) K else false
    | none => false)
  | _, _, _ => false

def AV.cells : AV → List AV
  | .agg cs => cs
  | v => [v]

/-- A list is laid out. -/
def forceO {α : Type} : List AV → (List AV → Option α) → Option α
  | [], K => K []
  | x :: xs, K => forceO xs fun ys => K (x :: ys)
theorem forceO_eq {α : Type} : ∀ (l : List AV) (K : List AV → Option α), forceO l K = K l
  | [], _ => rfl
  | x :: xs, K => by rw [forceO, forceO_eq xs]
/-- Parts laid into cells. -/
def fillA (place : Nat → Option (Nat × Nat)) (cs : List AV) : List (Nat × AV) → Option (List AV)
  | [] => some cs
  | (i, v) :: rest =>
    match place i with
    | none => none
    | some (off, size) =>
      bif v.cells.length != size || decide (off + size > cs.length) then none
      else forceO (cs.take off ++ v.cells ++ cs.drop (off + size)) fun cs => fillA place cs rest

def zeroK (P : Program) (t : TypeId) (K : AV → Bool) : Bool :=
  match P.info? t with
  | some i => (match i.zero with
    | some z => bif constOk z then K (ofConst z) else false
    | none => false)
  | none => false

def buildK (P : Program) (t : TypeId) (parts : List (Nat × AV)) (K : AV → Bool) : Bool :=
  match P.underlying t with
  | some (.struct fs) => bif fs.toList.all (fun f => (P.info? f.type).isSome) then zeroK P t fun z =>
      (match fillA (fun i => (fs[i]?).map fun f => (f.offset, P.cellsOf f.type)) z.cells parts with
      | some cs => K (.agg cs)
      | none => false) else false
  | some (.array _ e) => zeroK P t fun z =>
      (match P.info? e with
      | some ie => (match fillA (fun i => some (i * ie.size, ie.size)) z.cells parts with
        | some cs => K (.agg cs)
        | none => false)
      | none => false)
  | _ => false

def lenK (P : Program) (t : TypeId) (x : AV) (K : AV → Bool) : Bool :=
  match P.underlying t, x with
  | some .string, .str s => K (.int .i64 s.length)
  | some (.slice _), .sl _ n => K (.int .i64 n)
  | some (.array n _), _ => K (.int .i64 n)
  | some (.map _ _), .map none => K (.int .i64 0)
  | _, _ => false

def minmaxK (mn : Bool) : AV → List AV → (AV → Bool) → Bool
  | x, [], K => K x
  | .int k a, .int k' b :: rest, K => bif k == k' then
      minmaxK mn (.int k (bif mn then (if b < a then b else a) else (if a < b then b else a))) rest K else false
  | _, _, _ => false

def convK (P : Program) (src dst : TypeId) (x : AV) (K : AV → Bool) : Bool :=
  match P.underlying src, P.underlying dst, x with
  | some _, some (.int k), .int _ n => K (.int k (k.wrap n))
  | some _, some .string, .str s => K (.str s)
  | _, _, _ => false

inductive Kd where
  | pure | read | eff
  deriving DecidableEq

def isMapT (P : Program) (t : TypeId) : Bool := match P.underlying t with | some (.map _ _) => true | _ => false
def isStrT (P : Program) (t : TypeId) : Bool := match P.underlying t with | some .string => true | _ => false
def isSlT (P : Program) (t : TypeId) : Bool := match P.underlying t with | some (.slice _) => true | _ => false

def kindOf (P : Program) : Op → Kd
  | .load .. | .lookup .. | .entry .. => .read
  | .convert s d _ => bif isSlT P d then .eff else bif isSlT P s then .read else .pure
  | .call { callee := .builtin .len, argTypes, .. } => (match argTypes[0]? with | some t => bif isMapT P t then .read else .pure | none => .eff)
  | .call { callee := .builtin .min, .. } | .call { callee := .builtin .max, .. } => .pure
  | .move .. | .assign .. | .pick .. | .nilCheck .. | .binOp .. | .unOp .. | .makeFunc .. | .slice .. | .fieldAddr .. | .field .. | .indexAddr .. | .index ..
  | .extract .. | .build .. => .pure
  | _ => .eff

def pureK (P : Program) (o : Op) (ev : Operand → AV) (K : AV → Bool) : Bool :=
  match o with
  | .move x | .assign x => K (ev x)
  | .pick c a b => (match ev c with | .bool t => bif t then K (ev a) else K (ev b) | _ => false)
  | .nilCheck x => (match ev x with | .ptr (some a) => K (.ptr (some a)) | .fn f cs => K (.fn f cs) | _ => false)
  | .binOp op t x y _ => binK P op t (ev x) (ev y) K
  | .unOp op _ x => unK op (ev x) K
  | .convert s d x => convK P s d (ev x) K
  | .makeFunc (.func f) first caps => bif first.isEmpty then K (.fn f (caps.toList.map ev)) else false
  | .slice t x lo hi mx => sliceK P t (ev x) (lo.map ev) (hi.map ev) (mx.map ev) K
  | .fieldAddr s x f => (match P.underlying s, ev x with
    | some (.struct fs), .ptr (some ⟨id, b, d, z⟩) => (match fs[f]? with
      | some fd => esizeK P fd.type fun _ => bif decide (d + fd.offset < z) then K (.ptr (some ⟨id, b, d + fd.offset, z⟩)) else false
      | none => false)
    | _, _ => false)
  | .field t x f => (match P.underlying t, ev x with
    | some (.struct fs), .agg cs => (match fs[f]? with
      | some fd => partK P fd.type cs fd.offset K
      | none => false)
    | _, _ => false)
  | .indexAddr t x i => indexAddrK P t (ev x) (ev i) K
  | .index t x i => indexK P t (ev x) (ev i) K
  | .extract x i => (match ev x with
    | .tup vs => (match vs[i]? with | some v => K v | none => false)
    | _ => false)
  | .build t parts => buildK P t (parts.toList.map fun (i, x) => (i, ev x)) K
  | .call { callee := .builtin .len, args, argTypes } => (match args.toList, argTypes.toList with
    | [x], [t] => lenK P t (ev x) K
    | _, _ => false)
  | .call { callee := .builtin .min, args, .. } => (match args.toList.map ev with
    | x :: rest => minmaxK true x rest K
    | [] => false)
  | .call { callee := .builtin .max, args, .. } => (match args.toList.map ev with
    | x :: rest => minmaxK false x rest K
    | [] => false)
  | _ => false

/-! Reading. -/
def rowK (σ : H) (id : Nat) (K : List AV → Nat → Md → Bool) : Bool :=
  match σ[id]? with
  | some (.cells xs z md) => K xs z md
  | _ => false

def ldK (P : Program) (t : TypeId) (σ : H) (a : PA) (K : AV → Bool) : Bool :=
  rowK σ a.id fun xs _ _ =>
    match P.underlying t, P.info? t with
    | some (.struct _), some i | some (.array _ _), some i =>
      bif decide (a.d + i.size ≤ a.z) && decide (a.base + a.d + i.size ≤ xs.length) then castT P t (.agg ((xs.drop (a.base + a.d)).take i.size)) K else false
    | some _, some _ => (match xs[a.base + a.d]? with | some v => castT P t v K | none => false)
    | _, _ => false

def bytesOf : List AV → (List Int → Bool) → Bool
  | [], K => K []
  | .int .u8 n :: vs, K => bytesOf vs fun ns => K (((n.toNat % 256 : Nat) : Int) :: ns)
  | _ :: _, _ => false

def seenK (σ : H) (z : Nat) (a : SA) (n : Nat) (K : List AV → Bool) : Bool :=
  match a with
  | .nil | .zero => K []
  | .at id off z₂ => rowK σ id fun xs _ _ => bif z₂ == z && decide (off + n * z ≤ xs.length) then K ((xs.drop off).take (n * z)) else false

def keyEq : AV → AV → Option Bool
  | .agg as, .agg bs => keyEqL as bs
  | a, b => keyEqLeaf a b

/-- The entry of a key: its place, or none. -/
def findK (k : AV) : List ME → Nat → (Option Nat → Bool) → Bool
  | [], _, K => K none
  | e :: es, i, K => match keyEq k e.key with
    | some b => bif b then K (some i) else findK k es (i + 1) K
    | none => false

def keyOkT (P : Program) (t : TypeId) : Bool := plainAt P t || plainS P t

def mapK (σ : H) (r : Option Nat) (K : List ME → Bool) : Bool :=
  match r with
  | none => K []
  | some id => match σ[id]? with
    | some (.map es _) => K es
    | _ => false

def lookupK (P : Program) (t : TypeId) (σ : H) (m k : AV) (ok : Bool) (K : AV → Bool) : Bool :=
  match P.underlying t, m with
  | some (.map kt et), .map r =>
    bif keyOkT P kt then
      castT P kt k fun k => mapK σ r fun es => findK k es 0 fun i =>
        match i with
        | some i => (match es[i]? with
          | some e => castT P et e.val fun v => K (bif ok then .tup [v, .bool true] else v)
          | none => false)
        | none => zeroK P et fun z => K (bif ok then .tup [z, .bool false] else z)
    else false
  | _, _ => false

def readK (P : Program) (o : Op) (ev : Operand → AV) (σ : H) (K : AV → Bool) : Bool :=
  match o with
  | .load t a => (match ev a with | .ptr (some a) => ldK P t σ a K | _ => false)
  | .lookup t m k ok => lookupK P t σ (ev m) (ev k) ok K
  | .convert s d x => (match P.underlying s, P.underlying d, ev x with
      | some (.slice e), some .string, .sl a n => (match P.underlying e with
        | some (.int .u8) => seenK σ 1 a n fun vs => bytesOf vs fun ns => K (.str ns)
        | _ => false)
      | _, _, _ => false)
  | .entry it => (match ev it with
    | .it id => (match σ[id]? with
      | some (.miter (some m) _ seen last) => (match σ[m]?, seen.getLast? with
        | some (.map es clock), some b => bif clock == last then
            (match es.find? (fun e => e.born == b) with
            | some e => K (.tup [e.key, e.val])
            | none => false)
          else false
        | _, _ => false)
      | _ => false)
    | _ => false)
  | .call { callee := .builtin .len, args, .. } => (match args.toList with
    | [x] => (match ev x with
      | .map r => mapK σ r fun es => K (.int .i64 es.length)
      | _ => false)
    | _ => false)
  | _ => false

/-! Effects. -/
def isLeaf : AV → Bool
  | .agg _ | .tup _ | .bad => false
  | _ => true
def leafy : List AV → Bool
  | [] => true
  | v :: vs => isLeaf v && leafy vs

abbrev CallF := Nat → List AV → H → (AV → H → Bool) → Bool

def newK (σ : H) (o : AO) (K : Nat → H → Bool) : Bool := K σ.length (σ ++ [o])

def zeroFits (i : TypeInfo) : Bool := match i.zero with | some z => z.cells.size == i.size | none => false

def isStructT (P : Program) (t : TypeId) : Bool := match P.underlying t with | some (.struct _) => true | _ => false

def appendK (P : Program) (t : TypeId) (s x : AV) (σ : H) (K : AV → H → Bool) : Bool :=
  match P.underlying t with
  | some (.slice e) => (match P.info? e with
    | some ie => bif ie.size == 0 || ie.bytes == 0 || !zeroFits ie then false else
      (match s, x with
      | .sl a n, .sl b m =>
        bif m == 0 then K (.sl a n) σ else
        bif decide ((n + m) * ie.bytes ≤ 140737488355328) then
          seenK σ ie.size b m fun ys => bif isStructT P e then move a n m ys ie.size else into a n m ys ie.size
        else false
      | .sl a n, .str bs =>
        bif bs.isEmpty then K (.sl a n) σ else
        bif decide ((n + bs.length) * ie.bytes ≤ 140737488355328) && ie.size == 1 then
          into a n bs.length (bs.map (AV.int .u8 ·)) 1
        else false
      | _, _ => false)
    | none => false)
  | _ => false
where
  into (a : SA) (n m : Nat) (ys : List AV) (z : Nat) : Bool :=
    match a with
    | .nil | .zero => newK σ (.cells ys z .own) fun id σ => K (.sl (.at id 0 z) m) σ
    | .at id off z₂ => rowK σ id fun xs z' md =>
      bif z' == z && z₂ == z && !(md == .ro) && off + n * z == xs.length then K (.sl (.at id off z) (n + m)) (σ.set id (.cells (xs ++ ys) z .multi)) else false
  /-- A row of structs is moved: what spoke of the elder one is void. -/
  move (a : SA) (n m : Nat) (ys : List AV) (z : Nat) : Bool :=
    match a with
    | .nil | .zero => newK σ (.cells ys z .own) fun id σ => K (.sl (.at id 0 z) m) σ
    | .at id off z₂ => rowK σ id fun xs z' md =>
      bif z' == z && z₂ == z && !(md == .ro) && decide (off + n * z ≤ xs.length) then
        (bif off + n * z == xs.length then K (.sl (.at σ.length off z) (n + m)) (σ.set id .dead ++ [.cells (xs ++ ys) z .own])
         else K (.sl (.at (σ.length + 1) off z) (n + m)) (σ.set id .dead ++ [.dead, .cells (xs.take (off + n * z) ++ ys) z .own])) else false

def storeK (P : Program) (t : TypeId) (a v : AV) (σ : H) (K : H → Bool) : Bool :=
  match a, P.info? t with
  | .ptr (some ⟨id, b, d, z⟩), some i => rowK σ id fun xs y md =>
    bif md == .own && v.cells.length == i.size && decide (d + i.size ≤ z) && decide (b + d + i.size ≤ xs.length) && leafy v.cells then
      K (σ.set id (.cells (xs.take (b + d) ++ v.cells ++ xs.drop (b + d + i.size)) y md))
    else false
  | _, _ => false

def clearK (P : Program) (t : TypeId) (x : AV) (σ : H) (K : H → Bool) : Bool :=
  match P.underlying t, x with
  | some (.slice e), .sl a n => bif n == 0 then K σ else
    (match a with
    | .at id off z => zeroK P e fun zero => rowK σ id fun xs y md =>
      bif md == .own && zero.cells.length == z && decide (off + n * z ≤ xs.length) && leafy zero.cells then
        K (σ.set id (.cells (xs.take off ++ (List.replicate n zero.cells).flatten ++ xs.drop (off + n * z)) y md))
      else false
    | _ => false)
  | _, _ => false

def updateK (P : Program) (t : TypeId) (m k v : AV) (σ : H) (K : H → Bool) : Bool :=
  match P.underlying t, m with
  | some (.map kt _), .map (some id) =>
    bif keyOkT P kt then
      castT P kt k fun k => (match σ[id]? with
        | some (.map es clock) => findK k es 0 fun i =>
          (match i with
          | some i => (match es[i]? with
            | some e => K (σ.set id (.map (es.set i { e with val := v }) clock))
            | none => false)
          | none => K (σ.set id (.map (es ++ [{ key := k, val := v, born := clock }]) (clock + 1))))
        | _ => false)
    else false
  | _, _ => false

def deleteK (P : Program) (t : TypeId) (m k : AV) (σ : H) (K : H → Bool) : Bool :=
  match P.underlying t, m with
  | some (.map kt _), .map r =>
    bif keyOkT P kt then
      castT P kt k fun k => (match r with
        | none => K σ
        | some id => (match σ[id]? with
          | some (.map es clock) => findK k es 0 fun i =>
            (match i with
            | some i => K (σ.set id (.map (es.eraseIdx i) clock))
            | none => K σ)
          | _ => false))
    else false
  | _, _ => false

def rangeK (P : Program) (t : TypeId) (x : AV) (σ : H) (K : AV → H → Bool) : Bool :=
  match P.underlying t, x with
  | some .string, .str s => newK σ (.siter s 0) fun id σ => K (.it id) σ
  | some (.map _ _), .map none => newK σ (.miter none 0 [] 0) fun id σ => K (.it id) σ
  | some (.map _ _), .map (some m) => (match σ[m]? with
    | some (.map _ clock) => newK σ (.miter (some m) clock [] clock) fun id σ => K (.it id) σ
    | _ => false)
  | _, _ => false

/-- A list's bytes, packed. -/
def ofBytesL (s : List Int) : ByteArray := ⟨(s.map fun n => UInt8.ofNat n.toNat).toArray⟩

def nextK (it : AV) (isString : Bool) (σ : H) (K : AV → H → Bool) : Bool :=
  match it with
  | .it id =>
    (match σ[id]?, isString with
    | some (.siter s pos), true =>
      bif decide (pos < s.length) then
        K (.tup [.bool true, .int .i64 pos, .int .i32 (Utf8.decode (ofBytesL s) pos).1]) (σ.set id (.siter s (pos + (Utf8.decode (ofBytesL s) pos).2)))
      else K (.tup [.bool false]) σ
    | some (.miter none _ _ _), false => K (.tup [.bool false]) σ
    | some (.miter (some m) since seen last), false =>
      (match σ[m]? with
      | some (.map es clock) =>
        bif !seen.isEmpty && !es.isEmpty && es.all (fun e => decide (last ≤ e.born)) then false else
        let left := es.filter fun e => !seen.contains e.born
        (bif left.all (fun e => decide (since ≤ e.born)) then K (.tup [.bool false]) σ else true) &&
        left.all fun e => K (.tup [.bool true, e.key, e.val]) (σ.set id (.miter (some m) since (seen ++ [e.born]) clock))
      | _ => false)
    | _, _ => false)
  | _ => false

def buildSliceK (P : Program) (t : TypeId) (len : Nat) (parts : List (Nat × AV)) (σ : H) (K : AV → H → Bool) : Bool :=
  match P.underlying t with
  | some (.slice e) => esizeK P e fun z =>
    bif len == 0 then (bif parts.isEmpty then K (.sl .zero 0) σ else false) else
    bif decide (len * z ≤ 16777216) then zeroK P e fun zero =>
      bif zero.cells.length == z then
        (match fillA (fun i => some (i * z, z)) (List.replicate len zero.cells).flatten parts with
        | some xs => bif leafy xs then newK σ (.cells xs z .own) fun id σ => K (.sl (.at id 0 z) len) σ else false
        | none => false)
      else false
    else false
  | _ => false

def makeMapK (P : Program) (t : TypeId) (r : Option AV) (σ : H) (K : AV → H → Bool) : Bool :=
  bif isMapT P t then
    (match r with
    | none => newK σ (.map [] 0) fun id σ => K (.map (some id)) σ
    | some (.int _ _) => newK σ (.map [] 0) fun id σ => K (.map (some id)) σ
    | _ => false)
  else false

def makeSliceK (P : Program) (t : TypeId) (l c : AV) (σ : H) (K : AV → H → Bool) : Bool :=
  match P.underlying t, l, c with
  | some (.slice e), .int .i64 l, .int .i64 c =>
    (match P.info? e with
    | some ie => bif decide (0 ≤ l) && decide (l ≤ c) && decide ((ie.bytes : Int) * c ≤ 140737488355328) && decide (c ≤ 140737488355328) && !(ie.size == 0) then
        zeroK P e fun zero => bif zero.cells.length == ie.size && leafy zero.cells then
          (bif c == 0 then K (.sl .zero 0) σ
           else newK σ (.cells (List.replicate l.toNat zero.cells).flatten ie.size .own) fun id σ => K (.sl (.at id 0 ie.size) l.toNat) σ)
        else false
      else false
    | none => false)
  | _, _, _ => false

def convEffK (P : Program) (s₀ d : TypeId) (x : AV) (σ : H) (K : AV → H → Bool) : Bool :=
  match P.underlying d with
  | some (.slice e) => (match P.underlying e with
    | some (.int .u8) => (match x with
      | .sl (.at id off z) n => bif s₀ == d && !(n == 0) then rowK σ id fun _ _ md => bif md == .ro then false else K (.sl (.at id off z) n) σ else false
      | .str s => bif isStrT P s₀ then newK σ (.cells (s.map (AV.int .u8 ·)) 1 .own) fun id σ => K (.sl (.at id 0 1) s.length) σ else false
      | _ => false)
    | _ => false)
  | _ => false

def effK (P : Program) (callf : CallF) (o : Op) (ty : TypeId) (ev : Operand → AV) (σ : H) (K : AV → H → Bool) : Bool :=
  match o with
  | .alloc t => zeroK P t fun z => bif z.cells.isEmpty || !leafy z.cells then false else newK σ (.cells z.cells z.cells.length .own) fun id σ => K (.ptr (some ⟨id, 0, 0, z.cells.length⟩)) σ
  | .box _ x => let cs := (ev x).cells; bif cs.isEmpty || !leafy cs then false else newK σ (.cells cs cs.length .own) fun id σ => K (.ptr (some ⟨id, 0, 0, cs.length⟩)) σ
  | .buildSlice t len parts => buildSliceK P t len (parts.toList.map fun (i, x) => (i, ev x)) σ K
  | .makeMap t r => makeMapK P t (r.map ev) σ K
  | .makeSlice t l c => makeSliceK P t (ev l) (ev c) σ K
  | .convert s d x => convEffK P s d (ev x) σ K
  | .store t a x => storeK P t (ev a) (ev x) σ fun σ => K .undef σ
  | .mapUpdate t m k x | .insert t m k x => updateK P t (ev m) (ev k) (ev x) σ fun σ => K .undef σ
  | .range t x => rangeK P t (ev x) σ K
  | .next it isString => nextK (ev it) isString σ fun v σ => K v σ
  | .call { callee := .builtin .append, args, argTypes } => (match args.toList, argTypes.toList with
    | [s, x], [t, u] => bif isSlT P u || isStrT P u then appendK P t (ev s) (ev x) σ K else false
    | _, _ => false)
  | .call { callee := .builtin .delete, args, argTypes } => (match args.toList, argTypes.toList with
    | [m, k], t :: _ => deleteK P t (ev m) (ev k) σ fun σ => K (.tup []) σ
    | _, _ => false)
  | .call { callee := .builtin .clear, args, argTypes } => (match args.toList, argTypes.toList with
    | [x], t :: _ => clearK P t (ev x) σ fun σ => K (.tup []) σ
    | _, _ => false)
  | .call { callee := .value f, args, .. } => (match ev f with
    | .fn g caps => callf g (args.toList.map ev ++ caps) σ fun v σ => castRes P ty v fun v => K v σ
    | _ => false)
  | _ => false

/-! Regions. -/
def put (fr : Fr) (dst : Option Nat) (v : AV) : Fr := match dst with | some d => fr.set d v | none => fr

/-- Is an operation wanted? -/
def wantedK (ops : Array Oper) (o : Oper) (fr : Fr) (yes no : Unit → Bool) : Bool :=
  match o.guard with
  | none => yes ()
  | some (j, want) =>
    match (ops[j]?).bind (·.dst) with
    | some d => (match fr.getD d .undef with
      | .bool b => bif b == want then yes () else no ()
      | .bad => false
      | _ => no ())
    | none => no ()

/-- A list is laid out. -/
def forceL : List AV → (List AV → Bool) → Bool
  | [], K => K []
  | x :: xs, K => forceL xs fun ys => K (x :: ys)
theorem forceL_eq : ∀ (l : List AV) (K : List AV → Bool), forceL l K = K l
  | [], _ => rfl
  | x :: xs, K => by rw [forceL, forceL_eq xs]

/-- A value is laid out; a bool is told apart where it comes to be. -/
def splitB (v : AV) (K : AV → Bool) : Bool :=
  match v with
  | .bool b => bif b then K (.bool true) else K (.bool false)
  | .int k n => K (.int k n)
  | .str s => K (.str s)
  | .ptr a => K (.ptr a)
  | .it i => K (.it i)
  | .sl a n => K (.sl a n)
  | .map r => K (.map r)
  | .fn f cs => forceL cs fun cs => K (.fn f cs)
  | .nilfn => K .nilfn
  | .agg cs => forceL cs fun cs => K (.agg cs)
  | .tup cs => forceL cs fun cs => K (.tup cs)
  | .bad => K .bad
theorem splitB_eq (v : AV) (K : AV → Bool) : splitB v K = K v := by
  cases v <;> simp only [splitB, forceL_eq]
  rename_i b
  cases b <;> rfl

def setK (v : AV) : Nat → Fr → (Fr → Bool) → Bool
  | _, [], K => K []
  | 0, _ :: xs, K => K (v :: xs)
  | n + 1, x :: xs, K => setK v n xs fun ys => K (x :: ys)
theorem setK_eq (v : AV) : ∀ (n : Nat) (fr : Fr) (K : Fr → Bool), setK v n fr K = K (fr.set n v)
  | 0, [], _ => rfl
  | n + 1, [], _ => rfl
  | 0, _ :: _, _ => rfl
  | n + 1, x :: xs, K => by rw [setK, setK_eq v n xs]; rfl
def putK (fr : Fr) (dst : Option Nat) (v : AV) (K : Fr → Bool) : Bool := match dst with | some d => setK v d fr K | none => K fr
theorem putK_eq (fr : Fr) (dst : Option Nat) (v : AV) (K : Fr → Bool) : putK fr dst v K = K (put fr dst v) := by
  cases dst
  · rfl
  · exact setK_eq _ _ _ _

def opK (P : Program) (callf : CallF) (o : Oper) (fr : Fr) (σ : H) (K : AV → H → Bool) : Bool :=
  bif opOk o.op (ev fr) then
    (match kindOf P o.op with
    | .pure => pureK P o.op (ev fr) fun v => splitB v fun v => K v σ
    | .read => readK P o.op (ev fr) σ fun v => splitB v fun v => K v σ
    | .eff => effK P callf o.op o.type (ev fr) σ fun v σ => splitB v fun v => K v σ)
  else false

/-- By the recursor itself: the kernel and the elaborator then go through it in the same steps. -/
noncomputable def seqK (P : Program) (callf : CallF) (ops : Array Oper) (l : List Oper) : Fr → H → (Fr → H → Bool) → Bool :=
  List.rec (motive := fun _ => Fr → H → (Fr → H → Bool) → Bool) (fun fr σ K => K fr σ)
    (fun o _ ih fr σ K => wantedK ops o fr
      (fun _ => opK P callf o fr σ fun v σ => putK fr o.dst v fun fr => ih fr σ K)
      (fun _ => putK fr o.dst .undef fun fr => ih fr σ K)) l
theorem seqK_cons (P : Program) (callf : CallF) (ops : Array Oper) (o : Oper) (rest : List Oper) (fr : Fr) (σ : H) (K : Fr → H → Bool) : seqK P callf ops (o :: rest) fr σ K =
    wantedK ops o fr
      (fun _ => opK P callf o fr σ fun v σ => putK fr o.dst v fun fr => seqK P callf ops rest fr σ K)
      (fun _ => putK fr o.dst .undef fun fr => seqK P callf ops rest fr σ K) := rfl

/-- Readers that may be carried out later than they were here: read again they must tell the same. -/
abbrev Hist := List (Nat × (H → Bool))

def readyA (ops : List Oper) (bef : List Nat) (G : Nat) : List Nat :=
  (List.range ops.length).filter fun i => !G.testBit i && (bef.getD i 0 &&& G == bef.getD i 0)

/-- Operations that AM may run ahead of their turn: they change nothing, and their temporary is nobody's variable. -/
def eager (P : Program) (o : Op) : Bool := match o with | .assign .. => false | _ => kindOf P o != .eff

def drawK (P : Program) (callf : CallF) (arr : Array Oper) (ops : List Oper) (bef : List Nat) : Nat → Nat → Hist → Fr → H → (Fr → H → Bool) → Bool
  | 0, _, _, _, _, _ => false
  | n + 1, G, hist, fr, σ, K =>
    let rd := readyA ops bef G
    match rd.find? (fun i => match ops[i]? with | some o => eager P o.op | none => false) with
    | some i => (match ops[i]? with
      | some o =>
        let G' := G ||| 2 ^ i
        wantedK arr o fr
          (fun _ => bif opOk o.op (ev fr) then
            (match kindOf P o.op with
            | .pure => pureK P o.op (ev fr) fun v => splitB v fun v => putK fr o.dst v fun fr => drawK P callf arr ops bef n G' hist fr σ K
            | .read => readK P o.op (ev fr) σ fun v => splitB v fun v =>
                drawK P callf arr ops bef n G' ((i, fun τ => readK P o.op (ev fr) τ fun u => sameV u v) :: hist) (put fr o.dst v) σ K
            | .eff => false)
          else false)
          (fun _ => putK fr o.dst .undef fun fr => drawK P callf arr ops bef n G' hist fr σ K)
      | none => false)
    | none =>
      match rd with
      | [] => bif G == 2 ^ ops.length - 1 then K fr σ else false
      | _ => rd.all fun i => match ops[i]? with
        | some o =>
          let G' := G ||| 2 ^ i
          let b := bef.getD i 0
          wantedK arr o fr
            (fun _ => opK P callf o fr σ fun v τ =>
              hist.all (fun (r, again) => b.testBit r || again τ) && putK fr o.dst v fun fr => drawK P callf arr ops bef n G' hist fr τ K)
            (fun _ => putK fr o.dst .undef fun fr => drawK P callf arr ops bef n G' hist fr σ K)
        | none => false

/-- The temporaries that an operation looks at: its operands, and its guard's. -/
def looks (ops : List Oper) (o : Oper) : List Nat :=
  (o.op.operands.toList.filterMap fun | .tmp t => some t | _ => none) ++
  (match o.guard with
   | some (g, _) => ((ops[g]?).bind (·.dst)).toList
   | none => [])

/-- No two operations of a region meet in a temporary unless one waits for the other. -/
def apartOk (P : Program) (ops : List Oper) (bef : List Nat) : Bool :=
  (List.range ops.length).all fun i => match ops[i]? with
    | some oi => (match oi.dst with
      | some d => (List.range ops.length).all fun j => (match ops[j]? with
        | some oj => (i == j || oj.dst != some d) && (!(looks ops oj).contains d || (bef.getD j 0).testBit i || (!eager P oi.op && (i == j || (bef.getD i 0).testBit j)))
        | none => true)
      | none => true)
    | none => true

/-- What each operation waits for, all the way back, as a number's bits. -/
def edgeMask (acc : List Nat) (o : Oper) : Nat :=
  o.after.toList.foldl (fun s e => bif Region.binds .any e then s ||| 2 ^ e.on ||| acc.getD e.on 0 else s) 0
def befs : List Oper → List Nat → List Nat
  | [], acc => acc
  | o :: os, acc => befs os (acc ++ [edgeMask acc o])
def edgesOk : List Oper → Nat → Bool
  | [], _ => true
  | o :: os, i => (o.after.toList.all fun e => !Region.binds .any e || decide (e.on < i)) && edgesOk os (i + 1)

def drawRegion (P : Program) (callf : CallF) (ops : Array Oper) (fr : Fr) (σ : H) (K : Fr → H → Bool) : Bool :=
  let l := ops.toList
  let bef := befs l []
  bif edgesOk l 0 && apartOk P l bef then drawK P callf ops l bef (l.length + 1) 0 [] fr σ K else false

/-! Code. -/
inductive AE where
  | normal | exit (id : Nat) | ret
  deriving DecidableEq

/-- Only the temporaries of a mask are kept; mask 0 keeps all. -/
def forgetFrom (m : Nat) : Nat → Fr → Fr
  | _, [] => []
  | i, v :: vs => (bif m.testBit i then v else .bad) :: forgetFrom m (i + 1) vs
def forget (m : Nat) (fr : Fr) : Fr := bif m == 0 then fr else forgetFrom m 0 fr
def forgetFromK (m : Nat) : Nat → Fr → (Fr → Bool) → Bool
  | _, [], K => K []
  | i, v :: vs, K => bif m.testBit i then forgetFromK m (i + 1) vs fun ys => K (v :: ys) else forgetFromK m (i + 1) vs fun ys => K (.bad :: ys)
theorem forgetFromK_eq (m : Nat) : ∀ (i : Nat) (fr : Fr) (K : Fr → Bool), forgetFromK m i fr K = K (forgetFrom m i fr)
  | _, [], _ => rfl
  | i, v :: vs, K => by
    rw [forgetFromK, forgetFromK_eq m, forgetFromK_eq m, forgetFrom]
    cases m.testBit i <;> rfl
def forgetK (m : Nat) (fr : Fr) (K : Fr → Bool) : Bool := bif m == 0 then K fr else forgetFromK m 0 fr K
theorem forgetK_eq (m : Nat) (fr : Fr) (K : Fr → Bool) : forgetK m fr K = K (forget m fr) := by
  unfold forgetK forget
  rw [forgetFromK_eq]
  cases m == 0 <;> rfl

/-- The first region of a text: the key of a loop's mask. -/
def firstRegion : Code → Nat
  | .region id _ _ => id
  | .seq a _ => firstRegion a
  | .block _ b => firstRegion b
  | .loop b => firstRegion b
  | _ => 0

def loopK (m : Nat) (body : (AE → Fr → H → Bool) → Fr → H → Bool) : Nat → (AE → Fr → H → Bool) → Fr → H → Bool
  | 0, _, _, _ => false
  | n + 1, K, fr, σ => forgetK m fr fun fr => body (fun e fr σ => match e with | .normal => loopK m body n K fr σ | e => K e fr σ) fr σ

/-- What carries out a region whose order is drawn. -/
abbrev Drawer := CallF → Array Oper → Fr → H → (Fr → H → Bool) → Bool

noncomputable def exec (P : Program) (callf : CallF) (D : Drawer) (M : Nat → Nat) (L : Nat) (c : Code) : (AE → Fr → H → Bool) → Fr → H → Bool :=
  Code.rec (motive := fun _ => (AE → Fr → H → Bool) → Fr → H → Bool)
    (skip := fun K fr σ => K .normal fr σ)
    (region := fun _ ops draw K fr σ => bif draw then D callf ops fr σ (K .normal) else seqK P callf ops ops.toList fr σ (K .normal))
    (seq := fun _ _ ea eb K fr σ => ea (fun e fr σ => match e with | .normal => eb K fr σ | e => K e fr σ) fr σ)
    (cond := fun c _ _ ex ey K fr σ => bif operandOk c then (match ev fr c with
      | .bool t => bif t then ex K fr σ else ey K fr σ
      | _ => false) else false)
    (block := fun id _ eb K fr σ => eb (fun e fr σ => match e with
      | .exit i => bif i == id then forgetK (M (2 * id)) fr fun fr => K .normal fr σ else K (.exit i) fr σ
      | .normal => forgetK (M (2 * id)) fr fun fr => K .normal fr σ
      | .ret => K .ret fr σ) fr σ)
    (loop := fun body eb K fr σ => loopK (M (2 * firstRegion body + 1)) eb L K fr σ)
    (rangeFunc := fun _ _ _ _ _ _ _ _ _ => false)
    (exit := fun id K fr σ => K (.exit id) fr σ)
    (scope := fun _ _ _ _ _ => false)
    (label := fun _ K fr σ => K .normal fr σ)
    (goto := fun _ _ _ _ => false)
    (ret := fun K fr σ => K .ret fr σ)
    (refuse := fun _ _ _ _ => false) c
theorem exec_cond (P : Program) (callf : CallF) (D : Drawer) (M : Nat → Nat) (L : Nat) (c : Operand) (x y : Code) (K : AE → Fr → H → Bool) (fr : Fr) (σ : H) : exec P callf D M L (.cond c x y) K fr σ =
    bif operandOk c then (match ev fr c with
      | .bool t => bif t then exec P callf D M L x K fr σ else exec P callf D M L y K fr σ
      | _ => false) else false := rfl

def resultK (P : Program) (fr : Fr) (σ : H) : List ResultVar → (List AV → Bool) → Bool
  | [], K => K []
  | .tmp t :: rs, K => bif notBad (fr.getD t .undef) then resultK P fr σ rs fun vs => K (fr.getD t .undef :: vs) else false
  | .cell a t :: rs, K => (match fr.getD a .undef with
    | .ptr (some a) => ldK P t σ a fun v => resultK P fr σ rs fun vs => K (v :: vs)
    | _ => false)

def retV : List AV → AV
  | [v] => v
  | vs => .tup vs

/-- Functions that are taken by a contract of their own. -/
structure Tab where
  F : Nat → Option (List AV → H → (AV → H → Bool) → Bool)
  M : Nat → Nat → Nat
def noTab : Tab := ⟨fun _ => none, fun _ _ => 0⟩

noncomputable def acall (P : Program) (T : Tab) (D : Drawer) (n : Nat) : CallF :=
  Nat.rec (motive := fun _ => CallF)
    (fun g args σ K => match T.F g with
      | some F => F args σ K
      | none => false)
    (fun n ih g args σ K => match T.F g with
      | some F => F args σ K
      | none =>
        match P.funcs[g]? with
        | some fn => (match fn.body with
          | some c => forceL (args ++ List.replicate (fn.ntmps - args.length) .undef) fun fr => exec P ih D (T.M g) n c (fun e fr σ => match e with
              | .normal | .ret => resultK P fr σ fn.results.toList fun vs => K (retV vs) σ
              | _ => false) fr σ
          | none => false)
        | none => false) n
theorem acall_zero (P : Program) (T : Tab) (D : Drawer) (g : Nat) (args : List AV) (σ : H) (K : AV → H → Bool) : acall P T D 0 g args σ K = match T.F g with
    | some F => F args σ K
    | none => false := rfl
theorem acall_succ (P : Program) (T : Tab) (D : Drawer) (n g : Nat) (args : List AV) (σ : H) (K : AV → H → Bool) : acall P T D (n + 1) g args σ K = match T.F g with
    | some F => F args σ K
    | none =>
      match P.funcs[g]? with
      | some fn => (match fn.body with
        | some c => forceL (args ++ List.replicate (fn.ntmps - args.length) .undef) fun fr => exec P (acall P T D n) D (T.M g) n c (fun e fr σ => match e with
            | .normal | .ret => resultK P fr σ fn.results.toList fun vs => K (retV vs) σ
            | _ => false) fr σ
        | none => false)
      | none => false := rfl

end Go.AM
namespace Go.AM
open Go Go.RowKit

/-- One place where an abstract row's cells lo .. hi lie: block blk, from boff on; the block has sz cells. -/
structure Copy where
  blk : Nat
  boff : Nat
  lo : Nat
  hi : Nat
  sz : Nat

inductive Loc where
  | cells (z : Nat) (cs : List Copy)
  | obj (r : Nat)

abbrev Rho := Nat → Option Loc

inductive VR (ρ : Rho) : AV → Value → Prop where
  | bool (b : Bool) : VR ρ (.bool b) (.bool b)
  | int (k : IntKind) (n : Int) : VR ρ (.int k n) (.int k n)
  | str (s : ByteArray) : VR ρ (.str (bytesL s)) (.string s)
  | ptrNil : VR ρ (.ptr none) (.pointer none)
  | ptr {id b d z : Nat} {cs : List Copy} {c : Copy} (h : ρ id = some (.cells z cs)) (hc : c ∈ cs) (h1 : c.lo ≤ b) (h2 : b + z ≤ c.hi) (h3 : d < z) :
      VR ρ (.ptr (some ⟨id, b, d, z⟩)) (.pointer (some ⟨c.blk, c.boff + (b + d - c.lo), none⟩))
  | iter {id r : Nat} (h : ρ id = some (.obj r)) : VR ρ (.it id) (.pointer (some ⟨r, 0, none⟩))
  | slNil : VR ρ (.sl .nil 0) (.slice none 0 0)
  | slZero (a : Addr) : VR ρ (.sl .zero 0) (.slice (some a) 0 0)
  | sl {id off z len cap : Nat} {cs : List Copy} {c : Copy} (h : ρ id = some (.cells z cs)) (hc : c ∈ cs) (h1 : c.lo ≤ off) (h2 : off + len * z ≤ c.hi)
      (h3 : len ≤ cap) (h4 : c.boff + (off - c.lo) + cap * z ≤ c.sz) :
      VR ρ (.sl (.at id off z) len) (.slice (some ⟨c.blk, c.boff + (off - c.lo), none⟩) len cap)
  | slEnd {id off z : Nat} {cs : List Copy} (a : Addr) (h : ρ id = some (.cells z cs)) : VR ρ (.sl (.at id off z) 0) (.slice (some a) 0 0)
  | mapNil : VR ρ (.map none) (.map none)
  | map {id r : Nat} (h : ρ id = some (.obj r)) : VR ρ (.map (some id)) (.map (some r))
  | fn (f : Nat) (cs : List AV) (vs : Array Value) (hl : cs.length = vs.size) (h : ∀ (i : Nat) v vc, cs[i]? = some v → vs[i]? = some vc → VR ρ v vc) :
      VR ρ (.fn f cs) (.func (.func f) #[] vs)
  | nilfn : VR ρ .nilfn .nilFunc
  | agg (cs : List AV) (vs : Array Value) (hl : cs.length = vs.size) (h : ∀ (i : Nat) v vc, cs[i]? = some v → vs[i]? = some vc → VR ρ v vc) :
      VR ρ (.agg cs) (.agg vs)
  | tup (cs : List AV) (vs : Array Value) (hl : cs.length = vs.size) (h : ∀ (i : Nat) v vc, cs[i]? = some v → vs[i]? = some vc → VR ρ v vc) :
      VR ρ (.tup cs) (.tuple vs)

def CopyLe (c c' : Copy) : Prop := c'.blk = c.blk ∧ c'.boff = c.boff ∧ c'.lo = c.lo ∧ c.hi ≤ c'.hi ∧ c'.sz = c.sz
theorem CopyLe.refl (c : Copy) : CopyLe c c := ⟨rfl, rfl, rfl, Nat.le_refl _, rfl⟩
theorem CopyLe.trans {a b c : Copy} (h : CopyLe a b) (k : CopyLe b c) : CopyLe a c :=
  ⟨k.1.trans h.1, k.2.1.trans h.2.1, k.2.2.1.trans h.2.2.1, Nat.le_trans h.2.2.2.1 k.2.2.2.1, k.2.2.2.2.trans h.2.2.2.2⟩

def LocLe : Loc → Loc → Prop
  | .cells z cs, .cells z' cs' => z' = z ∧ ∀ c ∈ cs, ∃ c' ∈ cs', CopyLe c c'
  | .obj r, .obj r' => r' = r
  | _, _ => False
theorem LocLe.refl (l : Loc) : LocLe l l := by
  cases l with
  | cells z cs => exact ⟨rfl, fun c hc => ⟨c, hc, .refl c⟩⟩
  | obj r => rfl
theorem LocLe.trans {a b c : Loc} (h : LocLe a b) (k : LocLe b c) : LocLe a c := by
  cases a <;> cases b <;> cases c <;> simp only [LocLe] at *
  · refine ⟨k.1.trans h.1, fun x hx => ?_⟩
    obtain ⟨y, hy, hxy⟩ := h.2 x hx
    obtain ⟨z, hz, hyz⟩ := k.2 y hy
    exact ⟨z, hz, hxy.trans hyz⟩
  · exact k.trans h

def Rho.le (ρ ρ' : Rho) : Prop := ∀ id l, ρ id = some l → ∃ l', ρ' id = some l' ∧ LocLe l l'
theorem Rho.le.refl (ρ : Rho) : ρ.le ρ := fun _ l h => ⟨l, h, .refl l⟩
theorem Rho.le.trans {a b c : Rho} (h : a.le b) (k : b.le c) : a.le c := fun id l hl => by
  obtain ⟨l', h', hle⟩ := h id l hl
  obtain ⟨l'', h'', hle'⟩ := k id l' h'
  exact ⟨l'', h'', hle.trans hle'⟩

theorem Rho.le.cells {ρ ρ' : Rho} (h : ρ.le ρ') {id z : Nat} {cs : List Copy} (hl : ρ id = some (.cells z cs)) :
    ∃ cs', ρ' id = some (.cells z cs') ∧ ∀ c ∈ cs, ∃ c' ∈ cs', CopyLe c c' := by
  obtain ⟨l', h', hle⟩ := h id _ hl
  cases l' with
  | cells z' cs' => obtain ⟨rfl, hc⟩ := hle; exact ⟨cs', h', hc⟩
  | obj r => exact hle.elim
theorem Rho.le.obj {ρ ρ' : Rho} (h : ρ.le ρ') {id r : Nat} (hl : ρ id = some (.obj r)) : ρ' id = some (.obj r) := by
  obtain ⟨l', h', hle⟩ := h id _ hl
  cases l' with
  | cells z' cs' => exact hle.elim
  | obj r' => have e : r' = r := hle; rw [← e]; exact h'

theorem VR.mono {ρ ρ' : Rho} (hle : ρ.le ρ') {v : AV} {vc : Value} (h : VR ρ v vc) : VR ρ' v vc := by
  induction h with
  | bool b => exact .bool b
  | int k n => exact .int k n
  | str s => exact .str s
  | ptrNil => exact .ptrNil
  | ptr h hc h1 h2 h3 =>
    obtain ⟨cs', h', hh⟩ := hle.cells h
    obtain ⟨c', hc', e1, e2, e3, e4, e5⟩ := hh _ hc
    have := VR.ptr (ρ := ρ') h' hc' (by omega) (Nat.le_trans h2 e4) h3
    rwa [e1, e2, e3] at this
  | iter h => exact .iter (hle.obj h)
  | slNil => exact .slNil
  | slZero a => exact .slZero a
  | sl h hc h1 h2 h3 h4 =>
    obtain ⟨cs', h', hh⟩ := hle.cells h
    obtain ⟨c', hc', e1, e2, e3, e4, e5⟩ := hh _ hc
    have := VR.sl (ρ := ρ') h' hc' (by omega) (Nat.le_trans h2 e4) h3 (by rw [e2, e3, e5]; exact h4)
    rwa [e1, e2, e3] at this
  | slEnd a h => obtain ⟨cs', h', _⟩ := hle.cells h; exact .slEnd a h'
  | mapNil => exact .mapNil
  | map h => exact .map (hle.obj h)
  | fn f cs vs hl _ ih => exact .fn f cs vs hl ih
  | nilfn => exact .nilfn
  | agg cs vs hl _ ih => exact .agg cs vs hl ih
  | tup cs vs hl _ ih => exact .tup cs vs hl ih

/-- Lists of values. -/
def VRs (ρ : Rho) (cs : List AV) (vs : List Value) : Prop := cs.length = vs.length ∧ ∀ (i : Nat) v vc, cs[i]? = some v → vs[i]? = some vc → VR ρ v vc
theorem VRs.mono {ρ ρ' : Rho} (hle : ρ.le ρ') {cs : List AV} {vs : List Value} (h : VRs ρ cs vs) : VRs ρ' cs vs := ⟨h.1, fun i v vc a b => (h.2 i v vc a b).mono hle⟩
theorem VRs.nil {ρ : Rho} : VRs ρ [] [] := ⟨rfl, fun i v vc h => by simp at h⟩
theorem VRs.cons {ρ : Rho} {v : AV} {vc : Value} {cs : List AV} {vs : List Value} (h : VR ρ v vc) (t : VRs ρ cs vs) : VRs ρ (v :: cs) (vc :: vs) := by
  refine ⟨by simp [t.1], fun i u uc a b => ?_⟩
  cases i with
  | zero => simp at a b; subst a b; exact h
  | succ i => simp at a b; exact t.2 i u uc a b
theorem VRs.inv_cons {ρ : Rho} {v : AV} {cs : List AV} {vs : List Value} (h : VRs ρ (v :: cs) vs) : ∃ vc vs', vs = vc :: vs' ∧ VR ρ v vc ∧ VRs ρ cs vs' := by
  cases vs with
  | nil => exact absurd h.1 (by simp)
  | cons vc vs' =>
    refine ⟨vc, vs', rfl, h.2 0 v vc rfl rfl, by have := h.1; simpa using this, fun i u uc a b => h.2 (i + 1) u uc (by simpa using a) (by simpa using b)⟩
theorem VRs.inv_nil {ρ : Rho} {vs : List Value} (h : VRs ρ [] vs) : vs = [] := by
  cases vs with
  | nil => rfl
  | cons vc vs' => exact absurd h.1 (by simp)
theorem VRs.append {ρ : Rho} {a b : List AV} {c d : List Value} (h : VRs ρ a c) (k : VRs ρ b d) : VRs ρ (a ++ b) (c ++ d) := by
  refine ⟨by simp [h.1, k.1], fun i v vc hv hc => ?_⟩
  by_cases hi : i < a.length
  · rw [List.getElem?_append_left hi] at hv
    rw [List.getElem?_append_left (by rw [← h.1]; exact hi)] at hc
    exact h.2 i v vc hv hc
  · rw [List.getElem?_append_right (by omega)] at hv
    rw [List.getElem?_append_right (by rw [← h.1]; omega), ← h.1] at hc
    exact k.2 _ v vc hv hc
theorem VRs.take {ρ : Rho} {a : List AV} {c : List Value} (n : Nat) (h : VRs ρ a c) : VRs ρ (a.take n) (c.take n) := by
  refine ⟨by simp [h.1], fun i v vc hv hc => ?_⟩
  rw [List.getElem?_take] at hv hc
  split at hv
  · rename_i hlt; rw [if_pos hlt] at hc; exact h.2 i v vc hv hc
  · simp at hv
theorem VRs.drop {ρ : Rho} {a : List AV} {c : List Value} (n : Nat) (h : VRs ρ a c) : VRs ρ (a.drop n) (c.drop n) := by
  refine ⟨by simp [h.1], fun i v vc hv hc => ?_⟩
  rw [List.getElem?_drop] at hv hc
  exact h.2 _ v vc hv hc
theorem VRs.get {ρ : Rho} {a : List AV} {c : List Value} (h : VRs ρ a c) {i : Nat} {v : AV} (hv : a[i]? = some v) : ∃ vc, c[i]? = some vc ∧ VR ρ v vc := by
  have hi : i < a.length := (List.getElem?_eq_some_iff.1 hv).1
  have hi' : i < c.length := by rw [← h.1]; exact hi
  exact ⟨c[i], List.getElem?_eq_getElem hi', h.2 i v _ hv (List.getElem?_eq_getElem hi')⟩
theorem VRs.replicate {ρ : Rho} {v : AV} {vc : Value} (n : Nat) (h : VR ρ v vc) : VRs ρ (List.replicate n v) (List.replicate n vc) := by
  induction n with
  | zero => exact .nil
  | succ n ih => exact .cons h ih
theorem VRs.set {ρ : Rho} {a : List AV} {c : List Value} {v : AV} {vc : Value} (i : Nat) (h : VRs ρ a c) (hv : VR ρ v vc) : VRs ρ (a.set i v) (c.set i vc) := by
  refine ⟨by simp [h.1], fun j u uc hu hc => ?_⟩
  by_cases e : i = j
  · subst e
    by_cases hi : i < a.length
    · rw [List.getElem?_set_self hi] at hu
      rw [List.getElem?_set_self (by rw [← h.1]; exact hi)] at hc
      simp at hu hc; subst hu hc; exact hv
    · rw [List.getElem?_eq_none (by simp; omega)] at hu; simp at hu
  · rw [List.getElem?_set_ne e] at hu hc; exact h.2 j u uc hu hc

theorem VR.of_agg {ρ : Rho} {cs : List AV} {vc : Value} (h : VR ρ (.agg cs) vc) : ∃ vs : Array Value, vc = .agg vs ∧ VRs ρ cs vs.toList := by
  cases h with
  | agg _ vs hl h => exact ⟨vs, rfl, by simpa using hl, fun i v vc a b => h i v vc a (by simpa using b)⟩
theorem VR.mk_agg {ρ : Rho} {cs : List AV} {vs : List Value} (h : VRs ρ cs vs) : VR ρ (.agg cs) (.agg vs.toArray) :=
  .agg cs vs.toArray (by simpa using h.1) (fun i v vc a b => h.2 i v vc a (by simpa using b))
theorem VR.of_tup {ρ : Rho} {cs : List AV} {vc : Value} (h : VR ρ (.tup cs) vc) : ∃ vs : Array Value, vc = .tuple vs ∧ VRs ρ cs vs.toList := by
  cases h with
  | tup _ vs hl h => exact ⟨vs, rfl, by simpa using hl, fun i v vc a b => h i v vc a (by simpa using b)⟩
theorem VR.mk_tup {ρ : Rho} {cs : List AV} {vs : List Value} (h : VRs ρ cs vs) : VR ρ (.tup cs) (.tuple vs.toArray) :=
  .tup cs vs.toArray (by simpa using h.1) (fun i v vc a b => h.2 i v vc a (by simpa using b))
theorem VR.of_fn {ρ : Rho} {f : Nat} {cs : List AV} {vc : Value} (h : VR ρ (.fn f cs) vc) : ∃ vs : Array Value, vc = .func (.func f) #[] vs ∧ VRs ρ cs vs.toList := by
  cases h with
  | fn _ _ vs hl h => exact ⟨vs, rfl, by simpa using hl, fun i v vc a b => h i v vc a (by simpa using b)⟩
theorem VR.undef {ρ : Rho} : VR ρ .undef Go.undef := VR.mk_tup .nil

theorem VR.of_int {ρ : Rho} {k : IntKind} {n : Int} {vc : Value} (h : VR ρ (.int k n) vc) : vc = .int k n := by cases h; rfl
theorem VR.of_bool {ρ : Rho} {b : Bool} {vc : Value} (h : VR ρ (.bool b) vc) : vc = .bool b := by cases h; rfl
theorem VR.of_str {ρ : Rho} {s : List Int} {vc : Value} (h : VR ρ (.str s) vc) : ∃ b, vc = .string b ∧ bytesL b = s := by cases h; exact ⟨_, rfl, rfl⟩

theorem VR.cells {ρ : Rho} {v : AV} {vc : Value} (h : VR ρ v vc) : VRs ρ v.cells vc.cells.toList := by
  cases h with
  | agg cs vs hl h => exact ⟨by simpa [AV.cells, Value.cells] using hl, fun i v vc a b => h i v vc a (by simpa [Value.cells] using b)⟩
  | bool b => exact .cons (.bool b) .nil
  | int k n => exact .cons (.int k n) .nil
  | str s => exact .cons (.str s) .nil
  | ptrNil => exact .cons .ptrNil .nil
  | ptr h hc h1 h2 h3 => exact .cons (.ptr h hc h1 h2 h3) .nil
  | iter h => exact .cons (.iter h) .nil
  | slNil => exact .cons .slNil .nil
  | slZero a => exact .cons (.slZero a) .nil
  | sl h hc h1 h2 h3 h4 => exact .cons (.sl h hc h1 h2 h3 h4) .nil
  | slEnd a h => exact .cons (.slEnd a h) .nil
  | mapNil => exact .cons .mapNil .nil
  | map h => exact .cons (.map h) .nil
  | fn f cs vs hl h => exact .cons (.fn f cs vs hl h) .nil
  | nilfn => exact .cons .nilfn .nil
  | tup cs vs hl h => exact .cons (.tup cs vs hl h) .nil

theorem VR.one {ρ : Rho} {v : AV} {vc : Value} (h : VR ρ v vc) (hl : isLeaf v = true) : vc.oneCell' = true := by
  cases h <;> first | rfl | simp [isLeaf] at hl

/-! Constants. -/
theorem leafOk_VR {ρ : Rho} {v : Value} (h : leafOk v = true) : VR ρ (ofLeaf v) v := by
  unfold leafOk at h
  split at h
  · exact .bool _
  · exact .int _ _
  · exact .str _
  · exact .ptrNil
  · exact .slNil
  · exact .mapNil
  · exact .nilfn
  · simp at h

theorem leafOks_VRs {ρ : Rho} : ∀ {l : List Value}, l.all leafOk = true → VRs ρ (l.map ofLeaf) l
  | [], _ => .nil
  | v :: l, h => by
    simp only [List.all_cons, Bool.and_eq_true] at h
    exact .cons (leafOk_VR h.1) (leafOks_VRs h.2)

theorem constOk_VR {ρ : Rho} {v : Value} (h : constOk v = true) : VR ρ (ofConst v) v := by
  cases v with
  | agg cs => have := VR.mk_agg (leafOks_VRs (ρ := ρ) (l := cs.toList) h); rw [Array.toArray_toList] at this; exact this
  | tuple cs => have := VR.mk_tup (leafOks_VRs (ρ := ρ) (l := cs.toList) h); rw [Array.toArray_toList] at this; exact this
  | _ => simp only [constOk] at h; simp only [ofConst]; exact leafOk_VR h

/-! Memory. -/
structure CR (B : Nat) (ρ : Rho) (w : World) (xs : List AV) (md : Md) (c : Copy) : Prop where
  lo : c.lo ≤ c.hi
  hi : c.hi ≤ xs.length
  cell : ∀ j, c.lo ≤ j → j < c.hi → ∃ v vc, xs[j]? = some v ∧ w.cell? ⟨c.blk, c.boff + (j - c.lo), none⟩ = some vc ∧ VR ρ v vc ∧ vc.oneCell' = true
  ro : md = .ro → c.blk < B
  own : md ≠ .ro → c.boff = 0 ∧ B ≤ c.blk ∧ c.hi - c.lo ≤ c.sz ∧ ∃ C T fz, w.heap[c.blk]? = some (.cells C T fz) ∧ C.size = c.sz ∧ (fz.1 = fz.2 ∨ C.size ≤ fz.1)

def OR (B : Nat) (ρ : Rho) (w : World) : AO → Loc → Prop
  | .cells xs z md, .cells z' cs => z' = z ∧ 0 < z ∧ (∀ c ∈ cs, CR B ρ w xs md c) ∧
      (md ≠ .ro → ∃ c0 rest, cs = c0 :: rest ∧ c0.hi = xs.length ∧ (∀ c ∈ rest, c.hi < xs.length) ∧ (md = .own → rest = []) ∧ (∀ c ∈ rest, c.blk ≠ c0.blk))
  | .map es clock, .obj r => B ≤ r ∧ ∃ ces : Array MapEntry, w.heap[r]? = some (.map ces clock) ∧ es.length = ces.size ∧
      ∀ (i : Nat) e ce, es[i]? = some e → ces[i]? = some ce → VR ρ e.key ce.key ∧ VR ρ e.val ce.val ∧ e.born = ce.born
  | .siter s pos, .obj r => B ≤ r ∧ ∃ b, w.heap[r]? = some (.stringIter b pos) ∧ bytesL b = s
  | .miter none since seen last, .obj r => B ≤ r ∧ w.heap[r]? = some (.mapIter none since seen.toArray last)
  | .miter (some m) since seen last, .obj r => B ≤ r ∧ ∃ rm, ρ m = some (.obj rm) ∧ w.heap[r]? = some (.mapIter (some rm) since seen.toArray last)
  | .dead, _ => True
  | _, _ => False

def owns : AO → Loc → Nat → Prop
  | .cells _ _ md, .cells _ cs, b => md ≠ .ro ∧ ∃ c ∈ cs, c.blk = b
  | .cells .., .obj _, _ => False
  | .dead, _, _ => False
  | _, .obj r, b => r = b
  | _, .cells .., _ => False

/-- What is asked of the worlds that a run passes through, besides: nothing, or that draws are counted on. -/
class Grade where
  R : World → World → Prop
  refl : ∀ w, R w w
  trans : ∀ {a b c}, R a b → R b c → R a c
  mono : ∀ {a b : World}, a.drawn ≤ b.drawn → R a b
/-- .. nothing. -/
@[reducible] def Grade.triv : Grade := ⟨fun _ _ => True, fun _ => trivial, fun _ _ => trivial, fun _ => trivial⟩
/-- .. that the count of draws never falls. -/
@[reducible] def Grade.count : Grade := ⟨fun a b => a.drawn ≤ b.drawn, fun _ => Nat.le_refl _, fun h k => Nat.le_trans h k, fun h => h⟩
variable [Grade]
structure Bel (B : Nat) (w w' : World) : Prop where
  b : Below B w w'
  g : Grade.R w w'
theorem Bel.refl (B : Nat) (w : World) : Bel B w w := ⟨Below.refl _ _, Grade.refl _⟩
theorem Bel.trans {B : Nat} {a b c : World} (h : Bel B a b) (k : Bel B b c) : Bel B a c := ⟨h.b.trans k.b, Grade.trans h.g k.g⟩
theorem Bel.mono {B B' : Nat} {w w' : World} (h : Bel B w w') (hB : B' ≤ B) : Bel B' w w' := ⟨h.b.mono hB, h.g⟩
theorem Bel.size {B : Nat} {w w' : World} (h : Bel B w w') : w.heap.size ≤ w'.heap.size := h.b.size
theorem Bel.block {B : Nat} {w w' : World} (h : Bel B w w') : ∀ k, k < B → w'.heap[k]? = w.heap[k]? := h.b.block

structure Sim (B : Nat) (w0 : World) (ρ : Rho) (σ : H) (w : World) : Prop where
  below : Bel B w0 w
  size : B ≤ w.heap.size
  obj : ∀ id l, ρ id = some l → ∃ o, σ[id]? = some o ∧ OR B ρ w o l
  apart : ∀ i j oi oj li lj b, ρ i = some li → ρ j = some lj → σ[i]? = some oi → σ[j]? = some oj → owns oi li b → owns oj lj b → i = j

omit [Grade] in
theorem OR.lt {B : Nat} {ρ : Rho} {w : World} {o : AO} {l : Loc} {b : Nat} (h : OR B ρ w o l) (hb : owns o l b) : B ≤ b ∧ b < w.heap.size := by
  have lt : ∀ {r : Nat} {x : Obj}, w.heap[r]? = some x → r < w.heap.size := fun h => (Array.getElem?_eq_some_iff.1 h).1
  cases o with
  | cells xs z md =>
    cases l with
    | cells z' cs =>
      obtain ⟨hm, c, hc, rfl⟩ := hb
      obtain ⟨_, h2, _, C, T, fz, hh, _⟩ := (h.2.2.1 c hc).own hm
      exact ⟨h2, lt hh⟩
    | obj r => exact hb.elim
  | map es clock => cases l with | cells z' cs => exact hb.elim | obj r => obtain rfl : r = b := hb; obtain ⟨h1, ces, hh, _⟩ := h; exact ⟨h1, lt hh⟩
  | siter s pos => cases l with | cells z' cs => exact hb.elim | obj r => obtain rfl : r = b := hb; obtain ⟨h1, ces, hh, _⟩ := h; exact ⟨h1, lt hh⟩
  | miter m since seen last => cases l with
    | cells z' cs => exact hb.elim
    | obj r =>
      obtain rfl : r = b := hb
      cases m with
      | none => exact ⟨h.1, lt h.2⟩
      | some m => obtain ⟨h1, rm, _, hh⟩ := h; exact ⟨h1, lt hh⟩
  | dead => exact hb.elim

omit [Grade] in
theorem CR.keep {B : Nat} {ρ ρ' : Rho} {w w' : World} {xs : List AV} {md : Md} {c : Copy} (h : CR B ρ w xs md c) (hle : ρ.le ρ')
    (hag : w'.heap[c.blk]? = w.heap[c.blk]?) : CR B ρ' w' xs md c := by
  refine ⟨h.lo, h.hi, fun j h1 h2 => ?_, h.ro, fun hm => ?_⟩
  · obtain ⟨v, vc, e1, e2, e3, e4⟩ := h.cell j h1 h2
    exact ⟨v, vc, e1, (World.cell?_of_block (w := w) (a := ⟨c.blk, c.boff + (j - c.lo), none⟩) hag).trans e2, e3.mono hle, e4⟩
  · obtain ⟨h1, h2, h3, C, T, fz, e, r⟩ := h.own hm
    exact ⟨h1, h2, h3, C, T, fz, hag.trans e, r⟩

omit [Grade] in
theorem OR.keep {B : Nat} {ρ ρ' : Rho} {w w' : World} {o : AO} {l : Loc} (h : OR B ρ w o l) (hle : ρ.le ρ')
    (hag : ∀ k, k < B ∨ owns o l k → w'.heap[k]? = w.heap[k]?) : OR B ρ' w' o l := by
  cases o with
  | cells xs z md =>
    cases l with
    | cells z' cs =>
      refine ⟨h.1, h.2.1, fun c hc => (h.2.2.1 c hc).keep hle (hag _ ?_), h.2.2.2⟩
      by_cases hm : md = .ro
      · exact .inl ((h.2.2.1 c hc).ro hm)
      · exact .inr ⟨hm, c, hc, rfl⟩
    | obj r => exact h.elim
  | map es clock => cases l with
    | cells z' cs => exact h.elim
    | obj r =>
      obtain ⟨h1, ces, hh, hl, he⟩ := h
      exact ⟨h1, ces, (hag r (.inr rfl)).trans hh, hl, fun i e ce a b => ⟨(he i e ce a b).1.mono hle, (he i e ce a b).2.1.mono hle, (he i e ce a b).2.2⟩⟩
  | siter s pos => cases l with
    | cells z' cs => exact h.elim
    | obj r => obtain ⟨h1, b, hh, hl⟩ := h; exact ⟨h1, b, (hag r (.inr rfl)).trans hh, hl⟩
  | miter m since seen last => cases l with
    | cells z' cs => cases m <;> exact h.elim
    | obj r =>
      cases m with
      | none => exact ⟨h.1, (hag r (.inr rfl)).trans h.2⟩
      | some m => obtain ⟨h1, rm, hr, hh⟩ := h; exact ⟨h1, rm, hle.obj hr, (hag r (.inr rfl)).trans hh⟩
  | dead => trivial

/-- Nothing but the tape's count has moved. -/
theorem Sim.world {B : Nat} {w0 : World} {ρ : Rho} {σ : H} {w w' : World} (h : Sim B w0 ρ σ w) (hh : w'.heap = w.heap) (ho : w'.os = w.os) (ht : w'.tape = w.tape)
    (hu : w'.output = w.output) (hd : w.drawn ≤ w'.drawn) : Sim B w0 ρ σ w' := by
  refine ⟨h.below.trans ⟨⟨ho, ht, hu, by rw [hh]; exact Nat.le_refl _, fun k _ => by rw [hh]⟩, Grade.mono hd⟩, by rw [hh]; exact h.size, fun id l hl => ?_, h.apart⟩
  obtain ⟨o, e, hr⟩ := h.obj id l hl
  exact ⟨o, e, hr.keep (.refl ρ) fun k _ => by rw [hh]⟩

/-- Nothing but new blocks has come. -/
theorem Sim.grown {B : Nat} {w0 : World} {ρ : Rho} {σ : H} {w w' : World} (h : Sim B w0 ρ σ w) (hb : Bel w.heap.size w w') : Sim B w0 ρ σ w' := by
  refine ⟨h.below.trans (hb.mono h.size), Nat.le_trans h.size hb.size, fun id l hl => ?_, h.apart⟩
  obtain ⟨o, e, hr⟩ := h.obj id l hl
  refine ⟨o, e, hr.keep (.refl ρ) fun k hk => hb.block k ?_⟩
  rcases hk with hk | hk
  · exact Nat.lt_of_lt_of_le hk h.size
  · exact (hr.lt hk).2

theorem Sim.drew {B : Nat} {w0 : World} {ρ : Rho} {σ : H} {w : World} (h : Sim B w0 ρ σ w) : Sim B w0 ρ σ w.drew := h.world rfl rfl rfl rfl (Nat.le_succ _)

def Rho.upd (ρ : Rho) (id : Nat) (l : Loc) : Rho := fun i => if i = id then some l else ρ i

theorem Sim.fresh {B : Nat} {w0 : World} {ρ : Rho} {σ : H} {w : World} (h : Sim B w0 ρ σ w) {id : Nat} (hid : σ.length ≤ id) : ρ id = none := by
  cases e : ρ id with
  | none => rfl
  | some l =>
    obtain ⟨o, ho, _⟩ := h.obj id l e
    have := (List.getElem?_eq_some_iff.1 ho).1
    omega

theorem Sim.upd_le {B : Nat} {w0 : World} {ρ : Rho} {σ : H} {w : World} (h : Sim B w0 ρ σ w) (l : Loc) : ρ.le (ρ.upd σ.length l) := by
  intro id l' hl
  have hne : id ≠ σ.length := fun e => by rw [h.fresh (Nat.le_of_eq e.symm)] at hl; cases hl
  exact ⟨l', by simp [Rho.upd, hne, hl], .refl _⟩

/-- A new object, in new blocks. -/
theorem Sim.extend {B : Nat} {w0 : World} {ρ : Rho} {σ : H} {w w' : World} (h : Sim B w0 ρ σ w) (o : AO) (l : Loc) (hb : Bel w.heap.size w w')
    (hor : OR B (ρ.upd σ.length l) w' o l) (hown : ∀ b, owns o l b → w.heap.size ≤ b) : Sim B w0 (ρ.upd σ.length l) (σ ++ [o]) w' := by
  have hle := h.upd_le l
  refine ⟨h.below.trans (hb.mono h.size), Nat.le_trans h.size hb.size, fun id l' hl => ?_, fun i j oi oj li lj b hi hj ei ej bi bj => ?_⟩
  · by_cases e : id = σ.length
    · subst e
      simp [Rho.upd] at hl
      subst hl
      exact ⟨o, by simp, hor⟩
    · simp [Rho.upd, e] at hl
      obtain ⟨o', ho', hr⟩ := h.obj id l' hl
      refine ⟨o', by rw [List.getElem?_append_left (List.getElem?_eq_some_iff.1 ho').1]; exact ho', hr.keep hle fun k hk => hb.block k ?_⟩
      rcases hk with hk | hk
      · exact Nat.lt_of_lt_of_le hk h.size
      · exact (hr.lt hk).2
  · have key : ∀ (i : Nat) oi li, ρ.upd σ.length l i = some li → (σ ++ [o])[i]? = some oi → owns oi li b → (i = σ.length ∧ w.heap.size ≤ b) ∨ (ρ i = some li ∧ σ[i]? = some oi ∧ b < w.heap.size) := by
      intro i oi li hi ei bi
      by_cases e : i = σ.length
      · subst e
        simp [Rho.upd] at hi
        simp at ei
        subst hi ei
        exact .inl ⟨rfl, hown b bi⟩
      · simp [Rho.upd, e] at hi
        obtain ⟨o', ho', hr⟩ := h.obj i li hi
        have hlt := (List.getElem?_eq_some_iff.1 ho').1
        rw [List.getElem?_append_left hlt, ho'] at ei
        obtain rfl := Option.some.inj ei
        exact .inr ⟨hi, ho', (hr.lt bi).2⟩
    rcases key i oi li hi ei bi with ⟨a1, a2⟩ | ⟨a1, a2, a3⟩ <;> rcases key j oj lj hj ej bj with ⟨b1, b2⟩ | ⟨b1, b2, b3⟩
    · omega
    · omega
    · omega
    · exact h.apart i j oi oj li lj b a1 b1 a2 b2 bi bj

/-- An object turns: only blocks that it has, or new ones, have turned. -/
theorem Sim.change {B : Nat} {w0 : World} {ρ : Rho} {σ : H} {w w' : World} (h : Sim B w0 ρ σ w) {id : Nat} {o o' : AO} {l l' : Loc}
    (hl : ρ id = some l) (ho : σ[id]? = some o) (hle : LocLe l l') (hb : Bel B w w')
    (hag : ∀ k, k < w.heap.size → ¬ owns o l k → w'.heap[k]? = w.heap[k]?)
    (hor : OR B (ρ.upd id l') w' o' l') (hown : ∀ b, owns o' l' b → owns o l b ∨ w.heap.size ≤ b) :
    ρ.le (ρ.upd id l') ∧ Sim B w0 (ρ.upd id l') (σ.set id o') w' := by
  have hle' : ρ.le (ρ.upd id l') := by
    intro i li hi
    by_cases e : i = id
    · subst e; rw [hl] at hi; obtain rfl := Option.some.inj hi; exact ⟨l', by simp [Rho.upd], hle⟩
    · exact ⟨li, by simp [Rho.upd, e, hi], .refl _⟩
  have hlt := (List.getElem?_eq_some_iff.1 ho).1
  refine ⟨hle', h.below.trans hb, Nat.le_trans h.size hb.size, fun i li hi => ?_, fun i j oi oj li lj b hi hj ei ej bi bj => ?_⟩
  · by_cases e : i = id
    · subst e
      simp [Rho.upd] at hi
      subst hi
      exact ⟨o', by simp [hlt], hor⟩
    · simp [Rho.upd, e] at hi
      obtain ⟨oi, hoi, hr⟩ := h.obj i li hi
      refine ⟨oi, by rw [List.getElem?_set_ne (Ne.symm e)]; exact hoi, hr.keep hle' fun k hk => ?_⟩
      rcases hk with hk | hk
      · exact hb.block k hk
      · exact hag k (hr.lt hk).2 fun hk' => e (h.apart i id oi o li l k hi hl hoi ho hk hk')
  · have key : ∀ (i : Nat) oi li, ρ.upd id l' i = some li → (σ.set id o')[i]? = some oi → owns oi li b →
        (i = id ∧ (owns o l b ∨ w.heap.size ≤ b)) ∨ (i ≠ id ∧ ρ i = some li ∧ σ[i]? = some oi ∧ b < w.heap.size) := by
      intro i oi li hi ei bi
      by_cases e : i = id
      · subst e
        simp [Rho.upd] at hi
        simp [hlt] at ei
        subst hi ei
        exact .inl ⟨rfl, hown b bi⟩
      · simp [Rho.upd, e] at hi
        rw [List.getElem?_set_ne (Ne.symm e)] at ei
        obtain ⟨o1, ho1, hr⟩ := h.obj i li hi
        rw [ho1] at ei
        obtain rfl := Option.some.inj ei
        exact .inr ⟨e, hi, ho1, (hr.lt bi).2⟩
    rcases key i oi li hi ei bi with ⟨a1, a2⟩ | ⟨a0, a1, a2, a3⟩ <;> rcases key j oj lj hj ej bj with ⟨b1, b2⟩ | ⟨b0, b1, b2, b3⟩
    · rw [a1, b1]
    · rcases a2 with a2 | a2
      · exact absurd (h.apart id j o oj l lj b hl b1 ho b2 a2 bj).symm b0
      · omega
    · rcases b2 with b2 | b2
      · exact absurd (h.apart i id oi o li l b a1 hl a2 ho bi b2) a0
      · omega
    · exact h.apart i j oi oj li lj b a1 b1 a2 b2 bi bj

end Go.AM
