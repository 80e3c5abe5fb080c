/-
  The abstract evaluator: definitions. A deterministic evaluator over the model's own code, on an abstract heap. No theorem of the program stands here.
-/
import Derived.Test.YtjbhfehboajpcaaGreatDoorAbAbs
import Derived.Orders
namespace Go.Ab
open Go

/-! ### A store by number -/
inductive Tr (α : Type) where
  | nil
  | node (v : Option α) (l r : Tr α)

namespace Tr
def get {α : Type} : Tr α → Nat → Option α
  | .nil, _ => none
  | .node v l r, n => bif Nat.beq n 0 then v else bif Nat.beq (n % 2) 1 then l.get (n / 2) else r.get (n / 2 - 1)
def setF {α : Type} : Nat → Tr α → Nat → α → Tr α
  | 0, t, _, _ => t
  | f + 1, .nil, n, x =>
    bif Nat.beq n 0 then .node (some x) .nil .nil else bif Nat.beq (n % 2) 1 then .node none (setF f .nil (n / 2) x) .nil else .node none .nil (setF f .nil (n / 2 - 1) x)
  | f + 1, .node v l r, n, x =>
    bif Nat.beq n 0 then .node (some x) l r else bif Nat.beq (n % 2) 1 then .node v (setF f l (n / 2) x) r else .node v l (setF f r (n / 2 - 1) x)
def set {α : Type} (t : Tr α) (n : Nat) (x : α) : Tr α := setF (n + 1) t n x
end Tr

def trGo {α : Type} : List α → Nat → Tr α → Tr α
  | [], _, t => t
  | x :: r, i, t => trGo r (i + 1) (t.set i x)
def trOf {α : Type} (l : List α) : Tr α := trGo l 0 .nil

/-- A frame: how many slots it has, and what stands there. -/
structure Fr where
  n : Nat
  tr : Tr Value

def lget (fr : Fr) (t : Nat) : Value := bif Nat.blt t fr.n then (match fr.tr.get t with | some v => v | none => undef) else undef
def lset (fr : Fr) (t : Nat) (v : Value) : Fr := bif Nat.blt t fr.n then { fr with tr := fr.tr.set t v } else fr
/-- A call's frame: the arguments, and room for the rest. -/
def frOf (args : List Value) (n : Nat) : Fr := { n := args.length + (n - args.length), tr := trOf args }

/-- What is known of a row's shape in the world: nothing; one variable of a type; variables of a type. -/
inductive Tag where
  | any | var (t : TypeId) | row (t : TypeId)

inductive Blk where
  | cells (cs : List Value) (ro : Bool) (ty : Tag)
  | map (es : List MapEntry) (clock : Nat)
  | siter (s : ByteArray) (pos : Nat)
  | loop (st : LoopState) (pending : Option Code) (tmps : Fr) (params : List Tmp) (assign body : Code)
  | abs (d : AbsData)
  | dead

/-- 'base': how many package-level variables there are; what lies below it lies where it lies in the world. -/
structure Heap where
  next : Nat
  tr : Tr Blk
  base : Nat := 0

def Heap.get (h : Heap) (b : Nat) : Option Blk := h.tr.get b
def Heap.set (h : Heap) (b : Nat) (x : Blk) : Heap := { h with tr := h.tr.set b x }
def Heap.push (h : Heap) (x : Blk) : Heap := { h with next := h.next + 1, tr := h.tr.set h.next x }

/-- The shape of a row that went on in place, or was made anew as variables of a type. -/
def keep (ty : Tag) (e : TypeId) : Tag := match ty with
  | .row t => bif Nat.beq t e then .row e else .any
  | _ => .any

/-- A capacity that is not known: this number and the element's cells. -/
def fuzz : Nat := 2 ^ 64

/-- What functions without a body do. -/
inductive Extn where
  | atomicLoad | atomicStore | atomicSwap | atomicCAS | atomicAdd | count | indexByte | noEscape | makeNoZero (t : TypeId)
  deriving DecidableEq

/-- What a contract says of a call: an answer; none; that the body is walked; a test first. -/
inductive Pri where
  | ans (v : Value) (h : Heap)
  | fail
  | walk
  | test (b : Bool) (yes no : Pri)

def Pri.out : Pri → Option (Option (Value × Heap))
  | .ans v h => some (some (v, h))
  | .fail => some none
  | .walk => none
  | .test b x y => bif b then x.out else y.out

structure Env where
  info : TypeId → Option TypeInfo
  und : TypeId → Option TypeDesc
  fn : FuncId → Option Func
  ext : FuncId → Option Extn
  prim : FuncId → Option (List Value → Heap → Pri)
  cmp : TypeId → Bool      -- structs and arrays that are compared: nothing in them is an interface, or stood in for

section
variable (E : Env)

def isAgg (t : TypeId) : Bool := match E.und t with
  | some (.struct _) => true
  | some (.array _ _) => true
  | _ => false
def size (t : TypeId) : Option Nat := match E.info t with | some i => some i.size | none => none
def zero (t : TypeId) : Option Value := match E.info t with | some i => i.zero | none => none

def readList : List Value → Nat → Nat → Option (List Value)
  | _, _, 0 => some []
  | [], _, _ + 1 => none
  | _ :: cs, o + 1, n => readList cs o n
  | c :: cs, 0, n + 1 => match readList cs 0 n with | some l => some (c :: l) | none => none

def splice : List Value → Nat → List Value → Option (List Value)
  | cs, _, [] => some cs
  | [], _, _ :: _ => none
  | c :: cs, o + 1, v :: vs => match splice cs o (v :: vs) with | some l => some (c :: l) | none => none
  | _ :: cs, 0, v :: vs => match splice cs 0 vs with | some l => some (v :: l) | none => none

def readCells (h : Heap) (b o n : Nat) : Option (List Value) := match h.get b with
  | some (.cells cs _ _) => readList cs o n
  | _ => none

def oneCell : Value → Bool
  | .agg _ => false
  | .tuple _ => false
  | _ => true

def writeCells (h : Heap) (b o : Nat) (vs : List Value) : Option Heap := match h.get b with
  | some (.cells cs false ty) =>
    if vs.all oneCell then match splice cs o vs with
      | some cs' => some (h.set b (.cells cs' false ty))
      | none => none
    else none
  | _ => none

def loadAt (h : Heap) (t : TypeId) (b o : Nat) : Option Value := match size E t with
  | some n =>
    if isAgg E t then match readCells h b o n with
      | some l => some (.agg l.toArray)
      | none => none
    else match E.und t with
      | none => none
      | some _ => match readCells h b o 1 with
        | some [v] => some v
        | _ => none
  | none => none

def load (h : Heap) (t : TypeId) : Value → Option Value
  | .pointer (some ⟨b, o, none⟩) => loadAt E h t b o
  | _ => none

def store (h : Heap) (t : TypeId) (a v : Value) : Option Heap := match a, size E t with
  | .pointer (some ⟨b, o, none⟩), some n => if v.cells.size = n then writeCells h b o v.cells.toList else none
  | _, _ => none

/-! ### Values -/
def fieldOf (t : TypeId) (f : Nat) : Option Field := match E.und t with
  | some (.struct fs) => fs[f]?
  | _ => none

def part (t : TypeId) (cs : List Value) (off : Nat) : Option Value := match size E t with
  | some n => if isAgg E t then some (.agg ((cs.drop off).take n).toArray)
    else match E.und t with
      | none => none
      | some _ => cs[off]?
  | none => none

def allEq (eq : TypeId → Value → Value → Option Bool) (xs ys : List Value) : List Field → Option Bool
  | [] => some true
  | f :: fs => if f.name = "_" then allEq eq xs ys fs else
    match part E f.type xs f.offset, part E f.type ys f.offset with
    | some x, some y => match eq f.type x y with
      | some true => allEq eq xs ys fs
      | some false => some false
      | none => none
    | _, _ => none

def arrEq (eq : TypeId → Value → Value → Option Bool) (e : TypeId) (n : Nat) (xs ys : List Value) : (count i : Nat) → Option Bool
  | 0, _ => some true
  | c + 1, i => match part E e xs (i * n), part E e ys (i * n) with
    | some x, some y => match eq e x y with
      | some true => arrEq eq e n xs ys c (i + 1)
      | some false => some false
      | none => none
    | _, _ => none

/-- `==`, where it hangs on no address. -/
def eqIn : Nat → TypeId → Value → Value → Option Bool
  | 0, _, _, _ => none
  | d + 1, t, x, y => match E.und t, x, y with
    | some .bool, .bool a, .bool b => some (a == b)
    | some (.int _), .int k a, .int k' b => if k = k' then some (a == b) else none
    | some .string, .string a, .string b => some (a == b)
    | some (.pointer _), .pointer none, .pointer b => some b.isNone
    | some (.pointer _), .pointer (some _), .pointer none => some false
    | some (.pointer e), .pointer (some ⟨b, o, none⟩), .pointer (some ⟨b', o', none⟩) => match size E e with
      | some n => if b = b' ∧ n ≠ 0 then some (o == o') else none
      | none => none
    | some (.interface _), .nilIface, .nilIface => some true
    | some (.interface _), .nilIface, .iface _ _ => some false
    | some (.interface _), .iface _ _, .nilIface => some false
    | some (.struct fs), .agg xs, .agg ys => if E.cmp t then allEq E (eqIn d) xs.toList ys.toList fs.toList else none
    | some (.array len e), .agg xs, .agg ys => match size E e with
      | some n => arrEq E (eqIn d) e n xs.toList ys.toList len 0
      | none => none
    | some (.slice _), .slice none _ _, .slice b _ _ => some b.isNone
    | some (.slice _), .slice (some _) _ _, .slice none _ _ => some false
    | some (.map _ _), .map none, .map b => some b.isNone
    | some (.map _ _), .map (some _), .map none => some false
    | some (.func _ _ _), .nilFunc, .nilFunc => some true
    | some (.func _ _ _), .nilFunc, .func _ _ _ => some false
    | some (.func _ _ _), .func _ _ _, .nilFunc => some false
    | _, _, _ => none

def binInt (op : BinOp) (k : IntKind) (a b : Int) : Option Value := match op with
  | .add => some (.int k (k.wrap (a + b)))
  | .sub => some (.int k (k.wrap (a - b)))
  | .mul => some (.int k (k.wrap (a * b)))
  | .quo => if b = 0 then none else some (.int k (k.wrap (a.tdiv b)))
  | .rem => if b = 0 then none else some (.int k (a.tmod b))
  | .and => some (.int k (k.wrap (BitVec.ofInt k.bits a &&& BitVec.ofInt k.bits b).toNat))
  | .or => some (.int k (k.wrap (BitVec.ofInt k.bits a ||| BitVec.ofInt k.bits b).toNat))
  | .xor => some (.int k (k.wrap (BitVec.ofInt k.bits a ^^^ BitVec.ofInt k.bits b).toNat))
  | .andNot => some (.int k (k.wrap (BitVec.ofInt k.bits a &&& ~~~BitVec.ofInt k.bits b).toNat))
  | .eql => some (.bool (a == b))
  | .neq => some (.bool (a != b))
  | .lss => some (.bool (a < b))
  | .leq => some (.bool (a ≤ b))
  | .gtr => some (.bool (a > b))
  | .geq => some (.bool (a ≥ b))
  | _ => none

/-- The longest text, and the most elements, that are made. -/
def most : Nat := 2 ^ 40

def binStr (op : BinOp) (a b : ByteArray) : Option Value := match op with
  | .add => if a.size + b.size ≤ most then some (.string (a ++ b)) else none
  | .eql => some (.bool (a.toList == b.toList))
  | .neq => some (.bool !(a.toList == b.toList))
  | .lss => some (.bool (Op.bytesLess a.toList b.toList))
  | .leq => some (.bool (Op.bytesLess a.toList b.toList || a.toList == b.toList))
  | .gtr => some (.bool !(Op.bytesLess a.toList b.toList || a.toList == b.toList))
  | .geq => some (.bool !(Op.bytesLess a.toList b.toList))
  | _ => none

def isNilConst : Operand → Bool
  | .const .nilIface => true
  | _ => false

/-- Two nil values of an interface type are compared only where one operand is the literal. -/
def bothNil : Value → Value → Bool
  | .nilIface, .nilIface => true
  | _, _ => false

def binop (op : BinOp) (t : TypeId) (cx cy : Bool) (x y : Value) : Option Value := match op, x, y with
  | .shl, .int k a, .int _ b => if b < 0 then none else some (.int k (k.wrap (a * 2 ^ min b.toNat k.bits)))
  | .shr, .int k a, .int _ b => if b < 0 then none else some (.int k (a.fdiv (2 ^ min b.toNat k.bits)))
  | op, .int k a, .int k' b => if k = k' then binInt op k a b else none
  | op, .string a, .string b => binStr op a b
  | .eql, .agg xs, .agg ys => if E.cmp t then match eqIn E 20 t (.agg xs) (.agg ys) with | some b => some (.bool b) | none => none else none
  | .neq, .agg xs, .agg ys => if E.cmp t then match eqIn E 20 t (.agg xs) (.agg ys) with | some b => some (.bool !b) | none => none else none
  | .eql, x, y => if bothNil x y && !(cx || cy) then none else match eqIn E 20 t x y with | some b => some (.bool b) | none => none
  | .neq, x, y => if bothNil x y && !(cx || cy) then none else match eqIn E 20 t x y with | some b => some (.bool !b) | none => none
  | _, _, _ => none

def unop (op : UnOp) (x : Value) : Option Value := match op, x with
  | .neg, .int k n => some (.int k (k.wrap (0 - n)))
  | .xor, .int k n => some (.int k (k.wrap (BitVec.ofInt k.bits (if k.signed then -1 else k.max) ^^^ BitVec.ofInt k.bits n).toNat))
  | .not, .bool b => some (.bool !b)
  | _, _ => none

def isSlice (t : TypeId) : Bool := match E.und t with | some (.slice _) => true | _ => false

def bytesOf : List Value → Option (List UInt8)
  | [] => some []
  | .int .u8 n :: r => match bytesOf r with | some l => some (UInt8.ofNat n.toNat :: l) | none => none
  | _ :: _ => none

def isUnsafe (t : TypeId) : Bool := match E.und t with | some .unsafePointer => true | _ => false

/-- One variable of a type, in memory. -/
def varAt (h : Heap) (t : TypeId) (b : Nat) : Bool := match h.get b, size E t with
  | some (.cells cs _ (.var u)), some n => Nat.beq t u && !Nat.beq n 0 && Nat.ble n cs.length
  | _, _ => false

/-- A pointer to one variable, seen as an unsafe one, and back. -/
def convPtr (h : Heap) (src dst : TypeId) (x : Value) : Option Value := match E.und src, E.und dst, x with
  | some (.pointer t), some .unsafePointer, .pointer (some ⟨b, 0, none⟩) => if varAt E h t b then some x else none
  | some .unsafePointer, some (.pointer t), .pointer (some ⟨b, 0, none⟩) => if varAt E h t b then some x else none
  | some (.pointer _), some .unsafePointer, .pointer none => some x
  | some .unsafePointer, some (.pointer _), .pointer none => some x
  | _, _, _ => none

/-- A conversion that makes no memory. -/
def convert (h : Heap) (src dst : TypeId) (x : Value) : Option Value := match E.und src, E.und dst, x with
  | some _, some (.int k), .int _ n => some (.int k (k.wrap n))
  | some _, some .string, .int _ n => some (.string (Utf8.encode n))
  | some _, some .string, .string s => some (.string s)
  | some (.slice e), some .string, .slice a len _ => match E.und e, a with
    | some (.int .u8), none => some (.string .empty)
    | some (.int .u8), some ⟨b, o, none⟩ => match readCells h b o len with
      | some l => match bytesOf l with | some bs => some (.string ⟨bs.toArray⟩) | none => none
      | none => none
    | _, _ => none
  | _, _, _ => none

/-- A row of bytes that comes of a text: it is marked, and stays. -/
def convertHeavy (h : Heap) (src dst : TypeId) (x : Value) : Option (Value × Heap) := match E.und src, E.und dst, x with
  | some (.slice _), some (.slice e), .slice (some ⟨b, o, none⟩) len cap => match E.und e, h.get b with
    | some (.int .u8), some (.cells cs false ty) => if src = dst ∧ cap < fuzz ∧ cap ≠ 0 then some (.slice (some ⟨b, o, none⟩) len cap, h.set b (.cells cs false ty)) else none
    | _, _ => none
  | _, _, _ => none

/-- A conversion that makes memory: a text's bytes. -/
def convertLight (src dst : TypeId) (x : Value) (id : Nat) : Option (Value × Blk) := match E.und src, E.und dst, x with
  | some .string, some (.slice e), .string s => match E.und e with
    | some (.int .u8) => some (.slice (some ⟨id, 0, none⟩) s.size (fuzz + 1), .cells (s.data.toList.map fun b => .int .u8 b.toNat) false .any)
    | _ => none
  | _, _, _ => none

def fillList (place : Nat → Option (Nat × Nat)) (cells : List Value) : List (Nat × Value) → Option (List Value)
  | [] => some cells
  | (i, v) :: rest => match place i with
    | none => none
    | some (off, n) => if v.cells.size ≠ n ∨ cells.length < off + n then none else match splice cells off v.cells.toList with
      | some cs => fillList place cs rest
      | none => none

def places : List Field → Option (List (Nat × Nat))
  | [] => some []
  | f :: fs => match size E f.type, places fs with
    | some n, some r => some ((f.offset, n) :: r)
    | _, _ => none

def build (t : TypeId) (parts : List (Nat × Value)) : Option Value := match zero E t, E.und t with
  | some z, some (.struct fs) => match places E fs.toList with
    | some ps => match fillList (fun i => ps[i]?) z.cells.toList parts with
      | some cs => some (.agg cs.toArray)
      | none => none
    | none => none
  | some z, some (.array _ e) => match size E e with
    | some n => match fillList (fun i => some (i * n, n)) z.cells.toList parts with
      | some cs => some (.agg cs.toArray)
      | none => none
    | none => none
  | _, _ => none

def repeatCells (z : List Value) : Nat → List Value
  | 0 => []
  | n + 1 => z ++ repeatCells z n

def zeros (e : TypeId) (n : Nat) : Option (List Value) := match zero E e, size E e with
  | some z, some s => if z.cells.size = s then some (repeatCells z.cells.toList n) else none
  | _, _ => none

def bytesOfT (t : TypeId) : Option Nat := match E.info t with | some i => some i.bytes | none => none

def buildSlice (t : TypeId) (len : Nat) (parts : List (Nat × Value)) (id : Nat) : Option (Value × Blk) := match E.und t with
  | some (.slice e) => match size E e, zeros E e len with
    | some n, some z => if len * n > 2 ^ 24 ∨ fuzz ≤ len then none else match fillList (fun i => some (i * n, n)) z parts with
      | some cs => some (.slice (some ⟨id, 0, none⟩) len len, .cells cs false .any)
      | none => none
    | _, _ => none
  | _ => none

def makeSlice (t : TypeId) (len cap : Value) (id : Nat) : Option (Value × Blk) := match E.und t, len, cap with
  | some (.slice e), .int _ l, .int _ c => match bytesOfT E e, size E e with
    | some by_, some _ =>
      if 0 ≤ l ∧ l ≤ c ∧ c ≤ most ∧ by_ * c.toNat ≤ most then match zeros E e c.toNat with
        | some z => some (.slice (some ⟨id, 0, none⟩) l.toNat c.toNat, .cells z false .any)
        | none => none
      else none
    | _, _ => none
  | _, _, _ => none

def bound (v : Option Value) (dflt most : Nat) : Option Nat := match v with
  | none => some dflt
  | some (.int _ i) => if 0 ≤ i ∧ i ≤ most then some i.toNat else none
  | some _ => none

def cutAt (a : Addr) (n : Nat) : Addr := if n = 0 then a else ⟨a.block, a.off + n, none⟩

def slice (t : TypeId) (x : Value) (lo hi mx : Option Value) : Option Value := match E.und t, x with
  | some .string, .string s => match mx with
    | some _ => none
    | none => match bound hi s.size s.size with
      | some h => match bound lo 0 h with
        | some l => some (.string (s.extract l h))
        | none => none
      | none => none
  | some (.slice e), .slice a len cap => match size E e with
    | none => none
    | some n => match mx with
      | some v => match bound (some v) 0 (if cap < fuzz then cap else len) with
        | some m => match hi with
          | none => none
          | some hv => match bound (some hv) 0 m with
            | some h => if fuzz ≤ m then none else match bound lo 0 h with
              | some l => some (.slice (if m = l then a else a.map (cutAt · (l * n))) (h - l) (m - l))
              | none => none
            | none => none
        | none => none
      | none =>
        if cap < fuzz then match bound hi len cap with
          | some h => match bound lo 0 h with
            | some l => some (.slice (if cap = l then a else a.map (cutAt · (l * n))) (h - l) (cap - l))
            | none => none
          | none => none
        else if cap = fuzz + n then match bound hi len len with
          | some h => match bound lo 0 h with
            | some l => some (.slice (a.map (cutAt · (l * n))) (h - l) cap)
            | none => none
          | none => none
        else none
  | some (.array len e), .pointer (some ⟨b, o, none⟩) => match size E e, mx with
    | some n, none => if fuzz ≤ len then none else match bound hi len len with
      | some h => match bound lo 0 h with
        | some l => some (.slice (some (if len = l then ⟨b, o, none⟩ else cutAt ⟨b, o, none⟩ (l * n))) (h - l) (len - l))
        | none => none
      | none => none
    | _, _ => none
  | _, _ => none

def fieldAddr (t : TypeId) (x : Value) (f : Nat) : Option Value := match fieldOf E t f, x with
  | some fd, .pointer (some ⟨b, o, none⟩) => match size E fd.type with
    | some 0 => none
    | some _ => some (.pointer (some ⟨b, o + fd.offset, none⟩))
    | none => none
  | _, _ => none

def field (t : TypeId) (x : Value) (f : Nat) : Option Value := match fieldOf E t f, x with
  | some fd, .agg cs => part E fd.type cs.toList fd.offset
  | _, _ => none

def indexAddr (t : TypeId) (x i : Value) : Option Value := match E.und t, x, i with
  | some (.slice e), .slice (some ⟨b, o, none⟩) len _, .int _ n =>
    if 0 ≤ n ∧ n < len then match size E e with
      | some s => some (.pointer (some ⟨b, o + n.toNat * s, none⟩))
      | none => none
    else none
  | some (.array len e), .pointer (some ⟨b, o, none⟩), .int _ n =>
    if 0 ≤ n ∧ n < len then match size E e with
      | some s => some (.pointer (some ⟨b, o + n.toNat * s, none⟩))
      | none => none
    else none
  | _, _, _ => none

def index (t : TypeId) (x i : Value) : Option Value := match E.und t, x, i with
  | some (.array len e), .agg cs, .int _ n =>
    if 0 ≤ n ∧ n < len then match size E e with
      | some s => part E e cs.toList (n.toNat * s)
      | none => none
    else none
  | some .string, .string s, .int _ n => if 0 ≤ n then match s.data.toList[n.toNat]? with | some c => some (.int .u8 c.toNat) | none => none else none
  | _, _, _ => none

/-- A key that is an integer, a text or a bool. -/
def keyEq : Value → Value → Option Bool
  | .int k a, .int k' b => if k = k' then some (a == b) else none
  | .string a, .string b => some (a == b)
  | .bool a, .bool b => some (a == b)
  | _, _ => none

def plainKey (t : TypeId) (v : Value) : Bool := match E.und t, v with
  | some (.int _), .int _ _ => true
  | some .string, .string _ => true
  | some .bool, .bool _ => true
  | _, _ => false

def find (k : Value) : List MapEntry → Nat → Option (Option (Nat × MapEntry))
  | [], _ => some none
  | e :: es, i => match keyEq k e.key with
    | some true => some (some (i, e))
    | some false => find k es (i + 1)
    | none => none

def lookup (h : Heap) (t : TypeId) (m k : Value) (ok : Bool) : Option Value := match E.und t with
  | some (.map kt et) =>
    if plainKey E kt k then match (match m with
        | .map none => some []
        | .map (some b) => match h.get b with | some (.map es _) => some es | _ => none
        | _ => none) with
      | some es => match find k es 0 with
        | some (some (_, e)) => some (if ok then .tuple #[e.val, .bool true] else e.val)
        | some none => match zero E et with
          | some z => some (if ok then .tuple #[z, .bool false] else z)
          | none => none
        | none => none
      | none => none
    else none
  | _ => none

def mapPut (h : Heap) (t : TypeId) (m k v : Value) : Option Heap := match E.und t, m with
  | some (.map kt _), .map (some b) =>
    if plainKey E kt k then match h.get b with
      | some (.map es c) => match find k es 0 with
        | some (some (i, _)) => some (h.set b (.map (es.modify i fun e => { e with key := k, val := v }) c))
        | some none => some (h.set b (.map (es ++ [{ key := k, val := v, born := c }]) (c + 1)))
        | none => none
      | _ => none
    else none
  | _, _ => none

def mapEntry (h : Heap) (t : TypeId) (m k : Value) : Option (Value × Heap) := match E.und t, m with
  | some (.map kt et), .map (some b) =>
    if plainKey E kt k then match h.get b with
      | some (.map es c) => match find k es 0 with
        | some (some (i, e)) => some (.tuple #[e.val, .int .i64 e.born], h.set b (.map (es.modify i fun e => { e with key := k }) c))
        | some none => match zero E et with
          | some z => some (.tuple #[z, .int .i64 c], h.set b (.map (es ++ [{ key := k, val := z, born := c }]) (c + 1)))
          | none => none
        | none => none
      | _ => none
    else none
  | _, _ => none

def entryStore (h : Heap) (m stamp v : Value) : Option Heap := match m, stamp with
  | .map (some b), .int _ n => match h.get b with
    | some (.map es c) => match es.findIdx? (fun e => (e.born : Int) == n) with
      | some i => some (h.set b (.map (es.modify i fun e => { e with val := v }) c))
      | none => none
    | _ => none
  | _, _ => none

def typeAssert (x : Value) (asserted : TypeId) (ok : Bool) : Option Value := match E.und asserted, x with
  | some (.interface _), _ => none
  | some _, .nilIface => if ok then match zero E asserted with | some z => some (.tuple #[z, .bool false]) | none => none else none
  | some _, .iface t v => if t = asserted then some (if ok then .tuple #[v, .bool true] else v)
    else if ok then match zero E asserted with | some z => some (.tuple #[z, .bool false]) | none => none else none
  | _, _ => none

def intsOf (k : IntKind) : List Value → Option (List Int)
  | [] => some []
  | .int k' n :: r => if k' = k then match intsOf k r with | some l => some (n :: l) | none => none else none
  | _ :: _ => none

def maxMin (big : Bool) : List Value → Option Value
  | .int k n :: r => match intsOf k r with
    | some l => some (.int k (l.foldl (fun x y => if big then (if y > x then y else x) else (if y < x then y else x)) n))
    | none => none
  | _ => none

def lenOf (h : Heap) (t : TypeId) (x : Value) : Option Value := match E.und t, x with
  | some .string, .string s => some (.int .i64 s.size)
  | some (.array n _), _ => some (.int .i64 n)
  | some (.slice _), .slice _ n _ => some (.int .i64 n)
  | some (.map _ _), .map none => some (.int .i64 0)
  | some (.map _ _), .map (some b) => match h.get b with | some (.map es _) => some (.int .i64 es.length) | _ => none
  | _, _ => none

def capOf (t : TypeId) (x : Value) : Option Value := match E.und t, x with
  | some (.array n _), _ => some (.int .i64 n)
  | some (.slice _), .slice _ _ n => if n < fuzz then some (.int .i64 n) else none
  | _, _ => none

/-- The cells of what is appended, and how many elements they are. -/
def news (h : Heap) (e : TypeId) (es : Nat) (d : Option TypeDesc) (x : Value) : Option (Nat × List Value) :=
  match d, x with
  | some (.int _), .int _ n => if 0 ≤ n ∧ n ≤ most then match zeros E e n.toNat, bytesOfT E e with | some z, some by_ => if n.toNat * by_ ≤ most then some (n.toNat, z) else none | _, _ => none else none
  | some (.int _), _ => none
  | _, .slice none 0 0 => some (0, [])
  | _, .slice (some ⟨b, o, none⟩) n _ => match readCells h b o (n * es) with | some l => some (n, l) | none => none
  | _, .string s => if es = 1 then some (s.size, s.data.toList.map fun c => .int .u8 c.toNat) else none
  | _, _ => none

def descOf (xt : Option TypeId) : Option (Option TypeDesc) := match xt with
  | none => some none
  | some t => match E.und t with | some d => some (some d) | none => none

def append (h : Heap) (st : TypeId) (xt : Option TypeId) (s x : Value) : Option (Value × Heap) := match E.und st, s, descOf E xt with
  | some (.slice e), .slice base len cap, some d => match size E e, bytesOfT E e, zero E e with
    | some es, some by_, some z => if es = 0 ∨ z.cells.size ≠ es then none else match news E h e es d x with
      | none => none
      | some (n, new) =>
        if most < len + n ∨ most < (len + n) * by_ then none else
        if cap < fuzz then
          if len + n ≤ cap then match base with
            | none => if n = 0 then some (.slice none len cap, h) else none
            | some ⟨b, o, none⟩ => match writeCells h b (o + len * es) new with
              | some h' => some (.slice (some ⟨b, o, none⟩) (len + n) cap, h')
              | none => none
            | _ => none
          else match (match base with
              | none => if len = 0 then some [] else none
              | some ⟨b, o, none⟩ => readCells h b o (len * es)
              | _ => none) with
            | some old => some (.slice (some ⟨h.next, 0, none⟩) (len + n) (fuzz + es), h.push (.cells (old ++ new) false (.row e)))
            | none => none
        else if cap = fuzz + es then
          if n = 0 then some (.slice base len cap, h) else match base with
            | some ⟨b, o, none⟩ => match h.get b with
              | some (.cells cs false ty) => match readList cs o (len * es) with
                | some old => if new.all oneCell then some (.slice (some ⟨h.next, 0, none⟩) (len + n) (fuzz + es), (h.set b .dead).push (.cells (old ++ new) false (keep ty e))) else none
                | none => none
              | _ => none
            | _ => none
        else none
    | _, _, _ => none
  | _, _, _ => none

def copy (h : Heap) (dt : TypeId) (d x : Value) : Option (Value × Heap) := match E.und dt, d with
  | some (.slice e), .slice base dl _ => match size E e with
    | some es => match news E h e es none x with
      | some (xl, _) =>
        if Nat.min xl dl = 0 then some (.int .i64 0, h) else match (match x with
          | .slice (some ⟨b, o, none⟩) _ _ => readCells h b o (Nat.min xl dl * es)
          | .string s => some ((s.data.toList.take (Nat.min xl dl)).map fun c => .int .u8 c.toNat)
          | _ => none), base with
        | some l, some ⟨b, o, none⟩ => match writeCells h b o l with | some h' => some (.int .i64 (Nat.min xl dl), h') | none => none
        | _, _ => none
      | none => none
    | none => none
  | _, _ => none

def clearSlice (h : Heap) (t : TypeId) (x : Value) : Option Heap := match E.und t, x with
  | some (.slice _), .slice none _ _ => some h
  | some (.slice e), .slice (some ⟨b, o, none⟩) n _ => if n = 0 then some h else match zeros E e n with
    | some z => writeCells h b o z
    | none => none
  | _, _ => none

/-- Where a slice's memory begins. -/
def sliceData : Value → Option Value
  | .slice none _ _ => some (.pointer none)
  | .slice (some ⟨b, o, none⟩) n c => if c < fuzz then (if c = 0 then none else some (.pointer (some ⟨b, o, none⟩))) else if n = 0 then none else some (.pointer (some ⟨b, o, none⟩))
  | _ => none

/-- Bytes in memory, seen as a text: they stay from then on. -/
def textAt (h : Heap) (t : TypeId) (p n : Value) : Option (Value × Heap) := match p, n with
  | .pointer none, .int _ n => if n = 0 then some (.string .empty, h) else none
  | .pointer (some ⟨b, o, none⟩), .int _ n =>
    if n = 0 then some (.string .empty, h) else if n < 0 ∨ (most : Int) < n then none else match E.und t, h.get b with
    | some (.pointer e), some (.cells cs false (.row e')) => match size E e with
      | some 1 => if e = e' then match readList cs o n.toNat with
          | some l => match bytesOf l with
            | some bs => some (.string ⟨bs.toArray⟩, h.set b (.cells cs true (.row e')))
            | none => none
          | none => none
        else none
      | _ => none
    | _, _ => none
  | _, _ => none

def countIn (c : UInt8) : List UInt8 → Nat → Int
  | [], n => n
  | x :: r, n => if x == c then countIn c r (n + 1) else countIn c r n
def indexIn (c : UInt8) : List UInt8 → Nat → Int
  | [], _ => -1
  | x :: r, i => if x == c then i else indexIn c r (i + 1)

def extern (h : Heap) : Extn → List Value → Option (Value × Heap)
  | .atomicLoad, [.pointer (some ⟨b, o, none⟩)] => match readCells h b o 1 with
    | some [.int .u64 n] => some (.int .u64 n, h)
    | _ => none
  | .atomicStore, [.pointer (some ⟨b, o, none⟩), v] => match writeCells h b o [v] with
    | some h' => some (.tuple #[], h')
    | none => none
  | .atomicSwap, [.pointer (some ⟨b, o, none⟩), v] => match readCells h b o 1, writeCells h b o [v] with
    | some [.int .u64 n], some h' => some (.int .u64 n, h')
    | _, _ => none
  | .atomicCAS, [.pointer (some ⟨b, o, none⟩), .int _ was, v] => match readCells h b o 1, writeCells h b o [v] with
    | some [.int .u64 n], some h' => some (.bool (n == was), if n == was then h' else h)
    | _, _ => none
  | .atomicAdd, [.pointer (some ⟨b, o, none⟩), .int _ y] => match readCells h b o 1 with
    | some [.int .u64 n] => match writeCells h b o [.int .u64 (IntKind.u64.wrap (n + y))] with
      | some h' => some (.int .u64 (IntKind.u64.wrap (n + y)), h')
      | none => none
    | _ => none
  | .noEscape, [x] => some (x, h)
  | .makeNoZero t, [.int .i64 n] => match E.und t with
    | some (.slice e) => if 0 ≤ n ∧ n ≤ most then some (.slice (some ⟨h.next, 0, none⟩) n.toNat (fuzz + 1), h.push (.cells [] false (.row e))) else none
    | _ => none
  | .count, [.string s, .int .u8 c] => some (.int .i64 (countIn (UInt8.ofNat c.toNat) s.data.toList 0), h)
  | .indexByte, [.string s, .int .u8 c] => some (.int .i64 (indexIn (UInt8.ofNat c.toNat) s.data.toList 0), h)
  | _, _ => none

/-! ### Operations -/
def val (fr : Fr) : Operand → Value
  | .tmp t => lget fr t
  | .const v => v
  | .global g => .pointer (some ⟨g, 0, none⟩)
  | .func f => .func (.func f) #[] #[]

def put (fr : Fr) (d : Option Tmp) (v : Value) : Fr := match d with | some t => lset fr t v | none => fr

inductive Kind where | pure | read | light | heavy
  deriving DecidableEq

def kind (o : Op) : Kind := match o with
  | .move _ | .assign _ | .pick .. | .build .. | .nilCheck _ | .binOp .. | .unOp .. | .makeInterface .. | .makeFunc .. | .slice .. | .fieldAddr .. | .field .. | .indexAddr .. | .index .. | .typeAssert .. | .extract .. => .pure
  | .convert s d _ => if isUnsafe E s || isUnsafe E d then .read else if isSlice E s then (if isSlice E d then .heavy else .read) else if isSlice E d then .light else .pure
  | .load .. | .lookup .. => .read
  | .alloc _ | .box .. | .buildSlice .. | .makeMap .. | .makeSlice .. => .light
  | .call { callee := .builtin .len, .. } | .call { callee := .builtin .cap, .. } | .call { callee := .builtin .max, .. } | .call { callee := .builtin .min, .. } => .read
  | _ => .heavy

def nilCheck : Value → Option Value
  | .pointer (some a) => some (.pointer (some a))
  | .func (.func f) a b => some (.func (.func f) a b)
  | .iface t v => some (.iface t v)
  | _ => none

/-- Operations that read at most (kinds pure, read). -/
def evRead (fr : Fr) (h : Heap) (o : Op) : Option Value := match o with
  | .move x | .assign x => some (val fr x)
  | .pick c a b => match val fr c with | .bool t => some (if t then val fr a else val fr b) | _ => none
  | .build t ps => build E t (ps.toList.map fun p => (p.1, val fr p.2))
  | .nilCheck x => nilCheck (val fr x)
  | .binOp op t x y _ => binop E op t (isNilConst x) (isNilConst y) (val fr x) (val fr y)
  | .unOp op _ x => unop op (val fr x)
  | .makeInterface t x => match E.und t with | some (.interface _) => none | some _ => some (.iface t (val fr x)) | none => none
  | .makeFunc f first cap => match f with | .yield _ => none | f => some (.func f (first.map (val fr)) (cap.map (val fr)))
  | .slice t x lo hi mx => slice E t (val fr x) (lo.map (val fr)) (hi.map (val fr)) (mx.map (val fr))
  | .fieldAddr t x f => fieldAddr E t (val fr x) f
  | .field t x f => field E t (val fr x) f
  | .indexAddr t x i => indexAddr E t (val fr x) (val fr i)
  | .index t x i => index E t (val fr x) (val fr i)
  | .typeAssert x _ t ok => typeAssert E (val fr x) t ok
  | .extract t i => match val fr t with | .tuple vs => vs[i]? | _ => none
  | .convert s d x => if isUnsafe E s || isUnsafe E d then convPtr E h s d (val fr x) else convert E h s d (val fr x)
  | .load t a => load E h t (val fr a)
  | .lookup t m k ok => lookup E h t (val fr m) (val fr k) ok
  | .call c => match c.callee with
    | .builtin .len => match c.argTypes[0]?, c.args[0]? with | some t, some x => lenOf E h t (val fr x) | _, _ => none
    | .builtin .cap => match c.argTypes[0]?, c.args[0]? with | some t, some x => capOf E t (val fr x) | _, _ => none
    | .builtin .max => maxMin true (c.args.toList.map (val fr))
    | .builtin .min => maxMin false (c.args.toList.map (val fr))
    | _ => none
  | _ => none

/-- Operations that make a block and do nothing else: the value, and the block of this number. -/
def evLight (fr : Fr) (id : Nat) (o : Op) : Option (Value × Blk) := match o with
  | .alloc e => match zero E e with | some z => some (.pointer (some ⟨id, 0, none⟩), .cells z.cells.toList false (.var e)) | none => none
  | .box t x => some (.pointer (some ⟨id, 0, none⟩), .cells (val fr x).cells.toList false (.var t))
  | .buildSlice t n ps => buildSlice E t n (ps.toList.map fun p => (p.1, val fr p.2)) id
  | .makeMap _ none => some (.map (some id), .map [] 0)
  | .makeSlice t l c => makeSlice E t (val fr l) (val fr c) id
  | .convert s d x => convertLight E s d (val fr x) id
  | _ => none

/-- What a method of a dynamic type is: the function, and its receiver (no promoted one). -/
def methodOf (h : Heap) (t : TypeId) (v : Value) (name : String) : Option (FuncId × Value) := match E.info t with
  | some i => match i.methods.toList.find? (fun m => m.name == name) with
    | some m => if m.path.size = 0 then match m.func, E.und t with
        | some (f, true), some (.pointer _) => some (f, v)
        | some (_, true), _ => none
        | some (f, false), some (.pointer e) => match load E h e v with | some x => some (f, x) | none => none
        | some (f, false), some _ => some (f, v)
        | _, _ => none
      else none
    | none => none
  | none => none

abbrev Ans := Option (Value × Heap)

/-- What a function's contract answers; nothing: its body is walked. -/
def primOf (f : FuncId) (args : List Value) (h : Heap) : Pri := match E.prim f with
  | some p => p args h
  | none => .walk

def evCallFn (cf : FuncId → List Value → Heap → Ans) (f : FuncId) (args : List Value) (h : Heap) : Ans := match (primOf E f args h).out with
  | some r => r
  | none => match E.ext f with
    | some e => extern E h e args
    | none => cf f args h

/-- A call of a function value. -/
def evInvoke (cf : FuncId → List Value → Heap → Ans) (yl : Nat → List Value → Heap → Ans) (f : Value) (args : List Value) (h : Heap) : Ans := match f with
  | .func (.func g) first cap => evCallFn E cf g (first.toList ++ args ++ cap.toList) h
  | .func (.yield l) first _ => yl l (first.toList ++ args) h
  | .func (.method name) first _ => match first.toList ++ args with
    | .iface t v :: rest => match methodOf E h t v name with
      | some (g, r) => evCallFn E cf g (r :: rest) h
      | none => none
    | _ => none
  | _ => none

def evHeavy (cf : FuncId → List Value → Heap → Ans) (yl : Nat → List Value → Heap → Ans) (fr : Fr) (h : Heap) (o : Op) : Ans := match o with
  | .store t a x => match store E h t (val fr a) (val fr x) with | some h' => some (undef, h') | none => none
  | .mapUpdate t m k x | .insert t m k x => match mapPut E h t (val fr m) (val fr k) (val fr x) with | some h' => some (undef, h') | none => none
  | .mapEntry t m k => mapEntry E h t (val fr m) (val fr k)
  | .entryStore _ m s x => match entryStore h (val fr m) (val fr s) (val fr x) with | some h' => some (undef, h') | none => none
  | .convert s d x => convertHeavy E h s d (val fr x)
  | .range t x => match E.und t, val fr x with
    | some .string, .string s => some (.pointer (some ⟨h.next, 0, none⟩), h.push (.siter s 0))
    | _, _ => none
  | .next it true => match val fr it with
    | .pointer (some ⟨b, 0, none⟩) => match h.get b with
      | some (.siter s pos) =>
        if pos < s.size then
          let r := Utf8.decode s pos
          some (.tuple #[.bool true, .int .i64 pos, .int .i32 r.1], h.set b (.siter s (pos + r.2)))
        else some (.tuple #[.bool false], h)
      | _ => none
    | _ => none
  | .call c => match c.callee with
    | .value f => evInvoke E cf yl (val fr f) (c.args.toList.map (val fr)) h
    | .invoke r name => match val fr r with
      | .iface t v => match methodOf E h t v name with
        | some (g, rc) => evCallFn E cf g (rc :: c.args.toList.map (val fr)) h
        | none => none
      | _ => none
    | .builtin .append => match c.argTypes[0]?, c.args[0]?, c.args[1]? with
      | some st, some s, some x => append E h st c.argTypes[1]? (val fr s) (val fr x)
      | _, _, _ => none
    | .builtin .copy => match c.argTypes[0]?, c.args[0]?, c.args[1]? with
      | some st, some s, some x => copy E h st (val fr s) (val fr x)
      | _, _, _ => none
    | .builtin .unsafeSliceData => match c.args.toList with
      | [s] => match sliceData (val fr s) with | some v => some (v, h) | none => none
      | _ => none
    | .builtin .unsafeString => match c.argTypes[0]?, c.args.toList with
      | some t, [p, n] => textAt E h t (val fr p) (val fr n)
      | _, _ => none
    | .builtin .clear => match c.argTypes[0]?, c.args[0]? with
      | some st, some s => match clearSlice E h st (val fr s) with | some h' => some (.tuple #[], h') | none => none
      | _, _ => none
    | _ => none
  | _ => none

/-- One operation, in the order of the text. -/
def evOp (cf : FuncId → List Value → Heap → Ans) (yl : Nat → List Value → Heap → Ans) (fr : Fr) (h : Heap) (o : Op) : Ans := match kind E o with
  | .heavy => evHeavy E cf yl fr h o
  | .light => match evLight E fr h.next o with | some (v, b) => some (v, h.push b) | none => none
  | _ => match evRead E fr h o with | some v => some (v, h) | none => none

/-! ### Regions -/
def isBool : Value → Bool → Bool
  | .bool b, c => b == c
  | _, _ => false

/-- Is an operation wanted? -/
def wants (ops : List Oper) (fr : Fr) (o : Oper) : Bool := match o.guard with
  | none => true
  | some (j, want) => match ops[j]? with
    | some oj => match oj.dst with | some d => isBool (lget fr d) want | none => false
    | none => false

def evSeq (cf : FuncId → List Value → Heap → Ans) (yl : Nat → List Value → Heap → Ans) (all : List Oper) : List Oper → Fr → Heap → Option (Fr × Heap)
  | [], fr, h => some (fr, h)
  | o :: os, fr, h =>
    if wants all fr o then match evOp E cf yl fr h o.op with
      | some (v, h') => evSeq cf yl all os (put fr o.dst v) h'
      | none => none
    else evSeq cf yl all os (put fr o.dst undef) h

/-- Equal values. -/
def veqL (eq : Value → Value → Bool) : List Value → List Value → Bool
  | [], [] => true
  | a :: as, b :: bs => eq a b && veqL eq as bs
  | _, _ => false
def fnEq (a b : Fn) : Bool := match a, b with
  | .func f, .func g => f == g
  | .method m, .method n => m == n
  | .yield l, .yield k => l == k
  | _, _ => false
def addrEq (a b : Addr) : Bool := a.block == b.block && a.off == b.off && a.spot == b.spot
def optEq (a b : Option Addr) : Bool := match a, b with
  | none, none => true
  | some a, some b => addrEq a b
  | _, _ => false
def veq : Nat → Value → Value → Bool
  | 0, _, _ => false
  | d + 1, x, y => match x, y with
    | .bool a, .bool b => a == b
    | .int k a, .int j b => (k == j) && a == b
    | .string a, .string b => a.data.toList == b.data.toList
    | .pointer a, .pointer b => optEq a b
    | .slice a n c, .slice b m e => optEq a b && n == m && c == e
    | .map a, .map b => a == b
    | .func f a b, .func g c e => fnEq f g && veqL (veq d) a.toList c.toList && veqL (veq d) b.toList e.toList
    | .nilFunc, .nilFunc => true
    | .iface t v, .iface u w => t == u && veq d v w
    | .nilIface, .nilIface => true
    | .agg a, .agg b => veqL (veq d) a.toList b.toList
    | .tuple a, .tuple b => veqL (veq d) a.toList b.toList
    | _, _ => false

structure Pend where
  at_ : Nat
  id : Nat
  blk : Blk

structure Seen where
  at_ : Nat
  before : Nat
  fr : Fr
  op : Op
  v : Value

structure RS where
  fr : Fr
  h : Heap
  pend : List Pend        -- blocks that are made, and not in the heap yet
  snaps : List (Nat × Heap)   -- the heap ahead of each heavy operation
  reads : List Seen

def addPend (bf : Nat) : List Pend → Heap → Heap
  | [], h => h
  | p :: ps, h => let h' := addPend bf ps h; if bf.testBit p.at_ then h'.set p.id p.blk else h'
def dropPend (bf : Nat) : List Pend → List Pend
  | [] => []
  | p :: ps => if bf.testBit p.at_ then dropPend bf ps else p :: dropPend bf ps
def allPend : List Pend → Heap → Heap
  | [], h => h
  | p :: ps, h => (allPend ps h).set p.id p.blk

def sameAt (bf : Nat) (pend : List Pend) (fr : Fr) (o : Op) (v : Value) (g : Heap) : Bool :=
  match evRead E fr (addPend bf pend g) o with
  | some u => veq 30 u v
  | none => false

def evDraw (cf : FuncId → List Value → Heap → Ans) (yl : Nat → List Value → Heap → Ans) (all : List Oper) (base : Nat) : List (Oper × Nat) → Nat → RS → Option RS
  | [], _, s => some s
  | (o, bf) :: os, i, s =>
    if wants all s.fr o then
      match kind E o.op with
      | .pure => match evRead E s.fr s.h o.op with
        | some v => evDraw cf yl all base os (i + 1) { s with fr := put s.fr o.dst v }
        | none => none
      | .light => match evLight E s.fr (base + i) o.op with
        | some (v, b) => evDraw cf yl all base os (i + 1) { s with fr := put s.fr o.dst v, pend := ⟨i, base + i, b⟩ :: s.pend }
        | none => none
      | .read => match evRead E s.fr (addPend bf s.pend s.h) o.op with
        | some v =>
          if s.snaps.all (fun x => bf.testBit x.1 || sameAt E bf s.pend s.fr o.op v x.2) then
            evDraw cf yl all base os (i + 1) { s with fr := put s.fr o.dst v, reads := ⟨i, bf, s.fr, o.op, v⟩ :: s.reads }
          else none
        | none => none
      | .heavy =>
        if s.snaps.all (fun x => bf.testBit x.1) then
          match evHeavy E cf yl s.fr (addPend bf s.pend s.h) o.op with
          | some (v, h') =>
            let pend' := dropPend bf s.pend
            if s.reads.all (fun q => bf.testBit q.at_ || sameAt E q.before pend' q.fr q.op q.v h') then
              evDraw cf yl all base os (i + 1) { fr := put s.fr o.dst v, h := h', pend := pend', snaps := (i, s.h) :: s.snaps, reads := s.reads }
            else none
          | none => none
        else none
    else evDraw cf yl all base os (i + 1) { s with fr := put s.fr o.dst undef }

def evRegion (cf : FuncId → List Value → Heap → Ans) (yl : Nat → List Value → Heap → Ans) (ops : Array Oper) (draw : Bool) (fr : Fr) (h : Heap) : Option (Fr × Heap) :=
  if draw then
    match evDraw E cf yl ops.toList h.next (ops.toList.zip (Region.before ops).toList) 0 { fr, h := { h with next := h.next + ops.size }, pend := [], snaps := [], reads := [] } with
    | some s => some (s.fr, allPend s.pend s.h)
    | none => none
  else evSeq E cf yl ops.toList ops.toList fr h

/-! ### What is asked of code -/
/-- A value that names no memory. -/
def plainD : Nat → Value → Bool
  | 0, _ => false
  | d + 1, v => match v with
    | .bool _ | .int _ _ | .string _ | .pointer none | .slice none 0 0 | .map none | .nilFunc | .nilIface => true
    | .iface _ v => plainD d v
    | .agg a => a.toList.all (plainD d)
    | .tuple a => a.toList.all (plainD d)
    | .func f a b => (match f with | .yield _ => false | _ => true) && a.toList.all (plainD d) && b.toList.all (plainD d)
    | _ => false

/-- A constant names no memory; a package-level variable is one of the program's. -/
def okOpnd (g : Nat) : Operand → Bool
  | .const v => plainD 50 v
  | .global i => i < g
  | _ => true

def okOp (g : Nat) (o : Op) : Bool := o.operands.toList.all (okOpnd g)

/-- Of a region that draws its order: edges lead back; two operations of which one writes what the other looks at, or writes, stand in an order. -/
def okDrawL (ops : Array Oper) : List (Oper × Nat) → Nat → List (Nat × Oper) → Bool
  | [], _, _ => true
  | (o, bf) :: r, i, seen => o.after.toList.all (fun e => !Region.binds .any e || decide (e.on < i)) && seen.all (fun x => bf.testBit x.1 || x.2.apart ops o) && okDrawL ops r (i + 1) ((i, o) :: seen)
def okDrawB (ops : Array Oper) : Bool := okDrawL ops (ops.toList.zip (Region.before ops).toList) 0 []

/-- Code that the evaluator may walk; 'rd': within a round of a range over a function. -/
def okCode (g : Nat) (rd : Bool) : Code → Bool
  | .region _ ops draw => ops.toList.all (fun o => okOp g o.op) && (!draw || okDrawB ops)
  | .seq a b => okCode g rd a && okCode g rd b
  | .cond c a b => okOpnd g c && okCode g rd a && okCode g rd b
  | .block _ b => okCode g rd b
  | .loop b => okCode g rd b
  | .scope b => okCode g rd b
  | .rangeFunc f _ as b => !rd && okOpnd g f && okCode g true as && okCode g true b
  | _ => true

/-! ### Code -/
inductive Ex where
  | normal
  | exit (id : Nat)
  | goto (l : Nat)
  | ret

abbrev Res := Option (Ex × Fr × Heap)

def loopN (body : Fr → Heap → Res) : Nat → Fr → Heap → Res
  | 0, _, _ => none
  | n + 1, fr, h => match body fr h with
    | some (.normal, fr', h') => loopN body n fr' h'
    | r => r

def endJump (c : Option Code) (fr : Fr) (h : Heap) : Res := match c with
  | none => some (.normal, fr, h)
  | some .ret => some (.ret, fr, h)
  | some (.exit id) => some (.exit id, fr, h)
  | some (.goto l) => some (.goto l, fr, h)
  | some _ => none

def putAll : List Tmp → List Value → Fr → Option Fr
  | [], [], fr => some fr
  | t :: ts, v :: vs, fr => putAll ts vs (lset fr t v)
  | _, _, _ => none

/-- A scope: a goto of one of its labels goes on behind it. -/
def scopeN (run : Code → Fr → Heap → Res) (body : Code) : Nat → Fr → Heap → Code → Res
  | 0, _, _, _ => none
  | n + 1, fr, h, c => match run c fr h with
    | some (.goto l, fr', h') => match findLabel body l with
      | some rest => scopeN run body n fr' h' rest
      | none => some (.goto l, fr', h')
    | r => r

def evCode (cf : FuncId → List Value → Heap → Ans) (yl : Nat → List Value → Heap → Ans) (run : Code → Fr → Heap → Res) (n : Nat) : Code → Fr → Heap → Res
  | .skip, fr, h => some (.normal, fr, h)
  | .region _ ops draw, fr, h => match evRegion E cf yl ops draw fr h with
    | some (fr', h') => some (.normal, fr', h')
    | none => none
  | .seq a b, fr, h => match evCode cf yl run n a fr h with
    | some (.normal, fr', h') => evCode cf yl run n b fr' h'
    | r => r
  | .cond c a b, fr, h => match val fr c with
    | .bool true => evCode cf yl run n a fr h
    | .bool false => evCode cf yl run n b fr h
    | _ => none
  | .block id b, fr, h => match evCode cf yl run n b fr h with
    | some (.exit j, fr', h') => if Nat.beq j id then some (.normal, fr', h') else some (.exit j, fr', h')
    | r => r
  | .loop b, fr, h => loopN (evCode cf yl run n b) n fr h
  | .rangeFunc f ps as body, fr, h =>
    match val fr f with
    | .func (.func g) first cap =>
      match cf g (first.toList ++ [.func (.yield h.next) #[] #[]] ++ cap.toList) (h.push (.loop .ready none fr ps.toList as body)) with
      | some (_, h2) => match h2.get h.next with
        | some (.loop st pe fr0 ps0 as0 b0) => match st with
          | .busy => none
          | _ => endJump pe fr (h2.set h.next (.loop .exhausted pe fr0 ps0 as0 b0))
        | _ => none
      | none => none
    | _ => none
  | .exit id, fr, h => some (.exit id, fr, h)
  | .scope b, fr, h => scopeN run b n fr h b
  | .label _, fr, h => some (.normal, fr, h)
  | .goto l, fr, h => some (.goto l, fr, h)
  | .ret, fr, h => some (.ret, fr, h)
  | .refuse _, _, _ => none

/-- The jump that is pending behind a round. -/
def jumpOf : Ex → Option Code
  | .normal => none
  | .ret => some .ret
  | .exit id => some (.exit id)
  | .goto l => some (.goto l)

def evYield (run : Code → Fr → Heap → Res) (l : Nat) (args : List Value) (h : Heap) : Ans := match h.get l with
  | some (.loop .ready _ fr0 ps as body) => match okCode h.base true as && okCode h.base true body, putAll ps args fr0 with
    | true, some fr => match run as fr h with
      | some (.normal, fr', h1) => match h1.get l with
        | some (.loop .ready pe1 fr1 ps1 as1 b1) => match run body fr' (h1.set l (.loop .busy pe1 fr1 ps1 as1 b1)) with
          | some (e, _, h2) => match h2.get l with
            | some (.loop _ _ fr2 ps2 as2 b2) => some (.bool (jumpOf e).isNone, h2.set l (.loop (if (jumpOf e).isNone then .ready else .done) (jumpOf e) fr2 ps2 as2 b2))
            | _ => none
          | none => none
        | _ => none
      | _ => none
    | _, _ => none
  | _ => none

def resultsOf (fr : Fr) (h : Heap) : List ResultVar → Option (List Value)
  | [] => some []
  | .tmp t :: r => match resultsOf fr h r with | some l => some (lget fr t :: l) | none => none
  | .cell a t :: r => match load E h t (lget fr a), resultsOf fr h r with | some v, some l => some (v :: l) | _, _ => none

def evBody (run : Code → Fr → Heap → Res) (fn : Func) (args : List Value) (h : Heap) : Ans := match fn.body with
  | none => none
  | some c => match run c (frOf args fn.ntmps) h with
    | some (.normal, fr, h') | some (.ret, fr, h') => match resultsOf E fr h' fn.results.toList with
      | some [v] => some (v, h')
      | some vs => some (.tuple vs.toArray, h')
      | none => none
    | _ => none

/-- Code, with so much fuel. -/
def run : Nat → Code → Fr → Heap → Res
  | 0 => fun _ _ _ => none
  | n + 1 => evCode E (fun f args h => match E.fn f with | some fn => evBody E (run n) fn args h | none => none) (evYield (run n)) (run n) n

def ev (n : Nat) (f : FuncId) (args : List Value) (h : Heap) : Ans := match E.fn f with
  | some fn => evBody E (run E n) fn args h
  | none => none
end
end Go.Ab
