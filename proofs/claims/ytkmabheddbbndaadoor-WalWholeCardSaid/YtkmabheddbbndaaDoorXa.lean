/- A deterministic abstract executor for the translated Go code: its definitions. It runs code on abstract values and an abstract heap; it knows no capacity and no order that Go leaves open. -/
import Derived.WalkKit
import Derived.Stop.Asserts
namespace Go.Xec

inductive T (α : Type) where
  | nil
  | node (v : Option α) (l r : T α)

noncomputable def T.get {α : Type} (t : T α) : Nat → Option α :=
  T.rec (fun _ => none) (fun v _ _ ihl ihr n => Nat.rec v (fun m _ => Nat.rec (ihl (m / 2)) (fun _ _ => ihr (m / 2)) (m % 2)) n) t

noncomputable def T.put {α : Type} (x : Option α) (f : Nat) : T α → Nat → T α :=
  Nat.rec (fun t _ => t) (fun _ ih t n =>
    T.rec (Nat.rec (.node x .nil .nil) (fun m _ => Nat.rec (.node none (ih .nil (m / 2)) .nil) (fun _ _ => .node none .nil (ih .nil (m / 2))) (m % 2)) n)
      (fun v l r _ _ => Nat.rec (.node x l r) (fun m _ => Nat.rec (.node v (ih l (m / 2)) r) (fun _ _ => .node v l (ih r (m / 2))) (m % 2)) n) t) f

noncomputable def T.set {α : Type} (t : T α) (n : Nat) (x : α) : T α := T.put (some x) (n + 1) t n
noncomputable def T.del {α : Type} (t : T α) (n : Nat) : T α := T.put none (n + 1) t n

inductive AV where
  | bool (b : Bool)
  | int (k : IntKind) (n : Int)
  | str (s : List UInt8)
  | nilp
  | ptr (β o : Nat)
  | nils
  | sl (β o len cap z : Nat)
  | sle
  | nilm
  | mp (β : Nat)
  | fn (f : Fn) (first captured : List AV)
  | nilf
  | ifc (t : TypeId) (v : AV)
  | nili
  | agg (cs : List AV)
  | tup (vs : List AV)
  | hnd (a : Addr)

mutual
def AV.beq : AV → AV → Bool
  | .bool a, .bool b => a == b
  | .int k a, .int j b => decide (k = j) && decide (a = b)
  | .str a, .str b => decide (a = b)
  | .nilp, .nilp => true
  | .ptr a b, .ptr c d => Nat.beq a c && Nat.beq b d
  | .nils, .nils => true
  | .sl a b c d e, .sl a' b' c' d' e' => Nat.beq a a' && Nat.beq b b' && Nat.beq c c' && Nat.beq d d' && Nat.beq e e'
  | .sle, .sle => true
  | .nilm, .nilm => true
  | .mp a, .mp b => Nat.beq a b
  | .fn f a c, .fn g b d => decide (f = g) && AV.beqs a b && AV.beqs c d
  | .nilf, .nilf => true
  | .ifc t v, .ifc u x => Nat.beq t u && AV.beq v x
  | .nili, .nili => true
  | .agg a, .agg b => AV.beqs a b
  | .tup a, .tup b => AV.beqs a b
  | _, _ => false
def AV.beqs : List AV → List AV → Bool
  | [], [] => true
  | a :: as, b :: bs => AV.beq a b && AV.beqs as bs
  | _, _ => false
end

inductive ABlk where
  | cells (n : Nat) (cs : T AV)
  | rom (n : Nat) (cs : T AV)
  | map (es : List (AV × AV × Nat)) (clock : Nat)

structure St where
  heap : T ABlk
  nxt : Nat

abbrev Fr := T AV

def AV.undef : AV := .tup []

/-- The cells of a value: a struct's or an array's, or itself. -/
def AV.cells : AV → List AV
  | .agg cs => cs
  | v => [v]

def AV.one : AV → Bool
  | .agg _ => false
  | .tup _ => false
  | _ => true

def absL (f : Value → Option AV) : List Value → Option (List AV)
  | [] => some []
  | v :: vs => match f v, absL f vs with
    | some a, some l => some (a :: l)
    | _, _ => none

def absV : Nat → Value → Option AV
  | 0, _ => none
  | n + 1, v => match v with
    | .bool b => some (.bool b)
    | .int k i => some (.int k i)
    | .string s => some (.str s.data.toList)
    | .pointer none => some .nilp
    | .slice none l c => match l, c with
      | 0, 0 => some .nils
      | _, _ => none
    | .map none => some .nilm
    | .nilFunc => some .nilf
    | .nilIface => some .nili
    | .agg cs => match absL (absV n) cs.toList with
      | some l => some (.agg l)
      | none => none
    | .tuple cs => match absL (absV n) cs.toList with
      | some l => some (.tup l)
      | none => none
    | _ => none

def depthV : Nat := 5

section
variable (P : Program)

noncomputable def aeval (fr : Fr) : Operand → Option AV
  | .tmp t => fr.get t
  | .const v => absV depthV v
  | .func f => some (.fn (.func f) [] [])
  | .global _ => none

def evalAll (ρ : Operand → Option AV) : List Operand → Option (List AV)
  | [] => some []
  | x :: xs => match ρ x, evalAll ρ xs with
    | some a, some l => some (a :: l)
    | _, _ => none

def sizeOfT (t : TypeId) : Option Nat := match P.info? t with
  | some i => some i.size
  | none => none

def bytesOfT (t : TypeId) : Option Nat := match P.info? t with
  | some i => some i.bytes
  | none => none

def aggT (t : TypeId) : Option Bool := match P.underlying t with
  | some (.struct _) => some true
  | some (.array _ _) => some true
  | some _ => some false
  | none => none

def zeroT (t : TypeId) : Option AV := match P.info? t with
  | some i => match i.zero with
    | some v => absV depthV v
    | none => none
  | none => none

def sliceElem (t : TypeId) : Option TypeId := match P.underlying t with
  | some (.slice e) => some e
  | _ => none

/-- A struct's field: offset, type, size. -/
def fieldT (s : TypeId) (f : Nat) : Option (Nat × TypeId × Nat) := match P.underlying s with
  | some (.struct fields) => match fields[f]? with
    | some fl => match sizeOfT P fl.type with
      | some z => some (fl.offset, fl.type, z)
      | none => none
    | none => none
  | _ => none

noncomputable def readN (cs : T AV) : Nat → Nat → Option (List AV)
  | _, 0 => some []
  | o, n + 1 => match cs.get o, readN cs (o + 1) n with
    | some a, some l => some (a :: l)
    | _, _ => none

noncomputable def writeL (cs : T AV) : Nat → List AV → T AV
  | _, [] => cs
  | o, a :: l => writeL (cs.set o a) (o + 1) l

/-- Reads some cells of a block. -/
noncomputable def St.read (st : St) (β o n : Nat) : Option (List AV) := match st.heap.get β with
  | some (.cells m cs) => match Nat.ble (o + n) m with
    | true => readN cs o n
    | false => none
  | some (.rom m cs) => match Nat.ble (o + n) m with
    | true => readN cs o n
    | false => none
  | _ => none

noncomputable def St.write (st : St) (β o : Nat) (l : List AV) : Option St := match st.heap.get β with
  | some (.cells m cs) => match Nat.ble (o + l.length) m && l.all AV.one with
    | true => some { st with heap := st.heap.set β (.cells m (writeL cs o l)) }
    | false => none
  | _ => none

noncomputable def blkOf (l : List AV) : ABlk := .cells l.length (writeL .nil 0 l)

def partA (t : TypeId) (cs : List AV) (off : Nat) : Option AV := match aggT P t with
  | some true => match sizeOfT P t with
    | some z => some (.agg ((cs.drop off).take z))
    | none => none
  | some false => cs[off]?
  | none => none

def fillA (place : Nat → Option (Nat × Nat)) (cells : List AV) : List (Nat × AV) → Option (List AV)
  | [] => some cells
  | (i, v) :: rest => match place i with
    | none => none
    | some (off, size) =>
      match Nat.beq v.cells.length size && Nat.ble (off + size) cells.length with
      | true => fillA place (cells.take off ++ v.cells ++ cells.drop (off + size)) rest
      | false => none

def placesA (fields : List Field) : Option (List (Nat × Nat)) := match fields with
  | [] => some []
  | f :: r => match sizeOfT P f.type, placesA r with
    | some z, some l => some ((f.offset, z) :: l)
    | _, _ => none

def cmpInt (op : BinOp) (a b : Int) : Option AV := match op with
  | .eql => some (.bool (a == b))
  | .neq => some (.bool (a != b))
  | .lss => some (.bool (decide (a < b)))
  | .leq => some (.bool (decide (a ≤ b)))
  | .gtr => some (.bool (decide (a > b)))
  | .geq => some (.bool (decide (a ≥ b)))
  | _ => none

def bitsA (op : BinOp) (k : IntKind) (a b : Int) : Option AV :=
  let x := BitVec.ofInt k.bits a
  let y := BitVec.ofInt k.bits b
  match op with
  | .and => some (.int k (k.wrap (x &&& y).toNat))
  | .or => some (.int k (k.wrap (x ||| y).toNat))
  | .xor => some (.int k (k.wrap (x ^^^ y).toNat))
  | .andNot => some (.int k (k.wrap (x &&& ~~~y).toNat))
  | _ => none

def arithA (op : BinOp) (k : IntKind) (a b : Int) : Option AV := match op with
  | .add => some (.int k (k.wrap (a + b)))
  | .sub => some (.int k (k.wrap (a - b)))
  | .mul => some (.int k (k.wrap (a * b)))
  | .quo => match decide (b = 0) with
    | true => none
    | false => some (.int k (k.wrap (a.tdiv b)))
  | .rem => match decide (b = 0) with
    | true => none
    | false => some (.int k (a.tmod b))
  | .and => bitsA .and k a b
  | .or => bitsA .or k a b
  | .xor => bitsA .xor k a b
  | .andNot => bitsA .andNot k a b
  | .shl => none
  | .shr => none
  | op => cmpInt op a b

def shiftA (op : BinOp) (k : IntKind) (a y : Int) : Option AV := match decide (y < 0) with
  | true => none
  | false => match op with
    | .shl => some (.int k (k.wrap (a * 2 ^ (min y.toNat k.bits))))
    | .shr => some (.int k (a.fdiv (2 ^ (min y.toNat k.bits))))
    | _ => none

def strA (op : BinOp) (x y : List UInt8) : Option AV := match op with
  | .add => match Nat.blt (x.length + y.length) 4611686018427387904 with
    | true => some (.str (x ++ y))
    | false => none
  | .eql => some (.bool (x == y))
  | .neq => some (.bool (!(x == y)))
  | .lss => some (.bool (Op.bytesLess x y))
  | .leq => some (.bool (Op.bytesLess x y || x == y))
  | .gtr => some (.bool (!(Op.bytesLess x y || x == y)))
  | .geq => some (.bool (!Op.bytesLess x y))
  | _ => none

def isConstO : Operand → Bool
  | .const _ => true
  | _ => false

/-- '==' on what is neither a number nor a text. -/
def eqA (x y : Operand) (t : TypeId) (a b : AV) : Option Bool :=
  match P.underlying t, a, b with
  | some .bool, .bool p, .bool q => some (p == q)
  | some (.pointer _), .nilp, .nilp => some true
  | some (.pointer _), .nilp, .ptr _ _ => some false
  | some (.pointer _), .ptr _ _, .nilp => some false
  | some (.interface _), .nili, .nili => match isConstO x || isConstO y with
    | true => some true
    | false => none
  | some (.interface _), .nili, .ifc _ _ => some false
  | some (.interface _), .ifc _ _, .nili => some false
  | some (.slice _), .nils, .nils => some true
  | some (.slice _), .nils, .sl _ _ _ _ _ => some false
  | some (.slice _), .sl _ _ _ _ _, .nils => some false
  | some (.map _ _), .nilm, .nilm => some true
  | some (.interface _), .ifc t a, .ifc u b => match Nat.beq t u with
    | false => some false
    | true => match (P.info? t).map (·.comparable), P.underlying t, a, b with
      | some true, some (.int _), .int k p, .int j q => match decide (k = j) with
        | true => some (p == q)
        | false => none
      | _, _, _, _ => none
  | some (.map _ _), .nilm, .mp _ => some false
  | some (.map _ _), .mp _, .nilm => some false
  | some (.func _ _ _), .nilf, .nilf => some true
  | some (.func _ _ _), .nilf, .fn _ _ _ => some false
  | some (.func _ _ _), .fn _ _ _, .nilf => some false
  | _, _, _ => none

def binA (op : BinOp) (t : TypeId) (x y : Operand) (a b : AV) : Option AV :=
  match a, b with
  | .int k p, .int j q => match op with
    | .shl => shiftA .shl k p q
    | .shr => shiftA .shr k p q
    | op => match decide (k = j) with
      | true => arithA op k p q
      | false => none
  | .str p, .str q => strA op p q
  | a, b => match op with
    | .eql => match eqA P x y t a b with
      | some r => some (.bool r)
      | none => none
    | .neq => match eqA P x y t a b with
      | some r => some (.bool (!r))
      | none => none
    | _ => none

def unA (op : UnOp) (a : AV) : Option AV := match op, a with
  | .neg, .int k n => some (.int k (k.wrap (0 - n)))
  | .not, .bool b => some (.bool (!b))
  | .xor, .int k n => bitsA .xor k (if k.signed then -1 else k.max) n
  | _, _ => none

def boundA (x : AV) (y : Nat) : Option Nat := match x with
  | .int _ i => match decide (0 ≤ i) && decide (i ≤ (y : Int)) with
    | true => some i.toNat
    | false => none
  | _ => none

/-- The bounds of a slice expression without a third index. -/
def boundsA (len cap : Nat) (lo hi : Option AV) : Option (Nat × Nat) :=
  match (match hi with
    | none => some len
    | some x => boundA x cap) with
  | none => none
  | some h => match lo with
    | none => some (0, h)
    | some x => match boundA x h with
      | some l => some (l, h)
      | none => none

def sliceA (t : TypeId) (x : AV) (lo hi : Option AV) : Option AV :=
  match P.underlying t with
  | some .string => match x with
    | .str s => match boundsA s.length s.length lo hi with
      | some (l, h) => some (.str ((s.drop l).take (h - l)))
      | none => none
    | _ => none
  | some (.slice e) => match sizeOfT P e with
    | none => none
    | some z => match x with
      | .nils => match boundsA 0 0 lo hi with
        | some _ => some .nils
        | none => none
      | .sl β o n c z' => match Nat.beq z z' with
        | true => match boundsA n c lo hi with
          | some (l, h) => match Nat.beq l 0 with
            | true => some (.sl β o h c z)
            | false => match Nat.beq c l with
              | true => some .sle
              | false => some (.sl β (o + l * z) (h - l) (c - l) z)
          | none => none
        | false => none
      | .sle => match boundsA 0 0 lo hi with
        | some _ => some .sle
        | none => none
      | _ => none
  | _ => none

def un1 (vs : List AV) : Option AV := match vs with
  | [a] => some a
  | _ => none

def un2 (vs : List AV) : Option (AV × AV) := match vs with
  | [a, b] => some (a, b)
  | _ => none

def indexAddrA (t : TypeId) (x ix : AV) : Option AV := match ix with
  | .int _ i => match P.underlying t with
    | some (.slice e) => match x with
      | .sl β o n _ _ => match decide (0 ≤ i) && decide (i < (n : Int)), sizeOfT P e with
        | true, some z => some (.ptr β (o + i.toNat * z))
        | _, _ => none
      | _ => none
    | some (.array n e) => match x with
      | .ptr β o => match decide (0 ≤ i) && decide (i < (n : Int)), sizeOfT P e with
        | true, some z => some (.ptr β (o + i.toNat * z))
        | _, _ => none
      | _ => none
    | _ => none
  | _ => none

def indexA (t : TypeId) (x ix : AV) : Option AV := match ix with
  | .int _ i => match P.underlying t with
    | some .string => match x with
      | .str s => match decide (0 ≤ i) with
        | true => match s[i.toNat]? with
          | some c => some (.int .u8 c.toNat)
          | none => none
        | false => none
      | _ => none
    | some (.array n e) => match x with
      | .agg cs => match decide (0 ≤ i) && decide (i < (n : Int)), sizeOfT P e with
        | true, some z => partA P e cs (i.toNat * z)
        | _, _ => none
      | _ => none
    | _ => none
  | _ => none

def buildA (t : TypeId) (parts : List (Nat × AV)) : Option AV := match zeroT P t with
  | some z => match P.underlying t with
    | some (.struct fields) => match placesA P fields.toList with
      | some pl => match fillA (fun i => pl[i]?) z.cells parts with
        | some cs => some (.agg cs)
        | none => none
      | none => none
    | some (.array _ e) => match sizeOfT P e with
      | some size => match fillA (fun i => some (i * size, size)) z.cells parts with
        | some cs => some (.agg cs)
        | none => none
      | none => none
    | _ => none
  | _ => none

def typeAssertA (x : AV) (t : TypeId) (ok : Bool) : Option AV := match P.underlying t with
  | some (.interface want) => match x with
    | .ifc u v => match P.info? u with
      | some i => match (lacking want i.methods).isEmpty with
        | true => some (if ok then .tup [.ifc u v, .bool true] else .ifc u v)
        | false => match ok with
          | true => match zeroT P t with
            | some z => some (.tup [z, .bool false])
            | none => none
          | false => none
      | none => none
    | .nili => match ok with
      | true => match zeroT P t with
        | some z => some (.tup [z, .bool false])
        | none => none
      | false => none
    | _ => none
  | some _ => match x with
    | .ifc u v => match Nat.beq u t with
      | true => some (if ok then .tup [v, .bool true] else v)
      | false => match ok with
        | true => match zeroT P t with
          | some z => some (.tup [z, .bool false])
          | none => none
        | false => none
    | _ => none
  | none => none

def lenPA (t : TypeId) (a : AV) : Option AV := match P.underlying t with
  | some .string => match a with
    | .str s => some (.int .i64 s.length)
    | _ => none
  | some (.slice _) => match a with
    | .nils => some (.int .i64 0)
    | .sl _ _ n _ _ => some (.int .i64 n)
    | .sle => some (.int .i64 0)
    | _ => none
  | some (.array n _) => some (.int .i64 n)
  | _ => none

/-- A slice expression's operands, told apart by which bounds there are. -/
def cutOps (lo hi : Option Operand) (vs : List AV) : Option (AV × Option AV × Option AV) := match lo with
  | none => match hi with
    | none => match vs with
      | [a] => some (a, none, none)
      | _ => none
    | some _ => match vs with
      | [a, h] => some (a, none, some h)
      | _ => none
  | some _ => match hi with
    | none => match vs with
      | [a, l] => some (a, some l, none)
      | _ => none
    | some _ => match vs with
      | [a, l, h] => some (a, some l, some h)
      | _ => none

/-- What an operation gives that looks at no memory; its operands' values in the operands' order. -/
def pureA (o : Op) (vs : List AV) : Option AV := match o with
  | .move _ => un1 vs
  | .assign _ => un1 vs
  | .pick _ _ _ => match vs with
    | [.bool true, a, _] => some a
    | [.bool false, _, b] => some b
    | _ => none
  | .nilCheck _ => match vs with
    | [.ptr β o] => some (.ptr β o)
    | [.ifc t v] => some (.ifc t v)
    | [.fn (.func f) a c] => some (.fn (.func f) a c)
    | _ => none
  | .binOp op t x y _ => match vs with
    | [a, b] => binA P op t x y a b
    | _ => none
  | .unOp op _ _ => match vs with
    | [a] => unA op a
    | _ => none
  | .convert src dst _ => match P.underlying src with
    | some (.int _) => match P.underlying dst with
      | some (.int k) => match vs with
        | [.int _ n] => some (.int k (k.wrap n))
        | _ => none
      | _ => none
    | some .string => match P.underlying dst with
      | some .string => match vs with
        | [.str s] => some (.str s)
        | _ => none
      | _ => none
    | _ => none
  | .makeInterface t _ => match P.underlying t with
    | some (.interface _) => none
    | some _ => match vs with
      | [a] => some (.ifc t a)
      | _ => none
    | none => none
  | .makeFunc f first captured => match Nat.beq vs.length (first.size + captured.size) with
    | true => some (.fn f (vs.take first.size) (vs.drop first.size))
    | false => none
  | .build t parts => match Nat.beq vs.length parts.size with
    | true => buildA P t ((parts.toList.map (·.1)).zip vs)
    | false => none
  | .fieldAddr s _ f => match fieldT P s f with
    | some (off, _, z) => match vs with
      | [.ptr β o] => match Nat.beq z 0 with
        | true => none
        | false => some (.ptr β (o + off))
      | _ => none
    | none => none
  | .field s _ f => match fieldT P s f with
    | some (off, t, _) => match vs with
      | [.agg cs] => partA P t cs off
      | _ => none
    | none => none
  | .indexAddr t _ _ => match vs with
    | [a, b] => indexAddrA P t a b
    | _ => none
  | .index t _ _ => match vs with
    | [a, b] => indexA P t a b
    | _ => none
  | .slice t _ lo hi none => match cutOps lo hi vs with
    | some (a, l, h) => sliceA P t a l h
    | none => none
  | .extract _ i => match vs with
    | [.tup l] => l[i]?
    | _ => none
  | .typeAssert _ _ t ok => match vs with
    | [a] => typeAssertA P a t ok
    | _ => none
  | .call c => match c.callee with
    | .builtin .len => match c.argTypes[0]? with
      | some t => match vs with
        | [a] => lenPA P t a
        | _ => none
      | none => none
    | .builtin .min => match vs with
      | [.int k a, .int _ b] => some (.int k (if b < a then b else a))
      | _ => none
    | .builtin .max => match vs with
      | [.int k a, .int _ b] => some (.int k (if a < b then b else a))
      | _ => none
    | _ => none
  | _ => none

def keyEq (a b : AV) : Option Bool := match a, b with
  | .int k x, .int j y => match decide (k = j) with
    | true => some (x == y)
    | false => none
  | .str x, .str y => some (x == y)
  | _, _ => none

def findA (k : AV) : List (AV × AV × Nat) → Nat → Option (Option (Nat × AV))
  | [], _ => some none
  | e :: es, i => match keyEq k e.1 with
    | some true => some (some (i, e.2.1))
    | some false => findA k es (i + 1)
    | none => none

/-- Maps whose keys are whole numbers or texts. -/
def mapT (t : TypeId) : Option (TypeId × TypeId) := match P.underlying t with
  | some (.map k e) => match P.underlying k with
    | some (.int _) => some (k, e)
    | some .string => some (k, e)
    | _ => none
  | _ => none

/-- Is a value of a plain key kind? -/
def keyOk (t : TypeId) (a : AV) : Bool := match P.underlying t, a with
  | some (.int _), .int _ _ => true
  | some .string, .str _ => true
  | _, _ => false

def bytesOfCells : List AV → Option (List UInt8)
  | [] => some []
  | .int .u8 n :: l => match bytesOfCells l with
    | some r => some (UInt8.ofNat n.toNat :: r)
    | none => none
  | _ => none

def giveA (e : TypeId) (ok : Bool) (r : Option (Nat × AV)) : Option AV := match r with
  | some (_, v) => some (if ok then .tup [v, .bool true] else v)
  | none => match zeroT P e with
    | some z => some (if ok then .tup [z, .bool false] else z)
    | none => none

noncomputable def loadA (st : St) (t : TypeId) (β o : Nat) : Option AV := match aggT P t with
  | some true => match sizeOfT P t with
    | some z => match st.read β o z with
      | some l => some (.agg l)
      | none => none
    | none => none
  | some false => match st.heap.get β with
    | some (.cells m cs) => match Nat.blt o m with
      | true => cs.get o
      | false => none
    | some (.rom m cs) => match Nat.blt o m with
      | true => cs.get o
      | false => none
    | _ => none
  | none => none

/-- A slice of an array behind a pointer. -/
noncomputable def sliceArrA (st : St) (t : TypeId) (x : AV) (lo hi : Option AV) : Option AV := match P.underlying t with
  | some (.array n e) => match sizeOfT P e with
    | none => none
    | some z => match x with
      | .ptr β o => match st.heap.get β with
        | some (.cells m _) => match Nat.ble (o + n * z) m with
          | true => match boundsA n n lo hi with
            | some (l, h) => match Nat.beq l 0 with
              | true => some (.sl β o h n z)
              | false => match Nat.beq n l with
                | true => some .sle
                | false => some (.sl β (o + l * z) (h - l) (n - l) z)
            | none => none
          | false => none
        | _ => none
      | _ => none
  | _ => none

/-- What an operation gives that looks at memory, and leaves it. -/
noncomputable def readA (st : St) (o : Op) (vs : List AV) : Option AV := match o with
  | .slice t _ lo hi none => match cutOps lo hi vs with
    | some (a, l, h) => sliceArrA P st t a l h
    | none => none
  | .load t _ => match vs with
    | [.ptr β o] => loadA P st t β o
    | _ => none
  | .lookup t _ _ ok => match mapT P t with
    | some (kt, e) => match vs with
      | [m, key] => match keyOk P kt key with
        | true => match m with
          | .nilm => giveA P e ok none
          | .mp β => match st.heap.get β with
            | some (.map es _) => match findA key es 0 with
              | some r => giveA P e ok r
              | none => none
            | _ => none
          | _ => none
        | false => none
      | _ => none
    | none => none
  | .convert src dst _ => match P.underlying src with
    | some (.slice e) => match P.underlying dst with
      | some .string => match P.underlying e with
        | some (.int .u8) => match vs with
          | [.nils] => some (.str [])
          | [.sle] => some (.str [])
          | [.sl β o n _ _] => match st.read β o n with
            | some l => match bytesOfCells l with
              | some s => some (.str s)
              | none => none
            | none => none
          | _ => none
        | _ => none
      | _ => none
    | _ => none
  | .call c => match c.callee with
    | .builtin .len => match c.argTypes[0]? with
      | some t => match P.underlying t with
        | some (.map _ _) => match vs with
          | [.nilm] => some (.int .i64 0)
          | [.mp β] => match st.heap.get β with
            | some (.map es _) => some (.int .i64 es.length)
            | _ => none
          | _ => none
        | _ => none
      | none => none
    | _ => none
  | _ => none

/-- What an operation gives that makes one new block, named 'nm', out of its operands alone. -/
noncomputable def allocA (nm : Nat) (o : Op) (vs : List AV) : Option (AV × ABlk) := match o with
  | .alloc e => match zeroT P e with
    | some z => match z.cells.all AV.one with
      | true => some (.ptr nm 0, blkOf z.cells)
      | false => none
    | none => none
  | .box _ _ => match vs with
    | [a] => some (.ptr nm 0, blkOf a.cells)
    | _ => none
  | .buildSlice t len parts => match sliceElem P t with
    | some e => match sizeOfT P e with
      | some z => match zeroT P e with
        | some zero => match Nat.ble (len * z) 16777216 && Nat.beq zero.cells.length z && Nat.blt 0 z && Nat.beq vs.length parts.size with
          | true => match fillA (fun i => some (i * z, z)) (List.replicate len zero.cells).flatten ((parts.toList.map (·.1)).zip vs) with
            | some cs => some (.sl nm 0 len len z, blkOf cs)
            | none => none
          | false => none
        | none => none
      | none => none
    | none => none
  | .makeMap _ none => some (.mp nm, .map [] 0)
  | .makeSlice t _ _ => match sliceElem P t with
    | some e => match vs with
      | [.int _ l, .int _ c] => match sizeOfT P e, bytesOfT P e, zeroT P e with
        | some z, some by_, some zero =>
          match decide (0 ≤ l) && decide (l ≤ c) && decide (c < 9223372036854775808) && decide ((by_ : Int) * c ≤ 281474976710656) && Nat.beq zero.cells.length z && Nat.blt 0 z with
          | true => some (.sl nm 0 l.toNat c.toNat z, blkOf (List.replicate c.toNat zero.cells).flatten)
          | false => none
        | _, _, _ => none
      | _ => none
    | none => none
  | _ => none

/-- The elements of a slice or a text that is appended or copied. -/
noncomputable def elemsA (st : St) (size : Nat) (x : AV) (n : Nat) : Option (List AV) := match x with
  | .nils => some []
  | .sle => some []
  | .sl β o _ _ _ => st.read β o (n * size)
  | .str s => some ((s.take n).map fun c => .int .u8 c.toNat)
  | _ => none

def lenA (x : AV) : Option Nat := match x with
  | .nils => some 0
  | .sle => some 0
  | .sl _ _ n _ _ => some n
  | .str s => some s.length
  | _ => none

def roomA (m by_ : Nat) : Bool := Nat.ble ((2 * m + 768) * by_) 281474976710656 && Nat.blt m 4611686018427387904

def zeroOk (e : TypeId) (z : Nat) : Bool := match zeroT P e with
  | some zero => Nat.beq zero.cells.length z
  | none => false

noncomputable def growT (cs : T AV) (o k : Nat) (old new : List AV) : T AV := match o with
  | 0 => writeL cs k new
  | _ + 1 => writeL .nil 0 (old ++ new)

/-- What is appended lies there as a list of cells, of m elements. -/
noncomputable def appendC (st : St) (e by_ z m : Nat) (new : List AV) (s : AV) : Option (AV × St) := match Nat.beq new.length (m * z) && new.all AV.one && zeroOk P e z with
  | false => none
  | true => match s with
    | .nils => match Nat.beq m 0 with
      | true => some (.nils, st)
      | false => match roomA m by_ with
        | true => some (.sl st.nxt 0 m m z, { heap := st.heap.set st.nxt (blkOf new), nxt := st.nxt + 1 })
        | false => none
    | .sl β o n c z' => match Nat.beq z z' with
     | false => none
     | true => match Nat.ble (n + m) c with
      | true => match st.write β (o + n * z) new with
        | some st' => some (.sl β o (n + m) c z, st')
        | none => none
      | false => match roomA (n + m) by_ with
        | true => match st.heap.get β with
          | some (.cells k cs) => match Nat.ble (o + n * z) k with
            | true => match readN cs o (n * z) with
              | some old => match Nat.beq o 0 with
                | true => some (.sl st.nxt 0 (n + m) (n + m) z, ⟨(st.heap.del β).set st.nxt (.cells ((n + m) * z) (growT cs o (n * z) old new)), st.nxt + 1⟩)
                | false => none
              | none => none
            | false => none
          | _ => none
        | false => none
    | _ => none

noncomputable def appendA (st : St) (t : TypeId) (s x : AV) : Option (AV × St) :=
  match sliceElem P t with
  | none => none
  | some e => match sizeOfT P e, bytesOfT P e, lenA x with
    | some z, some by_, some m => match elemsA st z x m with
      | none => none
      | some new => appendC P st e by_ z m new s
    | _, _, _ => none

def zcond (l : Int) (by_ zl z : Nat) : Bool := decide (0 ≤ l) && decide (l < 1000000000000) && decide (l * (by_ : Int) ≤ 281474976710656) && Nat.beq zl z && Nat.blt 0 z
/-- Append of a slice just made, so many zeros. -/
noncomputable def appendZ (st : St) (t : TypeId) (s x : AV) : Option (AV × St) := match x with
  | .int _ l => match sliceElem P t with
    | none => none
    | some e => match sizeOfT P e, bytesOfT P e, zeroT P e with
      | some z, some by_, some zero => match zcond l by_ zero.cells.length z with
        | true => appendC P st e by_ z l.toNat (List.replicate l.toNat zero.cells).flatten s
        | false => none
      | _, _, _ => none
  | _ => none

/-- What an operation does that turns memory; what makes one block out of its operands, and calls of functions, apart. -/
noncomputable def effA (st : St) (o : Op) (vs : List AV) : Option (AV × St) := match o with
  | .store t _ _ => match vs with
    | [.ptr β o, v] => match sizeOfT P t with
      | some z => match Nat.beq v.cells.length z with
        | true => match st.write β o v.cells with
          | some st' => some (.undef, st')
          | none => none
        | false => none
      | none => none
    | _ => none
  | .mapUpdate t _ _ _ | .insert t _ _ _ => match mapT P t with
    | some (kt, _) => match vs with
      | [.mp β, key, v] => match keyOk P kt key with
        | true => match st.heap.get β with
          | some (.map es clock) => match findA key es 0 with
            | some (some (i, _)) => some (.undef, { st with heap := st.heap.set β (.map (es.modify i fun e => (key, v, e.2.2)) clock) })
            | some none => some (.undef, { st with heap := st.heap.set β (.map (es ++ [(key, v, clock)]) (clock + 1)) })
            | none => none
          | _ => none
        | false => none
      | _ => none
    | none => none
  | .mapEntry t _ _ => match mapT P t with
    | some (kt, e) => match vs with
      | [.mp β, key] => match keyOk P kt key with
        | true => match st.heap.get β with
          | some (.map es clock) => match findA key es 0 with
            | some (some (i, v)) => match es[i]? with
              | some en => some (.tup [v, .int .i64 en.2.2], { st with heap := st.heap.set β (.map (es.modify i fun e => (key, e.2.1, e.2.2)) clock) })
              | none => none
            | some none => match zeroT P e with
              | some z => some (.tup [z, .int .i64 clock], { st with heap := st.heap.set β (.map (es ++ [(key, z, clock)]) (clock + 1)) })
              | none => none
            | none => none
          | _ => none
        | false => none
      | _ => none
    | none => none
  | .entryStore _ _ _ _ => match vs with
    | [.mp β, .int _ born, v] => match st.heap.get β with
      | some (.map es clock) => match es.findIdx? (fun e => (e.2.2 : Int) == born) with
        | some i => some (.undef, { st with heap := st.heap.set β (.map (es.modify i fun e => (e.1, v, e.2.2)) clock) })
        | none => none
      | _ => none
    | _ => none
  | .call c => match c.callee with
    | .builtin .append => match c.argTypes[0]?, c.argTypes[1]? with
      | some t, some t1 => match P.underlying t1 with
        | some (.slice _) => match vs with
          | [a, b] => appendA P st t a b
          | _ => none
        | some .string => match vs with
          | [a, b] => appendA P st t a b
          | _ => none
        | some (.int _) => match vs with
          | [a, b] => appendZ P st t a b
          | _ => none
        | _ => none
      | _, _ => none
    | .builtin .copy => match c.argTypes[0]? with
      | some t => match sliceElem P t with
        | some e => match vs with
          | [a, b] => match sizeOfT P e, lenA a, lenA b with
            | some z, some n, some m => match elemsA st z b (Nat.min m n) with
              | some l => match a with
                | .sl β o _ _ _ => match st.write β o l with
                  | some st' => some (.int .i64 (Nat.min m n : Nat), st')
                  | none => none
                | .nils => some (.int .i64 0, st)
                | _ => none
              | none => none
            | _, _, _ => none
          | _ => none
        | none => none
      | none => none
    | _ => none
  | _ => none

/-- Which function a call enters, and with what. -/
def targetA (o : Op) (vs : List AV) : Option (FuncId × List AV) := match o with
  | .call c => match c.callee with
    | .value _ => match vs with
      | .fn (.func g) first captured :: args => some (g, first ++ args ++ captured)
      | _ => none
    | .invoke _ name => match vs with
      | .ifc t v :: args => match P.info? t with
        | some i => match i.methods.find? (·.name == name) with
          | some m => match m.path.isEmpty, m.func, P.underlying t with
            | true, some (g, true), some (.pointer _) => some (g, v :: args)
            | true, some (g, false), some (.int _) => some (g, v :: args)
            | true, some (g, false), some (.struct _) => some (g, v :: args)
            | _, _, _ => none
          | none => none
        | none => none
      | _ => none
    | .builtin _ => none
  | _ => none

inductive Kind where
  | pure | read | alloc | eff | call

/-- Of which kind an operation is. -/
def kindOf (o : Op) : Kind := match o with
  | .move _ => .pure
  | .assign _ => .pure
  | .pick _ _ _ => .pure
  | .nilCheck _ => .pure
  | .binOp _ _ _ _ _ => .pure
  | .unOp _ _ _ => .pure
  | .makeInterface _ _ => .pure
  | .makeFunc _ _ _ => .pure
  | .build _ _ => .pure
  | .fieldAddr _ _ _ => .pure
  | .field _ _ _ => .pure
  | .indexAddr _ _ _ => .pure
  | .index _ _ _ => .pure
  | .slice t _ _ _ _ => match P.underlying t with
    | some (.array _ _) => .read
    | _ => .pure
  | .extract _ _ => .pure
  | .typeAssert _ _ _ _ => .pure
  | .load _ _ => .read
  | .lookup _ _ _ _ => .read
  | .alloc _ => .alloc
  | .box _ _ => .alloc
  | .buildSlice _ _ _ => .alloc
  | .makeMap _ _ => .alloc
  | .makeSlice _ _ _ => .alloc
  | .convert src _ _ => match P.underlying src with
    | some (.slice _) => .read
    | _ => .pure
  | .call c => match c.callee with
    | .builtin .len => match c.argTypes[0]? with
      | some t => match P.underlying t with
        | some (.map _ _) => .read
        | _ => .pure
      | none => .pure
    | .builtin .min => .pure
    | .builtin .max => .pure
    | .builtin _ => .eff
    | _ => .call
  | _ => .eff

abbrev Callee := FuncId → List AV → St → Option (AV × St)

/-- An operation of any kind: what it gives, and the state behind it. 'nm': the name of a new block. -/
noncomputable def stepA (call : Callee) (nm : Nat) (st : St) (o : Op) (vs : List AV) : Option (AV × St) := match kindOf P o with
  | .pure => match pureA P o vs with
    | some v => some (v, st)
    | none => none
  | .read => match readA P st o vs with
    | some v => some (v, st)
    | none => none
  | .alloc => match allocA P nm o vs with
    | some (v, b) => some (v, { st with heap := st.heap.set nm b })
    | none => none
  | .eff => effA P st o vs
  | .call => match targetA P o vs with
    | some (f, args) => call f args st
    | none => none

noncomputable def putA (n : Nat) (fr : Fr) (dst : Option Tmp) (v : AV) : Option Fr := match dst with
  | none => some fr
  | some d => match Nat.blt d n with
    | true => some (fr.set d v)
    | false => none

/-- Is an operation wanted, by its guard? -/
noncomputable def wantedA (ops : Array Oper) (fr : Fr) (o : Oper) : Option Bool := match o.guard with
  | none => some true
  | some (j, want) => match (ops[j]?).bind (·.dst) with
    | none => some false
    | some d => match fr.get d with
      | some (.bool b) => some (b == want)
      | some (.tup _) => some false
      | _ => none

/-- The operations one behind the other, in the order of the text. A new block's name is the next one. -/
noncomputable def seqA (call : Callee) (n : Nat) (ops : Array Oper) (l : List Oper) : Fr → St → Option (Fr × St) :=
  List.rec (fun fr st => some (fr, st)) (fun o _ ih fr st => match wantedA ops fr o with
    | some true => match evalAll (aeval fr) o.op.operands.toList with
      | some vs => match stepA P call st.nxt ⟨st.heap, st.nxt + 1⟩ o.op vs with
        | some (v, st') => match putA n fr o.dst v with
          | some fr' => ih fr' st'
          | none => none
        | none => none
      | none => none
    | some false => match putA n fr o.dst .undef with
      | some fr' => ih fr' st
      | none => none
    | none => none) l

/-- What was done at one operation of a region that draws its order. -/
structure Ent where
  o : Oper
  wanted : Bool
  vs : List AV
  v : AV
  fr : Fr
  pre : St
  post : St

/-- The operations in the order of the text, with all that was done; a new block's name goes by the operation's place. -/
noncomputable def traceA (call : Callee) (n : Nat) (ops : Array Oper) (base : Nat) (l : List Oper) : Nat → Fr → St → Option (List Ent × Fr × St) :=
  List.rec (fun _ fr st => some ([], fr, st)) (fun o _ ih i fr st => match wantedA ops fr o with
    | some true => match evalAll (aeval fr) o.op.operands.toList with
      | some vs => match stepA P call (base + i) st o.op vs with
        | some (v, st') => match putA n fr o.dst v with
          | some fr' => match ih (i + 1) fr' st' with
            | some (l, r) => some (⟨o, true, vs, v, fr, st, st'⟩ :: l, r)
            | none => none
          | none => none
        | none => none
      | none => none
    | some false => match putA n fr o.dst .undef with
      | some fr' => match ih (i + 1) fr' st with
        | some (l, r) => some (⟨o, false, [], .undef, fr, st, st⟩ :: l, r)
        | none => none
      | none => none
    | none => none) l

/-- For each operation the set of those that come ahead of it in every order. -/
def maskOf (acc : List Nat) : List Edge → Nat → Nat
  | [], s => s
  | e :: l, s => maskOf acc l (match Region.binds .any e with
    | true => s ||| (2 ^ e.on ||| acc.getD e.on 0)
    | false => s)

def masks : List Oper → List Nat → List Nat
  | [], acc => acc
  | o :: l, acc => masks l (acc ++ [maskOf acc o.after.toList 0])

def ahead (ms : List Nat) (i j : Nat) : Bool := (ms.getD j 0).testBit i

def isEff : Kind → Bool
  | .eff => true
  | .call => true
  | _ => false

def isAlloc : Kind → Bool
  | .alloc => true
  | _ => false

def isRead : Kind → Bool
  | .read => true
  | _ => false

/-- Two kinds of which one must be ahead of the other in every order. -/
def mustOrder (a b : Kind) : Bool := (isEff a && (isEff b || isAlloc b)) || (isAlloc a && (isEff b || isRead b))

/-- Two operations, i ahead of j in the text. -/
def pairB (ops : Array Oper) (ms : List Nat) (i j : Nat) (a b : Oper) : Bool :=
  ahead ms i j || (!mustOrder (kindOf P a.op) (kindOf P b.op) &&
    (match a.dst with
      | some d => !(b.looksAt ops).contains d
      | none => true) &&
    (match b.dst with
      | some d => !(a.looksAt ops).contains d
      | none => true))

def dstB (a b : Oper) : Bool := match a.dst, b.dst with
  | some d, some e => !Nat.beq d e
  | _, _ => true

def oneB (ms : List Nat) (j : Nat) (o : Oper) : Bool :=
  (o.after.toList.all fun e => !Region.binds .any e || Nat.blt e.on j) &&
  (match o.guard with
    | some (g, _) => ahead ms g j
    | none => true) &&
  (match o.op with
    | .select _ _ => false
    | _ => true)

def statIn (ops : Array Oper) (ms : List Nat) (j : Nat) (b : Oper) : Nat → List Oper → Bool
  | _, [] => true
  | i, a :: l => pairB P ops ms i j a b && dstB a b && statIn ops ms j b (i + 1) l

def statGo (ops : Array Oper) (ms : List Nat) (all : List Oper) : Nat → List Oper → Bool
  | _, [] => true
  | j, b :: l => oneB ms j b && statIn P ops ms j b 0 (all.take j) && statGo ops ms all (j + 1) l

/-- What is asked of a region's text. -/
def statB (ops : Array Oper) : Bool := statGo P ops (masks ops.toList []) ops.toList 0 ops.toList

/-- A look at memory that may come on the other side of an operation that turns it gives the same there. -/
noncomputable def readSame (st : St) (r : Ent) : Bool := match readA P st r.o.op r.vs with
  | some v => AV.beq v r.v
  | none => false

noncomputable def dynPair (ms : List Nat) (i j : Nat) (a b : Ent) : Bool :=
  match a.wanted && b.wanted with
  | false => true
  | true => match ahead ms i j with
    | true => true
    | false => match kindOf P a.o.op with
      | .read => match isEff (kindOf P b.o.op) with
        | true => readSame P b.post a
        | false => true
      | .eff => match isRead (kindOf P b.o.op) with
        | true => readSame P a.pre b
        | false => true
      | .call => match isRead (kindOf P b.o.op) with
        | true => readSame P a.pre b
        | false => true
      | _ => true

noncomputable def dynIn (ms : List Nat) (j : Nat) (b : Ent) : Nat → List Ent → Bool
  | _, [] => true
  | i, a :: l => dynPair P ms i j a b && dynIn ms j b (i + 1) l

noncomputable def dynGo (ms : List Nat) (all : List Ent) : Nat → List Ent → Bool
  | _, [] => true
  | j, b :: l => dynIn P ms j b 0 (all.take j) && dynGo ms all (j + 1) l

noncomputable def drawA (call : Callee) (n : Nat) (ops : Array Oper) (fr : Fr) (st : St) : Option (Fr × St) :=
  match statB P ops with
  | true => match traceA P call n ops st.nxt ops.toList 0 fr ⟨st.heap, st.nxt + ops.size⟩ with
    | some (tr, fr', st') => match dynGo P (masks ops.toList []) tr 0 tr with
      | true => some (fr', st')
      | false => none
    | none => none
  | false => none

inductive AEx where
  | normal | exit (id : Nat) | ret

noncomputable def execA (call : Callee) (n : Nat) (fuel : Nat) : Code → Fr → St → Option (AEx × Fr × St) :=
  Nat.rec (fun _ _ _ => none) (fun _ ih c fr st => match c with
    | .skip => some (.normal, fr, st)
    | .label _ => some (.normal, fr, st)
    | .ret => some (.ret, fr, st)
    | .exit id => some (.exit id, fr, st)
    | .region _ ops draw => match (match draw with
        | false => seqA P call n ops ops.toList fr st
        | true => drawA P call n ops fr st) with
      | some (fr', st') => some (.normal, fr', st')
      | none => none
    | .seq a b => match ih a fr st with
      | some (.normal, fr', st') => ih b fr' st'
      | r => r
    | .cond c a b => match aeval fr c with
      | some (.bool true) => ih a fr st
      | some (.bool false) => ih b fr st
      | _ => none
    | .block id b => match ih b fr st with
      | some (.exit i, fr', st') => match Nat.beq i id with
        | true => some (.normal, fr', st')
        | false => some (.exit i, fr', st')
      | r => r
    | .loop b => match ih b fr st with
      | some (.normal, fr', st') => ih (.loop b) fr' st'
      | r => r
    | .scope b => ih b fr st
    | _ => none) fuel

noncomputable def argsFr : Nat → List AV → Fr → Fr
  | _, [], fr => fr
  | i, a :: l, fr => argsFr (i + 1) l (fr.set i a)

noncomputable def resultsA (fr : Fr) (st : St) : List ResultVar → Option (List AV)
  | [] => some []
  | .tmp t :: r => match fr.get t, resultsA fr st r with
    | some a, some l => some (a :: l)
    | _, _ => none
  | .cell a t :: r => match fr.get a with
    | some (.ptr β o) => match loadA P st t β o, resultsA fr st r with
      | some a, some l => some (a :: l)
      | _, _ => none
    | _ => none

noncomputable def resultA (fr : Fr) (st : St) (rs : List ResultVar) : Option AV := match resultsA P fr st rs with
  | some [v] => some v
  | some l => some (.tup l)
  | none => none

noncomputable def bodyA (call : Callee) (loops : Nat) (fn : Func) (args : List AV) (st : St) : Option (AV × St) :=
  match fn.body with
  | none => none
  | some c => match fn.name == "runtime.NumGoroutine" with
    | true => none
    | false => match Nat.ble args.length fn.ntmps with
      | false => none
      | true => match execA P call fn.ntmps loops c (argsFr 0 args .nil) st with
        | some (.exit _, _, _) => none
        | some (_, fr, st') => match resultA P fr st' fn.results.toList with
          | some v => some (v, st')
          | none => none
        | none => none

/-- Functions are run, each callee's callees a level deeper; 'ext' comes first: callees by their contracts. -/
noncomputable def runE (ext : Callee) (loops : Nat) (depth : Nat) : Callee :=
  Nat.rec ext (fun _ ih f args st => match ext f args st with
    | some r => some r
    | none => match P.funcs[f]? with
      | none => none
      | some fn => bodyA P ih loops fn args st) depth

noncomputable def runA (loops : Nat) (depth : Nat) : Callee := runE P (fun _ _ _ => none) loops depth
end
end Go.Xec
