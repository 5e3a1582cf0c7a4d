/- A part of the proof, under no conditions of its own: Ab3. -/
import Derived.Test.YtomkekilpdkjgaaDoorAb2
import Derived.Laws.BytesArg
/-
  The operations that only read, over abstract values.
-/
namespace Go.Ab
open Go Go.RowKit

def szOf (P : Program) (t : TypeId) : Option Nat := (P.info? t).map (·.size)
def descAgg : TypeDesc → Bool
  | .struct _ | .array _ _ => true
  | _ => false
def aggOf (P : Program) (t : TypeId) : Option Bool := (P.underlying t).map descAgg
def zeroOf (P : Program) (t : TypeId) : Option Value := (P.info? t).bind (·.zero)
/-- Offset and type of a field. -/
def fldOf (P : Program) (t : TypeId) (i : Nat) : Option (Nat × TypeId) :=
  match P.underlying t with
  | some (.struct fs) => (fs[i]?).map fun f => (f.offset, f.type)
  | _ => none
def elemS (P : Program) (t : TypeId) : Option TypeId :=
  match P.underlying t with
  | some (.slice e) => some e
  | _ => none
def elemA (P : Program) (t : TypeId) : Option (Nat × TypeId) :=
  match P.underlying t with
  | some (.array n e) => some (n, e)
  | _ => none
def isStr (P : Program) (t : TypeId) : Bool := match P.underlying t with | some .string => true | _ => false
def isIfc (P : Program) (t : TypeId) : Bool := match P.underlying t with | some (.interface _) => true | none => true | _ => false
def intOfT (P : Program) (t : TypeId) : Option IntKind := match P.underlying t with | some (.int k) => some k | _ => none
def ptrArr (P : Program) (t : TypeId) : Option Nat :=
  match P.underlying t with
  | some (.pointer a) => match P.underlying a with | some (.array n _) => some n | _ => none
  | _ => none

/-- A value of type t out of the cells from here on. -/
def cut (P : Program) (t : TypeId) (cs : List D) : Option D :=
  match aggOf P t with
  | some true => match szOf P t with
    | some k => if k ≤ cs.length then some (.agg (cs.take k)) else none
    | none => none
  | some false => cs.head?
  | none => none

def loadD (P : Program) (κ : Kp) (t : TypeId) : D → Option D
  | .ptr n off => match κ n with
    | some (.box _ cs) => cut P t (cs.drop off)
    | _ => none
  | .aptr n k i j => match κ n with
    | some (.arr _ k' rows) => if k' = k then (rows[i]?).bind fun r => cut P t (r.cells.drop j) else none
    | _ => none
  | .eptr cs => cut P t cs
  | _ => none

def nilD : D → Option D
  | .ptr n o => some (.ptr n o)
  | .aptr n k i j => some (.aptr n k i j)
  | .eptr cs => some (.eptr cs)
  | .func (.func f) a b => some (.func (.func f) a b)
  | _ => none

def intD (op : BinOp) (k : IntKind) (a b : Int) : Option Value :=
  match op with
  | .add => some (.int k (k.wrap (a + b)))
  | .sub => some (.int k (k.wrap (a - b)))
  | .mul => some (.int k (k.wrap (a * b)))
  | .quo => if b = 0 then none else some (.int k (k.wrap (a.tdiv b)))
  | .rem => if b = 0 then none else some (.int k (a.tmod b))
  | .eql => some (.bool (decide (a = b)))
  | .neq => some (.bool (!decide (a = b)))
  | .lss => some (.bool (decide (a < b)))
  | .leq => some (.bool (decide (a ≤ b)))
  | .gtr => some (.bool (decide (b < a)))
  | .geq => some (.bool (decide (b ≤ a)))
  | _ => none

def strD (op : BinOp) (a b : ByteArray) : Option Value :=
  match op with
  | .add => if a.size + b.size ≤ 9223372036854775807 then some (.string (a ++ b)) else none
  | .eql => some (.bool (decide (a = b)))
  | .neq => some (.bool (!decide (a = b)))
  | .lss => some (.bool (Op.bytesLess a.toList b.toList))
  | .gtr => some (.bool (!(Op.bytesLess a.toList b.toList || decide (a = b))))
  | _ => none

def isBoolT (P : Program) (t : TypeId) : Bool := match P.underlying t with | some .bool => true | _ => false
def isPtrT (P : Program) (t : TypeId) : Bool := match P.underlying t with | some (.pointer _) => true | _ => false
def eqR (op : BinOp) (b : Bool) : Option Value :=
  match op with
  | .eql => some (.bool b)
  | .neq => some (.bool (!b))
  | _ => none

def boolD (P : Program) (t : TypeId) (op : BinOp) (a b : Bool) : Option Value := if isBoolT P t then eqR op (decide (a = b)) else none
def ptrD (P : Program) (t : TypeId) (op : BinOp) (a b : Option Addr) : Option Value :=
  match b with
  | none => if isPtrT P t then eqR op a.isNone else none
  | _ => none

def binD (P : Program) (t : TypeId) (op : BinOp) : D → D → Option D
  | .val (.int k a), .val (.int k' b) => if k = k' then (intD op k a b).map .val else none
  | .val (.string a), .val (.string b) => (strD op a b).map .val
  | .val (.bool a), .val (.bool b) => (boolD P t op a b).map .val
  | .val (.pointer a), .val (.pointer b) => (ptrD P t op a b).map .val
  | .ptr _ _, .val (.pointer none) => if isPtrT P t then (eqR op false).map .val else none
  | .eptr _, .val (.pointer none) => if isPtrT P t then (eqR op false).map .val else none
  | .aptr _ _ _ _, .val (.pointer none) => if isPtrT P t then (eqR op false).map .val else none
  | _, _ => none

def unD (op : UnOp) : D → Option D
  | .val (.bool b) => match op with
    | .not => some (.val (.bool (!b)))
    | _ => none
  | .val (.int k n) => match op with
    | .neg => some (.val (.int k (k.wrap (0 - n))))
    | _ => none
  | _ => none

def isBytesT (P : Program) (t : TypeId) : Bool := match P.underlying t with
  | some (.slice e) => match P.underlying e with | some (.int .u8) => true | _ => false
  | _ => false
def numsOf : List D → Option (List Int)
  | [] => some []
  | .val (.int .u8 n) :: r => (numsOf r).map (n :: ·)
  | _ => none

def hasT (P : Program) (t : TypeId) : Bool := (P.underlying t).isSome

def convD (P : Program) (s d : TypeId) : D → Option D
  | .sl _ rows => if isBytesT P s = true ∧ isStr P d = true then (numsOf rows).map fun ns => .val (.string (strOfNums ns)) else none
  | .val (.int _ n) => match hasT P s, intOfT P d with
    | true, some k => some (.val (.int k (k.wrap n)))
    | _, _ => none
  | .val (.string b) => match hasT P s, isStr P d with
    | true, true => some (.val (.string b))
    | _, _ => none
  | _ => none

def fieldAddrD (P : Program) (t : TypeId) (x : D) (f : Nat) : Option D :=
  match fldOf P t f with
  | some (o, ft) => match szOf P ft with
    | some (_ + 1) => match x with
      | .ptr n off => some (.ptr n (off + o))
      | .aptr n k i j => some (.aptr n k i (j + o))
      | .eptr cs => some (.eptr (cs.drop o))
      | _ => none
    | _ => none
  | none => none

def fieldD (P : Program) (t : TypeId) (x : D) (f : Nat) : Option D :=
  match fldOf P t f with
  | some (o, ft) => match x with
    | .agg cs => cut P ft (cs.drop o)
    | _ => none
  | none => none

def at? (rows : List D) (i : Int) : Option D := if 0 ≤ i then rows[i.toNat]? else none

def indexAddrD (P : Program) (κ : Kp) (t : TypeId) (x i : D) : Option D :=
  match i with
  | .val (.int _ n) =>
    match elemS P t with
    | some e => match x with
      | .sl _ rows => (at? rows n).bind fun r => if szOf P e = some r.cells.length then some (.eptr r.cells) else none
      | .own nm _ => match κ nm with
        | some (.arr _ k rows) => if szOf P e = some k ∧ 0 ≤ n ∧ n < rows.length then some (.aptr nm k n.toNat 0) else none
        | _ => none
      | _ => none
    | none => match elemA P t with
      | some (m, e) => match szOf P e with
        | some k => if 0 ≤ n ∧ n < m then
            match x with
            | .ptr nm off => some (.ptr nm (off + n.toNat * k))
            | .eptr cs => some (.eptr (cs.drop (n.toNat * k)))
            | _ => none
          else none
        | none => none
      | none => none
  | _ => none

def indexD (P : Program) (t : TypeId) (x i : D) : Option D :=
  match i with
  | .val (.int _ n) => match x with
    | .val (.string s) => if isStr P t = true ∧ 0 ≤ n then (s[n.toNat]?).map fun b => .val (.int .u8 b.toNat) else none
    | _ => none
  | _ => none

def lenD (P : Program) (t : TypeId) (x : D) : Option D :=
  match x with
  | .val (.string s) => if isStr P t then some (.val (.int .i64 s.size)) else none
  | .sl _ rows => if (elemS P t).isSome then some (.val (.int .i64 rows.length)) else none
  | .own _ n => if (elemS P t).isSome then some (.val (.int .i64 n)) else none
  | .val (.slice _ n _) => if (elemS P t).isSome then some (.val (.int .i64 n)) else none
  | _ => none

/-- The cells with a part laid over them. -/
def over (cs : List D) (o : Nat) (new : List D) : List D := cs.take o ++ new ++ cs.drop (o + new.length)

def fillD (place : Nat → Option (Nat × Nat)) : List D → List (Nat × D) → Option (List D)
  | cs, [] => some cs
  | cs, (i, d) :: r => match place i with
    | none => none
    | some (o, k) => if d.cells.length = k ∧ o + k ≤ cs.length ∧ d.cells.all D.one = true then fillD place (over cs o d.cells) r else none

/-- Offset and size of each field. -/
def placesOf (P : Program) (t : TypeId) : Option (List (Nat × Nat)) :=
  match P.underlying t with
  | some (.struct fields) => fields.toList.mapM fun f => (P.info? f.type).map fun i => (f.offset, i.size)
  | _ => none

def buildD (P : Program) (t : TypeId) (ps : List (Nat × D)) : Option D :=
  match zeroOf P t, placesOf P t with
  | some z, some pl => (fillD (fun i => pl[i]?) (z.cells.toList.map .val) ps).map .agg
  | _, _ => none

def dopR (P : Program) (o : Oper) (e : Operand → D) (κ : Kp) : Option D :=
  match o.op with
  | .move x => some (e x)
  | .assign x => some (e x)
  | .pick c a b => match e c with
    | .val (.bool true) => some (e a)
    | .val (.bool false) => some (e b)
    | _ => none
  | .load t x => loadD P κ t (e x)
  | .nilCheck x => nilD (e x)
  | .binOp op t x y _ => binD P t op (e x) (e y)
  | .unOp op _ x => unD op (e x)
  | .convert s d x => convD P s d (e x)
  | .makeInterface t x => if isIfc P t then none else some (.iface t (e x))
  | .makeFunc fn a c => some (.func fn (a.toList.map e) (c.toList.map e))
  | .fieldAddr t x f => fieldAddrD P t (e x) f
  | .field t x f => fieldD P t (e x) f
  | .indexAddr t x i => indexAddrD P κ t (e x) (e i)
  | .index t x i => indexD P t (e x) (e i)
  | .extract t i => match e t with
    | .tup vs => vs[i]?
    | _ => none
  | .build t ps => buildD P t (ps.toList.map fun p => (p.1, e p.2))
  | .call c => match c.callee, c.args.toList, c.argTypes.toList with
    | .builtin .len, [x], [t] => lenD P t (e x)
    | _, _, _ => none
  | _ => none

def Yields (E : Ctx) (o : Oper) (e : Operand → D) (κ : Kp) (v : D) : Prop :=
  ∀ w0, E.A w0 → ∀ G w (ρ : Operand → Value), WF w0 G w → (∀ x ∈ o.op.operands, V G w (ρ x) (e x)) → Objs w0 G w κ →
    ∃ x, (execOp ρ o).run E.P w = .ok (.value x) w ∧ V G w x v

end Go.Ab
