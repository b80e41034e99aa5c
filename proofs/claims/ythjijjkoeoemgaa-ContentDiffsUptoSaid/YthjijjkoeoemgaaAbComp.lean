/- From the model's operations to the abstract machine's: the types' sizes looked up once. -/
import Derived.Test.YthjijjkoeoemgaaAbMem
namespace Go.Proofs.Ythjijjkoeoemgaa.Ab
open Go

def absS : Value → Option SV
  | .bool b => some (.bool b)
  | .int k n => some (.int k n)
  | .string s => some (.str s.data.toList)
  | .pointer none => some .nilPtr
  | .slice none 0 0 => some .nilSlice
  | .nilFunc => some .nilFunc
  | .nilIface => some .nilIface
  | _ => none

def absSs : List Value → Option (List SV)
  | [] => some []
  | v :: l => match absS v, absSs l with
    | some s, some r => some (s :: r)
    | _, _ => none

def absV : Value → Option AV
  | .agg cs => match absSs cs.toList with
    | some l => some (.agg l)
    | none => none
  | .tuple vs => match vs.size with
    | 0 => some (.tup [])
    | _ => none
  | v => match absS v with
    | some s => some (.one s)
    | none => none

def compOpd : Operand → Option AOpd
  | .tmp t => some (.tmp t)
  | .const v => match absV v with
    | some a => some (.const a)
    | none => none
  | .func f => some (.const (.one (.func f [])))
  | .global _ => none

def compOpds : List Operand → Option (List AOpd)
  | [] => some []
  | x :: l => match compOpd x, compOpds l with
    | some a, some r => some (a :: r)
    | _, _ => none

def compOpt : Option Operand → Option (Option AOpd)
  | none => some none
  | some x => match compOpd x with
    | some a => some (some a)
    | none => none

/-- A type's number of cells. -/
def tSize (P : Program) (t : TypeId) : Option Nat := match P.info? t with
  | some i => some i.size
  | none => none

def tBytes (P : Program) (t : TypeId) : Option Nat := match P.info? t with
  | some i => some i.bytes
  | none => none

/-- A type's zero value, as cells. -/
def tZero (P : Program) (t : TypeId) : Option (List SV) := match P.info? t with
  | some i => match i.zero with
    | some v => match absV v with
      | some (.tup _) => none
      | some a => match Nat.beq a.cells.length i.size with
        | true => some a.cells
        | false => none
      | none => none
    | none => none
  | none => none

/-- none: one cell; some n: a struct or an array of n cells. -/
def tAgg (P : Program) (t : TypeId) : Option (Option Nat) := match P.underlying t with
  | some (.struct _) | some (.array _ _) => match tSize P t with
    | some n => some (some n)
    | none => none
  | some _ => some none
  | none => none

def tElem (P : Program) (t : TypeId) : Option TypeId := match P.underlying t with
  | some (.slice e) => some e
  | _ => none

/-- The parts of a struct, an array, a slice: where each lies, how many cells it has. -/
def compParts (place : Nat → Option (Nat × Nat)) : List (Nat × Operand) → Option (List (Nat × Nat × AOpd))
  | [] => some []
  | (i, x) :: l => match place i, compOpd x, compParts place l with
    | some (off, n), some a, some r => some ((off, n, a) :: r)
    | _, _, _ => none

def fieldPlaces (P : Program) (fields : Array Field) : Option (List (Nat × Nat)) :=
  fields.toList.mapM (fun f => (P.info? f.type).map fun i => (f.offset, i.size))

def eKind (P : Program) (t : TypeId) : Option EK := match P.underlying t with
  | some .bool => some .bool
  | some (.int _) => some .int
  | some .string => some .str
  | some (.pointer _) => some .ptr
  | some (.slice _) => some .slice
  | some (.func ..) => some .func
  | _ => none

/-- How many cells a type has: of one that is no struct or array, one. -/
def tWidth (P : Program) (t : TypeId) : Option Nat := match tAgg P t with
  | some (some n) => some n
  | some none => some 1
  | none => none

/-- The cells that '==' compares, of a struct's fields, by what they are at each field's type. -/
def eqFields (P : Program) (cells : TypeId → Nat → Option (List (Nat × EK))) (n base : Nat) : List Field → Option (List (Nat × EK))
  | [] => some []
  | f :: l => match f.name == "_" with
    | true => eqFields P cells n base l
    | false => match tWidth P f.type, cells f.type (base + f.offset), eqFields P cells n base l with
      | some k, some a, some b => match Nat.ble (f.offset + k) n with
        | true => some (a ++ b)
        | false => none
      | _, _, _ => none

/-- The cells that '==' at a type compares, each of one cell alone; by a depth. -/
def eqCells (P : Program) : Nat → TypeId → Nat → Option (List (Nat × EK))
  | 0, _, _ => none
  | d + 1, t, base => match P.underlying t with
    | some .bool => some [(base, .bool)]
    | some (.int _) => some [(base, .int)]
    | some .string => some [(base, .str)]
    | some (.struct fs) => match P.stoodInHeld t, tAgg P t with
      | false, some (some n) => eqFields P (eqCells P d) n base fs.toList
      | _, _ => none
    | _ => none

def compBin (P : Program) (op : BinOp) (t : TypeId) (x y : AOpd) : Option AOp :=
  match op with
  | .eql | .neq =>
    let neg := match op with | .neq => true | _ => false
    match P.underlying t with
    | some (.int _) | some .string => some (.bin op x y)
    | some (.struct _) => match P.eqGuardType P.depth t, eqCells P 12 t 0, tAgg P t with
      | false, some l, some (some n) => some (.eqvS neg n l x y)
      | _, _, _ => none
    | _ => match eKind P t with
      | some k => some (.eqv neg k x y)
      | none => none
  | _ => some (.bin op x y)

def compCall (P : Program) (c : Call) : Option AOp :=
  match c.callee with
  | .value f => match compOpd f, compOpds c.args.toList with
    | some f, some l => some (.call f l)
    | _, _ => none
  | .invoke _ _ => none
  | .builtin b => match b, compOpds c.args.toList, c.argTypes.toList with
    | .len, some [x], [t] => match P.underlying t with
      | some .string => some (.lenS x)
      | some (.slice _) => some (.len x)
      | some (.array n _) => some (.mov (.const (.one (.int .i64 n))))
      | some (.pointer arr) => match P.underlying arr with
        | some (.array n _) => some (.mov (.const (.one (.int .i64 n))))
        | _ => none
      | _ => none
    | .cap, some [x], [t] => match P.underlying t with
      | some (.slice _) => some (.cap x)
      | _ => none
    | .append, some [x, y], [t, u] => match tElem P t with
      | some e => match tSize P e, tBytes P e, tZero P e, P.underlying u with
        | some n, some b, some z, some (.int _) => match n with
          | 0 => none
          | n + 1 => some (.appendZ (n + 1) b z x y)
        | some n, some b, some z, some (.slice _) | some n, some b, some z, some .string => match n with
          | 0 => none
          | n + 1 => some (.append (n + 1) b z x y)
        | _, _, _, _ => none
      | none => none
    | .copy, some [x, y], [t, _] => match tElem P t with
      | some e => match tSize P e with
        | some (n + 1) => some (.copy (n + 1) x y)
        | _ => none
      | none => none
    | .max, some (x :: l), _ => some (.minmax true x l)
    | .min, some (x :: l), _ => some (.minmax false x l)
    | .clear, some [x], [t] => match tElem P t with
      | some e => match tSize P e, tZero P e with
        | some (n + 1), some z => some (.clear (n + 1) z x)
        | _, _ => none
      | none => none
    | _, _, _ => none

def compOp (P : Program) (o : Op) : Option AOp :=
  match o with
  | .move x | .assign x => match compOpd x with
    | some a => some (.mov a)
    | none => none
  | .pick c a b => match compOpd c, compOpd a, compOpd b with
    | some c, some a, some b => some (.pick c a b)
    | _, _, _ => none
  | .alloc t => match tZero P t with
    | some z => some (.new z)
    | none => none
  | .box _ x => match compOpd x with
    | some a => some (.box a)
    | none => none
  | .build t parts => match P.underlying t, tZero P t with
    | some (.struct fields), some z => match fieldPlaces P fields with
      | some places => match compParts (places.toArray[·]?) parts.toList with
        | some l => some (.build z l)
        | none => none
      | none => none
    | some (.array _ e), some z => match tSize P e with
      | some n => match compParts (fun i => some (i * n, n)) parts.toList with
        | some l => some (.build z l)
        | none => none
      | none => none
    | _, _ => none
  | .buildSlice t len parts => match tElem P t with
    | some e => match tSize P e, tZero P e with
      | some (n + 1), some z => match compParts (fun i => some (i * (n + 1), n + 1)) parts.toList, Nat.ble (len * (n + 1)) 16777216 with
        | some l, true => some (.bslice (n + 1) len z l)
        | _, _ => none
      | _, _ => none
    | none => none
  | .load t x => match tAgg P t, compOpd x with
    | some g, some a => some (.load g a)
    | _, _ => none
  | .store t a x => match tSize P t, compOpd a, compOpd x with
    | some n, some a, some x => some (.store n a x)
    | _, _, _ => none
  | .nilCheck x => match compOpd x with
    | some a => some (.nilck a)
    | none => none
  | .binOp op t x y _ => match compOpd x, compOpd y with
    | some x, some y => compBin P op t x y
    | _, _ => none
  | .unOp op _ x => match compOpd x with
    | some a => some (.un op a)
    | none => none
  | .convert src dst x => match compOpd x, P.underlying src, P.underlying dst with
    | some a, some _, some (.int k) => some (.conv k a)
    | _, _, _ => none
  | .makeFunc (.func f) first captured => match first.size, compOpds captured.toList with
    | 0, some l => some (.mkfn f l)
    | _, _ => none
  | .makeSlice t l c => match tElem P t with
    | some e => match tSize P e, tBytes P e, tZero P e with
      | some (n + 1), some b, some z => match compOpd l, compOpd c with
        | some l, some c => some (.mkslice (n + 1) b z l c)
        | _, _ => none
      | _, _, _ => none
    | none => none
  | .slice t x lo hi mx => match compOpd x, compOpt lo, compOpt hi, compOpt mx with
    | some x, some lo, some hi, some mx => match P.underlying t with
      | some .string => match mx with
        | none => some (.slstr x lo hi)
        | some _ => none
      | some (.slice e) => match tSize P e, hi.isNone && mx.isSome with
        | some (n + 1), false => some (.slice (n + 1) x lo hi mx)
        | _, _ => none
      | some (.array k e) => match tSize P e, mx with
        | some (n + 1), none => some (.slarr k (n + 1) x lo hi)
        | _, _ => none
      | some (.pointer arr) => match P.underlying arr with
        | some (.array k e) => match tSize P e, mx with
          | some (n + 1), none => some (.slarr k (n + 1) x lo hi)
          | _, _ => none
        | _ => none
      | _ => none
    | _, _, _, _ => none
  | .fieldAddr t x i => match compOpd x, P.underlying t with
    | some a, some (.struct fields) => match fields[i]? with
      | some f => match tSize P f.type with
        | some (_ + 1) => some (.faddr f.offset a)
        | _ => none
      | none => none
    | _, _ => none
  | .field t x i => match compOpd x, P.underlying t with
    | some a, some (.struct fields) => match fields[i]? with
      | some f => match tAgg P f.type with
        | some g => some (.field f.offset g a)
        | none => none
      | none => none
    | _, _ => none
  | .indexAddr t x i => match compOpd x, compOpd i, P.underlying t with
    | some x, some i, some (.slice e) => match tSize P e with
      | some (n + 1) => some (.iaddr (n + 1) x i)
      | _ => none
    | some x, some i, some (.array k e) => match tSize P e with
      | some n => some (.iaddrA k n x i)
      | none => none
    | _, _, _ => none
  | .index t x i => match compOpd x, compOpd i, P.underlying t with
    | some x, some i, some .string => some (.idxS x i)
    | some x, some i, some (.array k e) => match tSize P e, tAgg P e with
      | some n, some g => some (.idxA k n g.isSome x i)
      | _, _ => none
    | _, _, _ => none
  | .extract x i => match compOpd x with
    | some a => some (.extract a i)
    | none => none
  | .call c => compCall P c
  | _ => none

def compOper (P : Program) (ops : Array Oper) (o : Oper) : Option AOper :=
  match compOp P o.op with
  | some op => match o.guard with
    | none => some ⟨o.dst, op, none⟩
    | some (j, want) => match ops[j]? with
      | some g => match g.dst with
        | some d => some ⟨o.dst, op, some (d, want)⟩
        | none => none
      | none => none
  | none => none

def compOpers (P : Program) (ops : Array Oper) : List Oper → Option (List AOper)
  | [] => some []
  | o :: l => match compOper P ops o, compOpers P ops l with
    | some a, some r => some (a :: r)
    | _, _ => none

end Go.Proofs.Ythjijjkoeoemgaa.Ab
