/- Whole functions: the evaluator of code, and where it comes from. -/
import Derived.Test.YthjijjkoeoemgaaAbOp8
import Derived.LoopN
namespace Go.Proofs.Ythjijjkoeoemgaa.Ab
open Go
set_option linter.unusedSimpArgs false
set_option linter.unusedVariables false

/-! ### a region whose order is open: run in the text's order, and held against the other orders -/
def SV.same : SV → SV → Bool
  | .bool a, .bool b => a == b
  | .int k a, .int k' b => decide (k = k') && decide (a = b)
  | .str a, .str b => beqL a b
  | .ptr i o, .ptr i' o' => Nat.beq i i' && Nat.beq o o'
  | .nilPtr, .nilPtr => true
  | .slice i o e l c, .slice i' o' e' l' c' => Nat.beq i i' && Nat.beq o o' && Nat.beq e e' && Nat.beq l l' && decide (c = c')
  | .nilSlice, .nilSlice => true
  | .nilFunc, .nilFunc => true
  | .nilIface, .nilIface => true
  | _, _ => false

def sameCells : List SV → List SV → Bool
  | [], [] => true
  | a :: l, b :: m => SV.same a b && sameCells l m
  | _, _ => false

def Md.same : Md → Md → Bool
  | .own, .own | .ro, .ro | .dead, .dead => true
  | _, _ => false

def sameObj : Option AObj → Option AObj → Bool
  | some a, some b => Md.same a.md b.md && sameCells a.cells b.cells
  | none, none => true
  | _, _ => false

def evTr (call : CallF) : List AOper → List AV → AHeap → Option (List (List AV × AHeap) × List AV × AHeap)
  | [], fr, σ => some ([(fr, σ)], fr, σ)
  | o :: l, fr, σ => match evOper call fr σ o with
    | some (fr', σ') => match evTr call l fr' σ' with
      | some (t, fr2, σ2) => some ((fr, σ) :: t, fr2, σ2)
      | none => none
    | none => none

/-- The load j reads, behind the operation i, what it reads ahead of it. -/
def pairOk (ops : List AOper) (tt : List (List AV × AHeap)) (p : Nat × Nat) : Bool :=
  match ops[p.2]?, tt[p.2]?, tt[p.1]?, tt[p.1 + 1]? with
  | some o, some (fj, _), some (_, s1), some (_, s2) => match wantedA fj o.guard with
    | false => true
    | true => match o.op with
      | .load _ x => match ev fj x with
        | .one (.ptr id _) => sameObj (s1.get id) (s2.get id)
        | _ => false
      | _ => false
  | _, _, _, _ => false

def pairsOk (ops : List AOper) (tt : List (List AV × AHeap)) : List (Nat × Nat) → Bool
  | [] => true
  | p :: l => pairOk ops tt p && pairsOk ops tt l

def evDraw (call : CallF) (ops : List AOper) (pairs : List (Nat × Nat)) (fr : List AV) (σ : AHeap) : Option (List AV × AHeap) :=
  match evTr call ops fr σ with
  | some (tt, fr', σ') => match pairsOk ops tt pairs with
    | true => some (fr', σ')
    | false => none
  | none => none

def evCode (call : CallF) (m : Nat) : ACode → List AV → AHeap → Out
  | .skip, fr, σ => some (.normal, fr, σ)
  | .region ops, fr, σ => match evOps call ops fr σ with
    | some (fr', σ') => some (.normal, fr', σ')
    | none => none
  | .draw ops pairs, fr, σ => match evDraw call ops pairs fr σ with
    | some (fr', σ') => some (.normal, fr', σ')
    | none => none
  | .seq a b, fr, σ => match evCode call m a fr σ with
    | some (.normal, fr', σ') => evCode call m b fr' σ'
    | r => r
  | .cond c a b, fr, σ => match ev fr c with
    | .one (.bool true) => evCode call m a fr σ
    | .one (.bool false) => evCode call m b fr σ
    | _ => none
  | .block id a, fr, σ => match evCode call m a fr σ with
    | some (.exit id', fr', σ') => match Nat.beq id' id with
      | true => some (.normal, fr', σ')
      | false => some (.exit id', fr', σ')
    | r => r
  | .loop a, fr, σ => evLoop (evCode call m a) m fr σ
  | .exit id, fr, σ => some (.exit id, fr, σ)
  | .ret, fr, σ => some (.ret, fr, σ)

def resOf (fr : List AV) (σ : AHeap) : AResult → Option AV
  | .tmp t => some (getSlot fr t)
  | .cell t agg => match getSlot fr t with
    | .one (.ptr id off) => loadA σ agg id off
    | _ => none

def resOfs (fr : List AV) (σ : AHeap) : List AResult → Option (List AV)
  | [] => some []
  | r :: l => match resOf fr σ r, resOfs fr σ l with
    | some v, some vs => some (v :: vs)
    | _, _ => none

def tupOf : List AV → AV
  | [v] => v
  | vs => .tup vs

def repUndef : Nat → List AV
  | 0 => []
  | n + 1 => undefA :: repUndef n

abbrev Prim := List AV → AHeap → Option (AV × AHeap)

structure Ctx where
  code : Nat → Option AFunc
  prim : Nat → Option Prim

def evCall (C : Ctx) : Nat → CallF
  | 0, _, _, _ => none
  | n + 1, f, args, σ => match C.prim f with
    | some p => p args σ
    | none => match C.code f with
      | none => none
      | some F => match evCode (evCall C n) n F.body (args ++ repUndef (F.ntmps - args.length)) σ with
        | some (.normal, fr, σ') | some (.ret, fr, σ') => match resOfs fr σ' F.results with
          | some vs => some (tupOf vs, σ')
          | none => none
        | _ => none

/-! ### compiling -/
/-- What lies ahead of an operation, by the edges: a number's bits. -/
def binding (e : Edge) : Bool := Region.binds .any e

def ancs (ops : List Oper) : List Nat → List Nat
  | acc => match ops with
    | [] => acc
    | o :: l => ancs l (acc ++ [o.after.toList.foldl (fun s e => if binding e then s ||| (2 ^ e.on) ||| (acc[e.on]?).getD 0 else s) 0])

def AOpd.slots : AOpd → List Nat
  | .tmp t => [t]
  | .const _ => []

def optSlots : Option AOpd → List Nat
  | some x => x.slots
  | none => []

def partSlots : List (Nat × Nat × AOpd) → List Nat
  | [] => []
  | (_, _, x) :: l => x.slots ++ partSlots l

def listSlots : List AOpd → List Nat
  | [] => []
  | x :: l => x.slots ++ listSlots l

def AOp.slots : AOp → List Nat
  | .mov x | .box x | .load _ x | .nilck x | .un _ x | .conv _ x | .faddr _ x | .field _ _ x | .extract x _ | .len x | .lenS x | .cap x | .clear _ _ x => x.slots
  | .pick c a b => c.slots ++ a.slots ++ b.slots
  | .new _ => []
  | .store _ a x => a.slots ++ x.slots
  | .bin _ x y | .eqv _ _ x y | .eqvS _ _ _ x y | .iaddr _ x y | .iaddrA _ _ x y | .idxS x y | .idxA _ _ _ x y | .append _ _ _ x y | .appendZ _ _ _ x y | .copy _ x y => x.slots ++ y.slots
  | .build _ ps | .bslice _ _ _ ps => partSlots ps
  | .mkfn _ l => listSlots l
  | .mkslice _ _ _ l c => l.slots ++ c.slots
  | .slice _ x lo hi mx => x.slots ++ optSlots lo ++ optSlots hi ++ optSlots mx
  | .slstr x lo hi | .slarr _ _ x lo hi => x.slots ++ optSlots lo ++ optSlots hi
  | .minmax _ x l => x.slots ++ listSlots l
  | .call f l => f.slots ++ listSlots l

def AOper.slots (o : AOper) : List Nat := match o.guard with
  | some (s, _) => s :: o.op.slots
  | none => o.op.slots

/-- Does it look into memory that was there, or write it? -/
def AOp.memAny : AOp → Bool
  | .call _ _ => true
  | o => o.mem

def AOp.isLoad : AOp → Bool
  | .load _ _ => true
  | _ => false

def clash (d : Option Nat) (l : List Nat) : Bool := match d with
  | some d => l.contains d
  | none => false

/-- An operation, and the slots at which it looks. -/
abbrev DRow := AOper × List Nat

/-- Two operations i < j that no edge orders. -/
def unordOk (pairs : List (Nat × Nat)) (i j : Nat) (a b : DRow) : Bool :=
  !clash a.1.dst b.2 && !clash b.1.dst a.2 && !clash a.1.dst b.1.dst.toList &&
  !(a.1.op.memAny && b.1.op.memAny) &&
  (!(a.1.op.memAny && b.1.op.isLoad) || pairs.contains (i, j)) && (!(a.1.op.isLoad && b.1.op.memAny) || pairs.contains (j, i))

def drawRow (pairs : List (Nat × Nat)) (anc j : Nat) (b : DRow) : Nat → List DRow → Bool
  | _, [] => true
  | i, a :: l => (anc.testBit i || Nat.ble j i || unordOk pairs i j a b) && drawRow pairs anc j b (i + 1) l

def drawRows (pairs : List (Nat × Nat)) (ops : List DRow) : Nat → List Nat → List DRow → Bool
  | j, anc :: as, b :: l => drawRow pairs anc j b 0 ops && drawRows pairs ops (j + 1) as l
  | _, [], [] => true
  | _, _, _ => false

def edgesOk : Nat → List Oper → Bool
  | _, [] => true
  | j, o :: l => (o.after.toList.all fun e => !binding e || Nat.blt e.on j) && edgesOk (j + 1) l

/-- The pairs that are to be held against each other. -/
def pairsRow (anc j : Nat) (b : DRow) : Nat → List DRow → List (Nat × Nat)
  | _, [] => []
  | i, a :: l => match anc.testBit i || Nat.ble j i with
    | true => pairsRow anc j b (i + 1) l
    | false => match a.1.op.memAny && b.1.op.isLoad, a.1.op.isLoad && b.1.op.memAny with
      | true, _ => (i, j) :: pairsRow anc j b (i + 1) l
      | _, true => (j, i) :: pairsRow anc j b (i + 1) l
      | _, _ => pairsRow anc j b (i + 1) l

def pairsAll (ops : List DRow) : Nat → List Nat → List DRow → List (Nat × Nat)
  | j, anc :: as, b :: l => pairsRow anc j b 0 ops ++ pairsAll ops (j + 1) as l
  | _, _, _ => []

def dRows (ops : Array Oper) : List Oper → List AOper → List DRow
  | o :: l, a :: m => (a, a.slots ++ o.looksAt ops) :: dRows ops l m
  | _, _ => []

def compDraw (P : Program) (ops : Array Oper) (aops : List AOper) : Option ACode :=
  let an := ancs ops.toList []
  let rows := dRows ops ops.toList aops
  let pairs := pairsAll rows 0 an rows
  match edgesOk 0 ops.toList && drawRows pairs rows 0 an rows && P.follows .mixedOrders with
  | true => some (.draw aops pairs)
  | false => none

def compCode (P : Program) : Code → Option ACode
  | .skip => some .skip
  | .region _ ops draw => match compOpers P ops ops.toList with
    | some l => match draw with
      | false => some (.region l)
      | true => compDraw P ops l
    | none => none
  | .seq a b => match compCode P a, compCode P b with
    | some a, some b => some (.seq a b)
    | _, _ => none
  | .cond c a b => match compOpd c, compCode P a, compCode P b with
    | some c, some a, some b => some (.cond c a b)
    | _, _, _ => none
  | .block id a => match compCode P a with
    | some a => some (.block id a)
    | none => none
  | .loop a => match compCode P a with
    | some a => some (.loop a)
    | none => none
  | .exit id => some (.exit id)
  | .ret => some .ret
  | _ => none

def compResult (P : Program) : ResultVar → Option AResult
  | .tmp t => some (.tmp t)
  | .cell t ty => match tAgg P ty with
    | some g => some (.cell t g)
    | none => none

def compResults (P : Program) : List ResultVar → Option (List AResult)
  | [] => some []
  | r :: l => match compResult P r, compResults P l with
    | some a, some b => some (a :: b)
    | _, _ => none

def compFunc (P : Program) (fn : Func) : Option AFunc :=
  match fn.body, fn.name == "runtime.NumGoroutine" with
  | some c, false => match compCode P c, compResults P fn.results.toList with
    | some c, some r => some ⟨fn.ntmps, r, c⟩
    | _, _ => none
  | _, _ => none

end Go.Proofs.Ythjijjkoeoemgaa.Ab
