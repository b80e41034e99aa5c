/- Several of my texts in one: AbLang, AbGlob, AbRel, AbMem, AbComp, AbOp0, AbOp1, AbOp2, AbOp3, AbOp4, AbOp5, AbOp6, AbOp7. -/
import Derived.Calls
import Derived.Orders
import Derived.KernelRfl
import Derived.Laws.Cells
import Derived.Laws.CopyRow
import Derived.Laws.AppendOwn
import Derived.Test.YtkolhfpofmpijaaDoorProg
import Derived.Laws.Strings
import Derived.Laws.Tables
import Derived.Laws.Slices
import Derived.Laws.StructEq
import Derived.Laws.BytesArg
/- The abstract machine: values, heap, operations with their sizes resolved, and an evaluator that asks no tape: no order, no capacity. -/
namespace Go.Proofs.YtkolhfpofmpijaaDoor.Ab
open Go

/-- One cell's value. -/
inductive SV where
  | bool (b : Bool)
  | int (k : IntKind) (n : Int)
  | str (s : List UInt8)
  | ptr (id off : Nat)
  | nilPtr
  | slice (id off esz len : Nat) (cap : Option Nat)
  | nilSlice
  | func (f : Nat) (caps : List SV)
  | nilFunc
  | iface (t : Nat) (agg : Bool) (cells : List SV)
  | nilIface
  | lst (elems : List (List SV))
  | fptr (elem : List SV) (off : Nat)
  | emp
  | map (id : Nat)
  | nilMap
  | meth (f : Nat) (recv : SV)
  | lstx (elems : List (List SV))
  | hnd (t : Nat)

inductive AV where
  | one (s : SV)
  | agg (cells : List SV)
  | tup (vs : List AV)

def AV.cells : AV → List SV
  | .one s => [s]
  | .agg cs => cs
  | .tup _ => []

/-- A map's entry: when it came, its key, its value. -/
structure Ent where
  born : Nat
  key : SV
  val : AV

/-- own: written by whoever holds it; ro: read alone; dead: its memory may have been taken by an append; map: a map, with its clock and its entries; tag: a whole block of a type that is told, nothing of it frozen, written by steps laid whole alone (a strings.Builder, its bytes); loop: the record of a loop over a function, no cells. -/
inductive Md where
  | own | ro | dead
  | map (clock : Nat) (es : List Ent)
  | tag (t : Nat) (full : Bool)
  | loop

/-- Is its memory written by whoever holds it? -/
def Md.owns : Md → Bool
  | .own => true
  | .map _ _ => true
  | .tag _ _ => true
  | _ => false

structure AObj where
  cells : List SV
  md : Md

/-! ### a finite map from numbers, that the kernel reduces fast -/
inductive PT (α : Type) where
  | leaf
  | node (l : PT α) (v : Option α) (r : PT α)

def PT.get {α : Type} : PT α → Nat → Option α
  | .leaf, _ => none
  | .node l v r, n => match n with
    | 0 => v
    | n + 1 => match Nat.beq (n % 2) 0 with
      | true => l.get (n / 2)
      | false => r.get (n / 2)

def PT.setF {α : Type} : Nat → PT α → Nat → α → PT α
  | 0, t, _, _ => t
  | f + 1, t, n, a =>
    match t with
    | .leaf => match n with
      | 0 => .node .leaf (some a) .leaf
      | n + 1 => match Nat.beq (n % 2) 0 with
        | true => .node (PT.setF f .leaf (n / 2) a) none .leaf
        | false => .node .leaf none (PT.setF f .leaf (n / 2) a)
    | .node l v r => match n with
      | 0 => .node l (some a) r
      | n + 1 => match Nat.beq (n % 2) 0 with
        | true => .node (PT.setF f l (n / 2) a) v r
        | false => .node l v (PT.setF f r (n / 2) a)

def PT.set {α : Type} (t : PT α) (n : Nat) (a : α) : PT α := PT.setF (n + 1) t n a

theorem PT.get_leaf {α : Type} (n : Nat) : (PT.leaf : PT α).get n = none := rfl

theorem PT.get_setF {α : Type} (a : α) : ∀ (f : Nat) (t : PT α) (n m : Nat), n < f → (PT.setF f t n a).get m = if m = n then some a else t.get m := by
  intro f
  induction f with
  | zero => intro t n m h; omega
  | succ f ih =>
    intro t n m h
    cases t with
    | leaf =>
      cases n with
      | zero =>
        cases m with
        | zero => simp [PT.setF, PT.get]
        | succ m => cases hb : Nat.beq (m % 2) 0 <;> simp [PT.setF, PT.get, hb]
      | succ n =>
        have hn : n / 2 < f := by omega
        cases hbn : Nat.beq (n % 2) 0
        · cases m with
          | zero => simp [PT.setF, PT.get, hbn]
          | succ m =>
            cases hbm : Nat.beq (m % 2) 0
            · simp only [PT.setF, hbn, PT.get, hbm, ih _ _ _ hn]
              have h1 : n % 2 ≠ 0 := fun e => by simp [e] at hbn
              have h2 : m % 2 ≠ 0 := fun e => by simp [e] at hbm
              by_cases e : m / 2 = n / 2
              · rw [if_pos e, if_pos (by omega)]
              · rw [if_neg e, if_neg (by omega)]
            · have h1 : n % 2 ≠ 0 := fun e => by simp [e] at hbn
              have h2 : m % 2 = 0 := by simpa using hbm
              simp only [PT.setF, hbn, PT.get, hbm]
              rw [if_neg (by omega)]
        · cases m with
          | zero => simp [PT.setF, PT.get, hbn]
          | succ m =>
            cases hbm : Nat.beq (m % 2) 0
            · have h1 : n % 2 = 0 := by simpa using hbn
              have h2 : m % 2 ≠ 0 := fun e => by simp [e] at hbm
              simp only [PT.setF, hbn, PT.get, hbm]
              rw [if_neg (by omega)]
            · simp only [PT.setF, hbn, PT.get, hbm, ih _ _ _ hn]
              have h1 : n % 2 = 0 := by simpa using hbn
              have h2 : m % 2 = 0 := by simpa using hbm
              by_cases e : m / 2 = n / 2
              · rw [if_pos e, if_pos (by omega)]
              · rw [if_neg e, if_neg (by omega)]
    | node l v r =>
      cases n with
      | zero =>
        cases m with
        | zero => simp [PT.setF, PT.get]
        | succ m => cases hb : Nat.beq (m % 2) 0 <;> simp [PT.setF, PT.get, hb]
      | succ n =>
        have hn : n / 2 < f := by omega
        cases hbn : Nat.beq (n % 2) 0
        · cases m with
          | zero => simp [PT.setF, PT.get, hbn]
          | succ m =>
            cases hbm : Nat.beq (m % 2) 0
            · simp only [PT.setF, hbn, PT.get, hbm, ih _ _ _ hn]
              have h1 : n % 2 ≠ 0 := fun e => by simp [e] at hbn
              have h2 : m % 2 ≠ 0 := fun e => by simp [e] at hbm
              by_cases e : m / 2 = n / 2
              · rw [if_pos e, if_pos (by omega)]
              · rw [if_neg e, if_neg (by omega)]
            · have h1 : n % 2 ≠ 0 := fun e => by simp [e] at hbn
              have h2 : m % 2 = 0 := by simpa using hbm
              simp only [PT.setF, hbn, PT.get, hbm]
              rw [if_neg (by omega)]
        · cases m with
          | zero => simp [PT.setF, PT.get, hbn]
          | succ m =>
            cases hbm : Nat.beq (m % 2) 0
            · have h1 : n % 2 = 0 := by simpa using hbn
              have h2 : m % 2 ≠ 0 := fun e => by simp [e] at hbm
              simp only [PT.setF, hbn, PT.get, hbm]
              rw [if_neg (by omega)]
            · simp only [PT.setF, hbn, PT.get, hbm, ih _ _ _ hn]
              have h1 : n % 2 = 0 := by simpa using hbn
              have h2 : m % 2 = 0 := by simpa using hbm
              by_cases e : m / 2 = n / 2
              · rw [if_pos e, if_pos (by omega)]
              · rw [if_neg e, if_neg (by omega)]

theorem PT.get_set {α : Type} (t : PT α) (n m : Nat) (a : α) : (t.set n a).get m = if m = n then some a else t.get m :=
  PT.get_setF a (n + 1) t n m (by omega)

/-! ### the heap -/
structure AHeap where
  size : Nat
  mem : PT AObj

def AHeap.get (σ : AHeap) (id : Nat) : Option AObj := match Nat.blt id σ.size with
  | true => σ.mem.get id
  | false => none

def AHeap.alloc (σ : AHeap) (o : AObj) : AHeap := ⟨σ.size + 1, σ.mem.set σ.size o⟩

def AHeap.put (σ : AHeap) (id : Nat) (o : AObj) : AHeap := ⟨σ.size, σ.mem.set id o⟩

theorem AHeap.get_lt {σ : AHeap} {id : Nat} {o : AObj} (h : σ.get id = some o) : id < σ.size := by
  unfold AHeap.get at h
  cases hb : Nat.blt id σ.size with
  | false => rw [hb] at h; simp at h
  | true => simpa [Nat.blt_eq] using hb

theorem AHeap.get_ge {σ : AHeap} {id : Nat} (h : σ.size ≤ id) : σ.get id = none := by
  cases hg : σ.get id with
  | none => rfl
  | some o => exact absurd (AHeap.get_lt hg) (by omega)

theorem AHeap.get_alloc (σ : AHeap) (o : AObj) (id : Nat) : (σ.alloc o).get id = if id = σ.size then some o else σ.get id := by
  unfold AHeap.get AHeap.alloc
  simp only [PT.get_set]
  by_cases h1 : id < σ.size
  · have : Nat.blt id σ.size = true := by simpa [Nat.blt_eq] using h1
    have h2 : Nat.blt id (σ.size + 1) = true := by simp [Nat.blt_eq]; omega
    simp [this, h2]
  · by_cases h2 : id = σ.size
    · subst h2
      have : Nat.blt σ.size (σ.size + 1) = true := by simp [Nat.blt_eq]
      simp [this]
    · have h3 : Nat.blt id σ.size = false := by
        cases hb : Nat.blt id σ.size with
        | false => rfl
        | true => exact absurd (by simpa [Nat.blt_eq] using hb) h1
      have h4 : Nat.blt id (σ.size + 1) = false := by
        cases hb : Nat.blt id (σ.size + 1) with
        | false => rfl
        | true => have : id < σ.size + 1 := by simpa [Nat.blt_eq] using hb
                  omega
      simp [h3, h4, h2]

theorem AHeap.get_put (σ : AHeap) (o : AObj) (i id : Nat) (h : i < σ.size) : (σ.put i o).get id = if id = i then some o else σ.get id := by
  unfold AHeap.get AHeap.put
  simp only [PT.get_set]
  cases hb : Nat.blt id σ.size with
  | true => rfl
  | false =>
    by_cases e : id = i
    · subst e
      have : Nat.blt id σ.size = true := by simpa [Nat.blt_eq] using h
      rw [this] at hb; cases hb
    · simp [e]

theorem AHeap.size_alloc (σ : AHeap) (o : AObj) : (σ.alloc o).size = σ.size + 1 := rfl
theorem AHeap.size_put (σ : AHeap) (i : Nat) (o : AObj) : (σ.put i o).size = σ.size := rfl

/-! ### the operations -/
inductive AOpd where
  | tmp (t : Nat)
  | const (v : AV)

/-- At what kind of type a '==' is asked. -/
inductive EK where
  | bool | int | str | ptr | slice | func

/-- The kinds of a map's keys. -/
inductive KK where
  | bool | int (k : IntKind) | str

/-- Operations that came later: interface values, maps. -/
inductive XOp where
  | bad
  | mkiface (t : Nat) (x : AOpd)
  | assert (t : Nat) (zero : AV) (ok : Bool) (x : AOpd)
  | mkmap
  | newT (t : Nat) (cells : List SV)
  | mkmeth (tab : List (Nat × Nat × Option Nat)) (x : AOpd)
  | mapget (ek : KK) (zero : AV) (ok : Bool) (x k : AOpd)
  | mapset (ek : KK) (x k v : AOpd)
  | mapent (ek : KK) (zero : AV) (x k : AOpd)
  | mapst (x s v : AOpd)
  | mapdel (ek : KK) (x k : AOpd)
  | maplen (x : AOpd)
  | ifnil (neg : Bool) (x : AOpd)

inductive AOp where
  | mov (x : AOpd)
  | pick (c a b : AOpd)
  | new (cells : List SV)
  | box (x : AOpd)
  | load (agg : Option Nat) (x : AOpd)
  | store (n : Nat) (a x : AOpd)
  | nilck (x : AOpd)
  | bin (op : BinOp) (x y : AOpd)
  | eqv (neg : Bool) (k : EK) (x y : AOpd)
  | eqvS (neg : Bool) (n : Nat) (offs : List (Nat × EK)) (x y : AOpd)
  | un (op : UnOp) (x : AOpd)
  | conv (k : IntKind) (x : AOpd)
  | build (zero : List SV) (parts : List (Nat × Nat × AOpd))
  | bslice (esz : Nat) (len : Nat) (zero : List SV) (parts : List (Nat × Nat × AOpd))
  | mkfn (f : Nat) (caps : List AOpd)
  | mkslice (esz bytes : Nat) (zero : List SV) (len cap : AOpd)
  | slice (esz : Nat) (x : AOpd) (lo hi mx : Option AOpd)
  | slstr (x : AOpd) (lo hi : Option AOpd)
  | slarr (n esz : Nat) (x : AOpd) (lo hi : Option AOpd)
  | faddr (off : Nat) (x : AOpd)
  | field (off : Nat) (agg : Option Nat) (x : AOpd)
  | iaddr (esz : Nat) (x i : AOpd)
  | iaddrA (n esz : Nat) (x i : AOpd)
  | idxS (x i : AOpd)
  | idxA (n esz : Nat) (agg : Bool) (x i : AOpd)
  | extract (x : AOpd) (i : Nat)
  | len (x : AOpd)
  | lenS (x : AOpd)
  | cap (x : AOpd)
  | append (esz bytes : Nat) (zero : List SV) (x y : AOpd)
  | appendZ (esz bytes : Nat) (zero : List SV) (x n : AOpd)
  | copy (esz : Nat) (x y : AOpd)
  | minmax (isMax : Bool) (x : AOpd) (rest : List AOpd)
  | clear (esz : Nat) (zero : List SV) (x : AOpd)
  | sbytes (x : AOpd)
  | bstr (x : AOpd)
  | call (f : AOpd) (args : List AOpd)
  | invoke (tab : List (Nat × Nat × Option Nat)) (r : AOpd) (args : List AOpd)
  | ext (e : XOp)

structure AOper where
  dst : Option Nat
  op : AOp
  guard : Option (Nat × Bool)

inductive ACode where
  | skip
  | region (ops : List AOper)
  | draw (ops : List AOper) (pairs : List (Nat × Nat))
  | seq (a b : ACode)
  | cond (c : AOpd) (thn els : ACode)
  | block (id : Nat) (body : ACode)
  | loop (body : ACode)
  | exit (id : Nat)
  | ret
  | bad

/-- Where a result lies: a slot, or the cell to which a slot points. -/
inductive AResult where
  | tmp (t : Nat)
  | cell (t : Nat) (agg : Option Nat)

structure AFunc where
  ntmps : Nat
  results : List AResult
  body : ACode

/-! ### the evaluator -/
def undefA : AV := .tup []

def getSlot : List AV → Nat → AV
  | [], _ => undefA
  | v :: _, 0 => v
  | _ :: l, n + 1 => getSlot l n

def setSlot : List AV → Nat → AV → List AV
  | [], _, _ => []
  | _ :: l, 0, x => x :: l
  | v :: l, n + 1, x => v :: setSlot l n x

def putDst (fr : List AV) (d : Option Nat) (v : AV) : List AV := match d with
  | some d => setSlot fr d v
  | none => fr

def ev (fr : List AV) : AOpd → AV
  | .tmp t => getSlot fr t
  | .const v => v

def evs (fr : List AV) : List AOpd → List AV
  | [] => []
  | x :: l => ev fr x :: evs fr l

/-- The number within its kind, without a division where it is one already. -/
def wr (k : IntKind) (n : Int) : Int := match k with
  | .i64 => if -9223372036854775808 ≤ n ∧ n ≤ 9223372036854775807 then n else IntKind.i64.wrap n
  | .u64 => if 0 ≤ n ∧ n ≤ 18446744073709551615 then n else IntKind.u64.wrap n
  | .u8 => if 0 ≤ n ∧ n ≤ 255 then n else IntKind.u8.wrap n
  | .i32 => if -2147483648 ≤ n ∧ n ≤ 2147483647 then n else IntKind.i32.wrap n
  | .u32 => if 0 ≤ n ∧ n ≤ 4294967295 then n else IntKind.u32.wrap n
  | k => k.wrap n

def bits2 (k : IntKind) : Int := match k with
  | .i8 | .u8 => 256
  | .i16 | .u16 => 65536
  | .i32 | .u32 => 4294967296
  | .i64 | .u64 => 18446744073709551616

def ibits (op : BinOp) (k : IntKind) (x y : Int) : Option SV :=
  let a := (x % bits2 k).toNat
  let b := (y % bits2 k).toNat
  match op with
  | .and => some (.int k (wr k (Nat.land a b)))
  | .or => some (.int k (wr k (Nat.lor a b)))
  | .xor => some (.int k (wr k (Nat.xor a b)))
  | _ => none

def ibin (op : BinOp) (k : IntKind) (a b : Int) : Option SV :=
  match op with
  | .add => some (.int k (wr k (a + b)))
  | .sub => some (.int k (wr k (a - b)))
  | .mul => some (.int k (wr k (a * b)))
  | .quo => if b = 0 then none else some (.int k (wr k (a.tdiv b)))
  | .rem => if b = 0 then none else some (.int k (a.tmod b))
  | .and | .or | .xor => ibits op k a b
  | .eql => some (.bool (decide (a = b)))
  | .neq => some (.bool (!decide (a = b)))
  | .lss => some (.bool (decide (a < b)))
  | .leq => some (.bool (decide (a ≤ b)))
  | .gtr => some (.bool (decide (b < a)))
  | .geq => some (.bool (decide (b ≤ a)))
  | _ => none

def shiftBin (op : BinOp) (k : IntKind) (a y : Int) : Option SV :=
  if y < 0 then none else
  let n := min y.toNat k.bits
  match op with
  | .shl => some (.int k (wr k (a * (Nat.pow 2 n : Nat))))
  | .shr => some (.int k (a.fdiv (Nat.pow 2 n : Nat)))
  | _ => none

def beqL : List UInt8 → List UInt8 → Bool
  | [], [] => true
  | a :: x, b :: y => match Nat.beq a.toNat b.toNat with
    | true => beqL x y
    | false => false
  | _, _ => false

def ltL : List UInt8 → List UInt8 → Bool
  | _, [] => false
  | [], _ :: _ => true
  | a :: x, b :: y => match Nat.blt a.toNat b.toNat with
    | true => true
    | false => match Nat.beq a.toNat b.toNat with
      | true => ltL x y
      | false => false

def maxStr : Nat := 1099511627776

def sbin (op : BinOp) (a b : List UInt8) : Option SV :=
  match op with
  | .add => match Nat.ble (a.length + b.length) maxStr with
    | true => some (.str (a ++ b))
    | false => none
  | .eql => some (.bool (beqL a b))
  | .neq => some (.bool (!beqL a b))
  | .lss => some (.bool (ltL a b))
  | .leq => some (.bool (ltL a b || beqL a b))
  | .gtr => some (.bool (!(ltL a b || beqL a b)))
  | .geq => some (.bool (!ltL a b))
  | _ => none

def evBin (op : BinOp) (x y : AV) : Option SV :=
  match x, y with
  | .one (.int k a), .one (.int k' b) =>
    match op with
    | .shl | .shr => shiftBin op k a b
    | _ => match decide (k = k') with
      | true => ibin op k a b
      | false => none
  | .one (.str a), .one (.str b) => sbin op a b
  | _, _ => none

/-- '==' of one cell with one; 'none' where it is not told here. -/
def eqS : EK → SV → SV → Option Bool
  | .bool, .bool a, .bool b => some (a == b)
  | .int, .int k a, .int k' b => match decide (k = k') with
    | true => some (decide (a = b))
    | false => none
  | .str, .str a, .str b => some (beqL a b)
  | .ptr, .nilPtr, .nilPtr => some true
  | .ptr, .nilPtr, .ptr _ _ => some false
  | .ptr, .ptr _ _, .nilPtr => some false
  | .slice, .nilSlice, .nilSlice => some true
  | .slice, .nilSlice, .slice .. => some false
  | .slice, .slice .., .nilSlice => some false
  | .func, .nilFunc, .nilFunc => some true
  | .func, .nilFunc, .func _ _ => some false
  | .func, .func _ _, .nilFunc => some false
  | .ptr, .nilPtr, .fptr _ _ => some false
  | .ptr, .fptr _ _, .nilPtr => some false
  | .slice, .nilSlice, .lst (_ :: _) => some false
  | .slice, .lst (_ :: _), .nilSlice => some false
  | _, _, _ => none

def eqOffs (xs ys : List SV) : List (Nat × EK) → Option Bool
  | [] => some true
  | (o, k) :: l => match xs[o]?, ys[o]? with
    | some a, some b => match eqS k a b with
      | some true => eqOffs xs ys l
      | some false => some false
      | none => none
    | _, _ => none

def evEq (k : EK) (x y : AV) : Option Bool :=
  match x, y with
  | .one a, .one b => eqS k a b
  | _, _ => none

def evEqS (n : Nat) (offs : List (Nat × EK)) (x y : AV) : Option Bool :=
  match x, y with
  | .agg xs, .agg ys => match Nat.beq xs.length n && Nat.beq ys.length n with
    | true => eqOffs xs ys offs
    | false => none
  | _, _ => none

def evUn (op : UnOp) (x : AV) : Option SV :=
  match op, x with
  | .not, .one (.bool b) => some (.bool (!b))
  | .neg, .one (.int k n) => some (.int k (wr k (0 - n)))
  | .xor, .one (.int k n) => ibits .xor k (if k.signed then -1 else k.max) n
  | _, _ => none

/-- A row of cells with some in the place of others. -/
def splice (cs : List SV) (off : Nat) (vs : List SV) : List SV := cs.take off ++ vs ++ cs.drop (off + vs.length)

def fillA (fr : List AV) (cells : List SV) : List (Nat × Nat × AOpd) → Option (List SV)
  | [] => some cells
  | (off, size, x) :: rest => match ev fr x with
    | .tup _ => none
    | v => match Nat.beq v.cells.length size && Nat.ble (off + size) cells.length with
      | true => fillA fr (splice cells off v.cells) rest
      | false => none

def evFns (fr : List AV) : List AOpd → Option (List SV)
  | [] => some []
  | x :: l => match ev fr x, evFns fr l with
    | .one s, some r => some (s :: r)
    | _, _ => none

def asNat (x : AV) : Option Nat := match x with
  | .one (.int _ n) => if 0 ≤ n then some n.toNat else none
  | _ => none

def optNat (fr : List AV) (x : Option AOpd) (d : Nat) : Option Nat := match x with
  | none => some d
  | some x => asNat (ev fr x)

def repeatCells (zero : List SV) : Nat → List SV
  | 0 => []
  | n + 1 => zero ++ repeatCells zero n

/-- What a slice or a string gives to append and copy: its cells (k elements of them). -/
def srcLen : AV → Option Nat
  | .one (.slice _ _ _ len _) => some len
  | .one .nilSlice => some 0
  | .one (.str s) => some s.length
  | .one (.lst elems) => some elems.length
  | .one .emp => some 0
  | _ => none

def byteCell (b : UInt8) : SV := .int .u8 b.toNat

def srcCells (σ : AHeap) (esz k : Nat) : AV → Option (List SV)
  | .one (.slice id off e len _) => match Nat.beq e esz && Nat.ble k len, σ.get id with
    | true, some ⟨cs, .own⟩ | true, some ⟨cs, .ro⟩ => match Nat.ble (off + k * esz) cs.length with
      | true => some ((cs.drop off).take (k * esz))
      | false => none
    | _, _ => none
  | .one .nilSlice => match Nat.beq k 0 with
    | true => some []
    | false => none
  | .one (.str s) => match Nat.beq esz 1 && Nat.ble k s.length with
    | true => some ((s.take k).map byteCell)
    | false => none
  | .one (.lst elems) => match Nat.ble k elems.length && Nat.beq (elems.take k).flatten.length (k * esz) with
    | true => some (elems.take k).flatten
    | false => none
  | .one .emp => match Nat.beq k 0 with
    | true => some []
    | false => none
  | _ => none

def isStr : AV → Bool
  | .one (.str _) => true
  | _ => false

/-- Cells that are bytes, as a string. -/
def unbytes : List SV → Option (List UInt8)
  | [] => some []
  | .int .u8 n :: l => match unbytes l with
    | some r => some (UInt8.ofNat n.toNat :: r)
    | none => none
  | _ => none

def writeAt (σ : AHeap) (id off : Nat) (vs : List SV) : Option AHeap :=
  match σ.get id with
  | some ⟨cs, .own⟩ => match Nat.ble (off + vs.length) cs.length with
    | true => some (σ.put id ⟨splice cs off vs, .own⟩)
    | false => none
  | _ => none

def maxElems : Nat := 4294967296
def maxBytes : Nat := 4096

/-- append of the cells vs (k + 1 elements) to x. -/
def appendK (σ : AHeap) (esz bytes : Nat) (x : AV) (k : Nat) (vs : List SV) : Option (AV × AHeap) :=
  match x with
  | .one .nilSlice | .one .emp => match Nat.ble k maxElems && Nat.ble bytes maxBytes with
    | true => some (.one (.slice σ.size 0 esz k none), σ.alloc ⟨vs, .own⟩)
    | false => none
  | .one (.slice id off e len cap) =>
    match Nat.beq e esz && Nat.ble (len + k) maxElems && Nat.ble bytes maxBytes, σ.get id with
    | true, some ⟨cs, md⟩ =>
      match cap with
      | some c => match Nat.ble (len + k) c with
        | true => match writeAt σ id (off + len * esz) vs with
          | some σ' => some (.one (.slice id off esz (len + k) (some c)), σ')
          | none => none
        | false => match md with
          | .dead => none
          | _ => match Nat.ble (off + len * esz) cs.length with
            | true => some (.one (.slice σ.size 0 esz (len + k) none), σ.alloc ⟨(cs.drop off).take (len * esz) ++ vs, .own⟩)
            | false => none
      | none => match Nat.ble (off + (len + k) * esz) cs.length with
        | true => match writeAt σ id (off + len * esz) vs with
          | some σ' => some (.one (.slice id off esz (len + k) none), σ')
          | none => none
        | false => match Nat.beq (off + len * esz) cs.length, md with
          | true, .own => some (.one (.slice σ.size 0 esz (len + k) none), (σ.put id ⟨cs, .dead⟩).alloc ⟨cs.drop off ++ vs, .own⟩)
          | _, _ => none
    | _, _ => none
  | .one (.lstx elems) => match Nat.ble (elems.length + k) maxElems && Nat.ble bytes maxBytes && Nat.beq elems.flatten.length (elems.length * esz) && Nat.blt 0 elems.length with
    | true => some (.one (.slice σ.size 0 esz (elems.length + k) none), σ.alloc ⟨elems.flatten ++ vs, .own⟩)
    | false => none
  | _ => none

/-- append of the cells vs (k elements) to x: none of them: x as it is. -/
def appendA (σ : AHeap) (esz bytes : Nat) (x : AV) (k : Nat) (vs : List SV) : Option (AV × AHeap) :=
  match k with
  | 0 => match x with
    | .one .nilSlice => some (x, σ)
    | .one (.slice ..) => some (x, σ)
    | .one (.lst _) => some (x, σ)
    | .one .emp => some (x, σ)
    | .one (.lstx _) => some (x, σ)
    | _ => none
  | k + 1 => appendK σ esz bytes x (k + 1) vs

def partA (cs : List SV) (agg : Option Nat) (off : Nat) : Option AV :=
  match agg with
  | none => match cs[off]? with
    | some s => some (.one s)
    | none => none
  | some n => match Nat.ble (off + n) cs.length with
    | true => some (.agg ((cs.drop off).take n))
    | false => none

def loadA (σ : AHeap) (agg : Option Nat) (id off : Nat) : Option AV :=
  match σ.get id with
  | some ⟨cs, .own⟩ | some ⟨cs, .ro⟩ => partA cs agg off
  | _ => none

def mm (isMax : Bool) (x y : Int) : Int := match isMax with
  | true => if x < y then y else x
  | false => if y < x then y else x

def mms (isMax : Bool) (k : IntKind) (x : Int) : List AV → Option SV
  | [] => some (.int k x)
  | .one (.int _ y) :: l => mms isMax k (mm isMax x y) l
  | _ => none

/-- Has every element so many cells (the first stands for all)? -/
def lstW (esz : Nat) : List (List SV) → Bool
  | [] => true
  | e :: _ => Nat.beq e.length esz

/-- Where a slice begins that is cut at l out of one of capacity m: at its end it stays where it was. -/
def atCut (m l off esz : Nat) : Nat := match Nat.beq m l with
  | true => off
  | false => off + l * esz

def pure1 (σ : AHeap) (r : Option SV) : Option (AV × AHeap) := match r with
  | some s => some (.one s, σ)
  | none => none

/-! ### maps -/
def keyEq : SV → SV → Option Bool
  | .int k a, .int k' b => match decide (k = k') with
    | true => some (decide (a = b))
    | false => none
  | .str a, .str b => some (beqL a b)
  | .bool a, .bool b => some (a == b)
  | _, _ => none

def keyIs : KK → SV → Bool
  | .int k, .int k' _ => decide (k' = k)
  | .str, .str _ => true
  | .bool, .bool _ => true
  | _, _ => false

/-- Where a key's entry lies, if its map has one. -/
def findE (k : SV) : List Ent → Nat → Option (Option (Nat × Ent))
  | [], _ => some none
  | e :: l, i => match keyEq k e.key with
    | some true => some (some (i, e))
    | some false => findE k l (i + 1)
    | none => none

/-- The i-th entry's value. -/
def setE (l : List Ent) (i : Nat) (v : AV) : List Ent := match l[i]? with
  | some e => l.set i ⟨e.born, e.key, v⟩
  | none => l

def findB (b : Nat) : List Ent → Nat → Option (Nat × Ent)
  | [], _ => none
  | e :: l, i => match Nat.beq e.born b with
    | true => some (i, e)
    | false => findB b l (i + 1)

def okRes (ok : Bool) (v : AV) (b : Bool) : AV := match ok with
  | true => .tup [v, .one (.bool b)]
  | false => v

def AV.plain : AV → Bool
  | .tup _ => false
  | _ => true

/-- A method's receiver, by the table of an interface's method: the function, and where in the receiver an embedded one lies. -/
def invokeF (tab : List (Nat × Nat × Option Nat)) : AV → Option (Nat × AV)
  | .one (.iface t false [s]) => match tab with
    | [] => none
    | (t', f, off) :: l => match Nat.beq t t' with
      | true => match off, s with
        | none, s => some (f, .one s)
        | some o, .ptr id p => some (f, .one (.ptr id (p + o)))
        | _, _ => none
      | false => invokeF l (.one (.iface t false [s]))
  | _ => none

def evX (fr : List AV) (σ : AHeap) : XOp → Option (AV × AHeap)
  | .bad => none
  | .mkiface t x => match ev fr x with
    | .one s => some (.one (.iface t false [s]), σ)
    | .agg cs => some (.one (.iface t true cs), σ)
    | .tup _ => none
  | .assert t zero ok x => match ev fr x with
    | .one (.iface t' g cs) => match Nat.beq t' t with
      | true => match g, cs with
        | false, [s] => some (okRes ok (.one s) true, σ)
        | true, cs => some (okRes ok (.agg cs) true, σ)
        | _, _ => none
      | false => match ok with
        | true => some (okRes true zero false, σ)
        | false => none
    | .one .nilIface => match ok with
      | true => some (okRes true zero false, σ)
      | false => none
    | _ => none
  | .ifnil neg x => match ev fr x with
    | .one .nilIface => some (.one (.bool (!neg)), σ)
    | .one (.iface ..) => some (.one (.bool neg), σ)
    | _ => none
  | .newT t cells => some (.one (.ptr σ.size 0), σ.alloc ⟨cells, .tag t true⟩)
  | .mkmap => some (.one (.map σ.size), σ.alloc ⟨[], .map 0 []⟩)
  | .mkmeth tab x => match invokeF tab (ev fr x) with
    | some (f, .one rv) => some (.one (.meth f rv), σ)
    | _ => none
  | .mapget ek zero ok x k => match ev fr x, ev fr k with
    | .one .nilMap, .one kv => match keyIs ek kv with
      | true => some (okRes ok zero false, σ)
      | false => none
    | .one (.map id), .one kv => match keyIs ek kv, σ.get id with
      | true, some ⟨_, .map _ es⟩ => match findE kv es 0 with
        | some (some (_, e)) => some (okRes ok e.val true, σ)
        | some none => some (okRes ok zero false, σ)
        | none => none
      | _, _ => none
    | _, _ => none
  | .mapset ek x k v => match ev fr x, ev fr k with
    | .one (.map id), .one kv => match keyIs ek kv && (ev fr v).plain, σ.get id with
      | true, some ⟨cs, .map c es⟩ => match findE kv es 0 with
        | some (some (i, _)) => some (.tup [], σ.put id ⟨cs, .map c (setE es i (ev fr v))⟩)
        | some none => some (.tup [], σ.put id ⟨cs, .map (c + 1) (es ++ [⟨c, kv, ev fr v⟩])⟩)
        | none => none
      | _, _ => none
    | _, _ => none
  | .mapent ek zero x k => match ev fr x, ev fr k with
    | .one (.map id), .one kv => match keyIs ek kv, σ.get id with
      | true, some ⟨cs, .map c es⟩ => match findE kv es 0 with
        | some (some (_, e)) => some (.tup [e.val, .one (.int .i64 e.born)], σ.put id ⟨cs, .map c es⟩)
        | some none => some (.tup [zero, .one (.int .i64 c)], σ.put id ⟨cs, .map (c + 1) (es ++ [⟨c, kv, zero⟩])⟩)
        | none => none
      | _, _ => none
    | _, _ => none
  | .mapst x s v => match ev fr x, asNat (ev fr s), (ev fr v).plain with
    | .one (.map id), some b, true => match σ.get id with
      | some ⟨cs, .map c es⟩ => match findB b es 0 with
        | some (i, _) => some (.tup [], σ.put id ⟨cs, .map c (setE es i (ev fr v))⟩)
        | none => none
      | _ => none
    | _, _, _ => none
  | .mapdel ek x k => match ev fr x, ev fr k with
    | .one .nilMap, .one kv => match keyIs ek kv with
      | true => some (.tup [], σ)
      | false => none
    | .one (.map id), .one kv => match keyIs ek kv, σ.get id with
      | true, some ⟨cs, .map c es⟩ => match findE kv es 0 with
        | some (some (i, _)) => some (.tup [], σ.put id ⟨cs, .map c (es.eraseIdx i)⟩)
        | some none => some (.tup [], σ.put id ⟨cs, .map c es⟩)
        | none => none
      | _, _ => none
    | _, _ => none
  | .maplen x => match ev fr x with
    | .one .nilMap => some (.one (.int .i64 0), σ)
    | .one (.map id) => match σ.get id with
      | some ⟨_, .map _ es⟩ => some (.one (.int .i64 es.length), σ)
      | _ => none
    | _ => none

def evOp (fr : List AV) (σ : AHeap) : AOp → Option (AV × AHeap)
  | .mov x => some (ev fr x, σ)
  | .pick c a b => match ev fr c with
    | .one (.bool true) => some (ev fr a, σ)
    | .one (.bool false) => some (ev fr b, σ)
    | _ => none
  | .new cells => some (.one (.ptr σ.size 0), σ.alloc ⟨cells, .own⟩)
  | .box x => match ev fr x with
    | .tup _ => none
    | v => some (.one (.ptr σ.size 0), σ.alloc ⟨v.cells, .own⟩)
  | .load agg x => match ev fr x with
    | .one (.ptr id off) => match loadA σ agg id off with
      | some v => some (v, σ)
      | none => none
    | .one (.fptr cs off) => match partA cs agg off with
      | some v => some (v, σ)
      | none => none
    | _ => none
  | .store n a x => match ev fr a, ev fr x with
    | _, .tup _ => none
    | .one (.ptr id off), v => match Nat.beq v.cells.length n with
      | true => match writeAt σ id off v.cells with
        | some σ' => some (undefA, σ')
        | none => none
      | false => none
    | _, _ => none
  | .nilck x => match ev fr x with
    | .one (.ptr id off) => some (.one (.ptr id off), σ)
    | .one (.func f caps) => some (.one (.func f caps), σ)
    | .one (.fptr cs off) => some (.one (.fptr cs off), σ)
    | .one (.iface t g cs) => some (.one (.iface t g cs), σ)
    | .one (.meth f rv) => some (.one (.meth f rv), σ)
    | _ => none
  | .bin op x y => pure1 σ (evBin op (ev fr x) (ev fr y))
  | .eqv neg k x y => match evEq k (ev fr x) (ev fr y) with
    | some b => some (.one (.bool (if neg then !b else b)), σ)
    | none => none
  | .eqvS neg n offs x y => match evEqS n offs (ev fr x) (ev fr y) with
    | some b => some (.one (.bool (if neg then !b else b)), σ)
    | none => none
  | .un op x => pure1 σ (evUn op (ev fr x))
  | .conv k x => match ev fr x with
    | .one (.int _ n) => some (.one (.int k (wr k n)), σ)
    | _ => none
  | .build zero parts => match fillA fr zero parts with
    | some cs => some (.agg cs, σ)
    | none => none
  | .bslice esz len zero parts => match fillA fr (repeatCells zero len) parts with
    | some cs => some (.one (.slice σ.size 0 esz len (some len)), σ.alloc ⟨cs, .own⟩)
    | none => none
  | .mkfn f caps => match evFns fr caps with
    | some cs => some (.one (.func f cs), σ)
    | none => none
  | .mkslice esz bytes zero l c => match asNat (ev fr l), asNat (ev fr c) with
    | some l, some c => match Nat.ble l c && Nat.ble c maxElems && Nat.ble bytes maxBytes with
      | true => some (.one (.slice σ.size 0 esz l (some c)), σ.alloc ⟨repeatCells zero c, .own⟩)
      | false => none
    | _, _ => none
  | .slice esz x lo hi mx => match ev fr x with
    | .one .nilSlice => match optNat fr lo 0, optNat fr hi 0, optNat fr mx 0 with
      | some 0, some 0, some 0 => some (.one .nilSlice, σ)
      | _, _, _ => none
    | .one (.slice id off e len cap) => match Nat.beq e esz, σ.get id with
      | true, some o => match optNat fr lo 0, optNat fr hi len with
        | some l, some h =>
          match Nat.ble l h && Nat.ble (off + h * esz) o.cells.length with
          | true => match mx with
            | none => match cap with
              | some c => match Nat.ble h c with
                | true => some (.one (.slice id (atCut c l off esz) esz (h - l) (some (c - l))), σ)
                | false => none
              | none => some (.one (.slice id (off + l * esz) esz (h - l) none), σ)
            | some mx => match asNat (ev fr mx) with
              | some m => match Nat.ble h m && (match cap with
                  | some c => Nat.ble m c
                  | none => Nat.ble (off + m * esz) o.cells.length) with
                | true => some (.one (.slice id (atCut m l off esz) esz (h - l) (some (m - l))), σ)
                | false => none
              | none => none
          | false => none
        | _, _ => none
      | _, _ => none
    | .one (.lst elems) => match optNat fr lo 0, optNat fr hi elems.length with
      | some l, some h => match Nat.ble l h && Nat.ble h elems.length && lstW esz elems with
        | true => match mx with
          | none => some (.one (.lst ((elems.drop l).take (h - l))), σ)
          | some mx => match asNat (ev fr mx) with
            | some m => match Nat.ble h m && Nat.ble m elems.length with
              | true => match Nat.beq m l with
                | true => some (.one .emp, σ)
                | false => match Nat.beq m h with
                  | true => some (.one (.lstx ((elems.drop l).take (h - l))), σ)
                  | false => some (.one (.lst ((elems.drop l).take (h - l))), σ)
              | false => none
            | none => none
        | false => none
      | _, _ => none
    | .one .emp => match optNat fr lo 0, optNat fr hi 0, optNat fr mx 0 with
      | some 0, some 0, some 0 => some (.one .emp, σ)
      | _, _, _ => none
    | _ => none
  | .slstr x lo hi => match ev fr x with
    | .one (.str s) => match optNat fr lo 0, optNat fr hi s.length with
      | some l, some h => match Nat.ble l h && Nat.ble h s.length with
        | true => some (.one (.str ((s.drop l).take (h - l))), σ)
        | false => none
      | _, _ => none
    | _ => none
  | .slarr n esz x lo hi => match ev fr x with
    | .one (.ptr id off) => match optNat fr lo 0, optNat fr hi n, σ.get id with
      | some l, some h, some o => match Nat.ble l h && Nat.ble h n && Nat.ble (off + n * esz) o.cells.length with
        | true => some (.one (.slice id (atCut n l off esz) esz (h - l) (some (n - l))), σ)
        | false => none
      | _, _, _ => none
    | _ => none
  | .faddr off x => match ev fr x with
    | .one (.ptr id o) => some (.one (.ptr id (o + off)), σ)
    | .one (.fptr cs o) => some (.one (.fptr cs (o + off)), σ)
    | _ => none
  | .field off agg x => match ev fr x with
    | .agg cs => match partA cs agg off with
      | some v => some (v, σ)
      | none => none
    | _ => none
  | .iaddr esz x i => match ev fr x, asNat (ev fr i) with
    | .one (.slice id off e len _), some i => match Nat.beq e esz && Nat.blt i len with
      | true => some (.one (.ptr id (off + i * esz)), σ)
      | false => none
    | .one (.lst elems), some i => match elems[i]? with
      | some e => match Nat.beq e.length esz with
        | true => some (.one (.fptr e 0), σ)
        | false => none
      | none => none
    | _, _ => none
  | .iaddrA n esz x i => match ev fr x, asNat (ev fr i) with
    | .one (.ptr id off), some i => match Nat.blt i n with
      | true => some (.one (.ptr id (off + i * esz)), σ)
      | false => none
    | .one (.fptr cs off), some i => match Nat.blt i n with
      | true => some (.one (.fptr cs (off + i * esz)), σ)
      | false => none
    | _, _ => none
  | .idxS x i => match ev fr x, asNat (ev fr i) with
    | .one (.str s), some i => match s[i]? with
      | some b => some (.one (.int .u8 b.toNat), σ)
      | none => none
    | _, _ => none
  | .idxA n esz agg x i => match ev fr x, asNat (ev fr i) with
    | .agg cs, some i => match Nat.blt i n with
      | true => match partA cs (if agg then some esz else none) (i * esz) with
        | some v => some (v, σ)
        | none => none
      | false => none
    | _, _ => none
  | .extract x i => match ev fr x with
    | .tup vs => match vs[i]? with
      | some v => some (v, σ)
      | none => none
    | _ => none
  | .len x => match ev fr x with
    | .one (.slice _ _ _ len _) => some (.one (.int .i64 len), σ)
    | .one .nilSlice => some (.one (.int .i64 0), σ)
    | .one (.lst elems) => some (.one (.int .i64 elems.length), σ)
    | .one .emp => some (.one (.int .i64 0), σ)
    | _ => none
  | .lenS x => match ev fr x with
    | .one (.str s) => some (.one (.int .i64 s.length), σ)
    | _ => none
  | .cap x => match ev fr x with
    | .one (.slice _ _ _ _ (some c)) => some (.one (.int .i64 c), σ)
    | .one .nilSlice => some (.one (.int .i64 0), σ)
    | .one .emp => some (.one (.int .i64 0), σ)
    | _ => none
  | .append esz bytes _ x y => match srcLen (ev fr y) with
    | some k => match srcCells σ esz k (ev fr y) with
      | some vs => appendA σ esz bytes (ev fr x) k vs
      | none => none
    | none => none
  | .appendZ esz bytes zero x n => match asNat (ev fr n) with
    | some k => match Nat.ble k maxElems with
      | true => appendA σ esz bytes (ev fr x) k (repeatCells zero k)
      | false => none
    | none => none
  | .copy esz x y => match srcLen (ev fr y), ev fr x with
    | some k, .one (.slice id off e len _) => match Nat.beq e esz with
      | true => match srcCells σ esz (min k len) (ev fr y) with
        | some vs => match writeAt σ id off vs with
          | some σ' => some (.one (.int .i64 (min k len : Nat)), σ')
          | none => none
        | none => none
      | false => none
    | some _, .one .nilSlice => some (.one (.int .i64 0), σ)
    | _, _ => none
  | .minmax isMax x rest => match ev fr x with
    | .one (.int k n) => pure1 σ (mms isMax k n (evs fr rest))
    | _ => none
  | .clear esz zero x => match ev fr x with
    | .one .nilSlice => some (.tup [], σ)
    | .one (.slice id off e len _) => match Nat.beq e esz with
      | true => match Nat.beq len 0 with
        | true => some (.tup [], σ)
        | false => match writeAt σ id off (repeatCells zero len) with
          | some σ' => some (.tup [], σ')
          | none => none
      | false => none
    | _ => none
  | .sbytes x => match ev fr x with
    | .one (.str s) => some (.one (.slice σ.size 0 1 s.length none), σ.alloc ⟨s.map byteCell, .own⟩)
    | _ => none
  | .bstr x => match isStr (ev fr x), srcLen (ev fr x) with
    | false, some k => match srcCells σ 1 k (ev fr x) with
      | some cs => match unbytes cs with
        | some s => some (.one (.str s), σ)
        | none => none
      | none => none
    | _, _ => none
  | .call _ _ => none
  | .invoke _ _ _ => none
  | .ext e => evX fr σ e

abbrev CallF := Nat → List AV → AHeap → Option (AV × AHeap)

/-- One operation, a call among them. -/
def evStep (call : CallF) (fr : List AV) (σ : AHeap) (o : AOp) : Option (AV × AHeap) :=
  match o with
  | .call f args => match ev fr f with
    | .one (.func f caps) => call f (evs fr args ++ caps.map AV.one) σ
    | .one (.meth f rv) => call f (.one rv :: evs fr args) σ
    | _ => none
  | .invoke tab r args => match invokeF tab (ev fr r) with
    | some (f, v) => call f (v :: evs fr args) σ
    | none => none
  | o => evOp fr σ o

def wantedA (fr : List AV) (g : Option (Nat × Bool)) : Bool := match g with
  | none => true
  | some (s, want) => match getSlot fr s with
    | .one (.bool b) => b == want
    | _ => false

def evOper (call : CallF) (fr : List AV) (σ : AHeap) (o : AOper) : Option (List AV × AHeap) :=
  match wantedA fr o.guard with
  | true => match evStep call fr σ o.op with
    | some (v, σ') => some (putDst fr o.dst v, σ')
    | none => none
  | false => some (putDst fr o.dst undefA, σ)

def evOps (call : CallF) : List AOper → List AV → AHeap → Option (List AV × AHeap)
  | [], fr, σ => some (fr, σ)
  | o :: l, fr, σ => match evOper call fr σ o with
    | some (fr', σ') => evOps call l fr' σ'
    | none => none

inductive AX where
  | normal
  | exit (id : Nat)
  | ret

abbrev Out := Option (AX × List AV × AHeap)

def evLoop (body : List AV → AHeap → Out) : Nat → List AV → AHeap → Out
  | 0, _, _ => none
  | k + 1, fr, σ => match body fr σ with
    | some (.normal, fr', σ') => evLoop body k fr' σ'
    | r => r

end Go.Proofs.YtkolhfpofmpijaaDoor.Ab

/- Package-level tables that a row lists: their cells, by the variable's number. -/
namespace Go.Proofs.YtkolhfpofmpijaaDoor.Ab
open Go

/-- strings.asciiSpace -/
def glob2 : List SV := [.int .u8 0, .int .u8 0, .int .u8 0, .int .u8 0, .int .u8 0, .int .u8 0, .int .u8 0, .int .u8 0, .int .u8 0, .int .u8 1, .int .u8 1, .int .u8 1, .int .u8 1, .int .u8 1, .int .u8 0, .int .u8 0, .int .u8 0, .int .u8 0, .int .u8 0, .int .u8 0, .int .u8 0, .int .u8 0, .int .u8 0, .int .u8 0, .int .u8 0, .int .u8 0, .int .u8 0, .int .u8 0, .int .u8 0, .int .u8 0, .int .u8 0, .int .u8 0, .int .u8 1, .int .u8 0, .int .u8 0, .int .u8 0, .int .u8 0, .int .u8 0, .int .u8 0, .int .u8 0, .int .u8 0, .int .u8 0, .int .u8 0, .int .u8 0, .int .u8 0, .int .u8 0, .int .u8 0, .int .u8 0, .int .u8 0, .int .u8 0, .int .u8 0, .int .u8 0, .int .u8 0, .int .u8 0, .int .u8 0, .int .u8 0, .int .u8 0, .int .u8 0, .int .u8 0, .int .u8 0, .int .u8 0, .int .u8 0, .int .u8 0, .int .u8 0, .int .u8 0, .int .u8 0, .int .u8 0, .int .u8 0, .int .u8 0, .int .u8 0, .int .u8 0, .int .u8 0, .int .u8 0, .int .u8 0, .int .u8 0, .int .u8 0, .int .u8 0, .int .u8 0, .int .u8 0, .int .u8 0, .int .u8 0, .int .u8 0, .int .u8 0, .int .u8 0, .int .u8 0, .int .u8 0, .int .u8 0, .int .u8 0, .int .u8 0, .int .u8 0, .int .u8 0, .int .u8 0, .int .u8 0, .int .u8 0, .int .u8 0, .int .u8 0, .int .u8 0, .int .u8 0, .int .u8 0, .int .u8 0, .int .u8 0, .int .u8 0, .int .u8 0, .int .u8 0, .int .u8 0, .int .u8 0, .int .u8 0, .int .u8 0, .int .u8 0, .int .u8 0, .int .u8 0, .int .u8 0, .int .u8 0, .int .u8 0, .int .u8 0, .int .u8 0, .int .u8 0, .int .u8 0, .int .u8 0, .int .u8 0, .int .u8 0, .int .u8 0, .int .u8 0, .int .u8 0, .int .u8 0, .int .u8 0, .int .u8 0, .int .u8 0, .int .u8 0, .int .u8 0, .int .u8 0, .int .u8 0, .int .u8 0, .int .u8 0, .int .u8 0, .int .u8 0, .int .u8 0, .int .u8 0, .int .u8 0, .int .u8 0, .int .u8 0, .int .u8 0, .int .u8 0, .int .u8 0, .int .u8 0, .int .u8 0, .int .u8 0, .int .u8 0, .int .u8 0, .int .u8 0, .int .u8 0, .int .u8 0, .int .u8 0, .int .u8 0, .int .u8 0, .int .u8 0, .int .u8 0, .int .u8 0, .int .u8 0, .int .u8 0, .int .u8 0, .int .u8 0, .int .u8 0, .int .u8 0, .int .u8 0, .int .u8 0, .int .u8 0, .int .u8 0, .int .u8 0, .int .u8 0, .int .u8 0, .int .u8 0, .int .u8 0, .int .u8 0, .int .u8 0, .int .u8 0, .int .u8 0, .int .u8 0, .int .u8 0, .int .u8 0, .int .u8 0, .int .u8 0, .int .u8 0, .int .u8 0, .int .u8 0, .int .u8 0, .int .u8 0, .int .u8 0, .int .u8 0, .int .u8 0, .int .u8 0, .int .u8 0, .int .u8 0, .int .u8 0, .int .u8 0, .int .u8 0, .int .u8 0, .int .u8 0, .int .u8 0, .int .u8 0, .int .u8 0, .int .u8 0, .int .u8 0, .int .u8 0, .int .u8 0, .int .u8 0, .int .u8 0, .int .u8 0, .int .u8 0, .int .u8 0, .int .u8 0, .int .u8 0, .int .u8 0, .int .u8 0, .int .u8 0, .int .u8 0, .int .u8 0, .int .u8 0, .int .u8 0, .int .u8 0, .int .u8 0, .int .u8 0, .int .u8 0, .int .u8 0, .int .u8 0, .int .u8 0, .int .u8 0, .int .u8 0, .int .u8 0, .int .u8 0, .int .u8 0, .int .u8 0, .int .u8 0, .int .u8 0, .int .u8 0, .int .u8 0, .int .u8 0, .int .u8 0, .int .u8 0, .int .u8 0, .int .u8 0, .int .u8 0, .int .u8 0, .int .u8 0, .int .u8 0, .int .u8 0, .int .u8 0, .int .u8 0, .int .u8 0, .int .u8 0, .int .u8 0, .int .u8 0, .int .u8 0, .int .u8 0, .int .u8 0, .int .u8 0]
/-- unicode utf8.acceptRanges -/
def glob1 : List SV := [.int .u8 128, .int .u8 191, .int .u8 160, .int .u8 191, .int .u8 128, .int .u8 159, .int .u8 144, .int .u8 191, .int .u8 128, .int .u8 143, .int .u8 0, .int .u8 0, .int .u8 0, .int .u8 0, .int .u8 0, .int .u8 0, .int .u8 0, .int .u8 0, .int .u8 0, .int .u8 0, .int .u8 0, .int .u8 0, .int .u8 0, .int .u8 0, .int .u8 0, .int .u8 0, .int .u8 0, .int .u8 0, .int .u8 0, .int .u8 0, .int .u8 0, .int .u8 0]
/-- unicode utf8.first -/
def glob0 : List SV := [.int .u8 240, .int .u8 240, .int .u8 240, .int .u8 240, .int .u8 240, .int .u8 240, .int .u8 240, .int .u8 240, .int .u8 240, .int .u8 240, .int .u8 240, .int .u8 240, .int .u8 240, .int .u8 240, .int .u8 240, .int .u8 240, .int .u8 240, .int .u8 240, .int .u8 240, .int .u8 240, .int .u8 240, .int .u8 240, .int .u8 240, .int .u8 240, .int .u8 240, .int .u8 240, .int .u8 240, .int .u8 240, .int .u8 240, .int .u8 240, .int .u8 240, .int .u8 240, .int .u8 240, .int .u8 240, .int .u8 240, .int .u8 240, .int .u8 240, .int .u8 240, .int .u8 240, .int .u8 240, .int .u8 240, .int .u8 240, .int .u8 240, .int .u8 240, .int .u8 240, .int .u8 240, .int .u8 240, .int .u8 240, .int .u8 240, .int .u8 240, .int .u8 240, .int .u8 240, .int .u8 240, .int .u8 240, .int .u8 240, .int .u8 240, .int .u8 240, .int .u8 240, .int .u8 240, .int .u8 240, .int .u8 240, .int .u8 240, .int .u8 240, .int .u8 240, .int .u8 240, .int .u8 240, .int .u8 240, .int .u8 240, .int .u8 240, .int .u8 240, .int .u8 240, .int .u8 240, .int .u8 240, .int .u8 240, .int .u8 240, .int .u8 240, .int .u8 240, .int .u8 240, .int .u8 240, .int .u8 240, .int .u8 240, .int .u8 240, .int .u8 240, .int .u8 240, .int .u8 240, .int .u8 240, .int .u8 240, .int .u8 240, .int .u8 240, .int .u8 240, .int .u8 240, .int .u8 240, .int .u8 240, .int .u8 240, .int .u8 240, .int .u8 240, .int .u8 240, .int .u8 240, .int .u8 240, .int .u8 240, .int .u8 240, .int .u8 240, .int .u8 240, .int .u8 240, .int .u8 240, .int .u8 240, .int .u8 240, .int .u8 240, .int .u8 240, .int .u8 240, .int .u8 240, .int .u8 240, .int .u8 240, .int .u8 240, .int .u8 240, .int .u8 240, .int .u8 240, .int .u8 240, .int .u8 240, .int .u8 240, .int .u8 240, .int .u8 240, .int .u8 240, .int .u8 240, .int .u8 240, .int .u8 240, .int .u8 240, .int .u8 240, .int .u8 241, .int .u8 241, .int .u8 241, .int .u8 241, .int .u8 241, .int .u8 241, .int .u8 241, .int .u8 241, .int .u8 241, .int .u8 241, .int .u8 241, .int .u8 241, .int .u8 241, .int .u8 241, .int .u8 241, .int .u8 241, .int .u8 241, .int .u8 241, .int .u8 241, .int .u8 241, .int .u8 241, .int .u8 241, .int .u8 241, .int .u8 241, .int .u8 241, .int .u8 241, .int .u8 241, .int .u8 241, .int .u8 241, .int .u8 241, .int .u8 241, .int .u8 241, .int .u8 241, .int .u8 241, .int .u8 241, .int .u8 241, .int .u8 241, .int .u8 241, .int .u8 241, .int .u8 241, .int .u8 241, .int .u8 241, .int .u8 241, .int .u8 241, .int .u8 241, .int .u8 241, .int .u8 241, .int .u8 241, .int .u8 241, .int .u8 241, .int .u8 241, .int .u8 241, .int .u8 241, .int .u8 241, .int .u8 241, .int .u8 241, .int .u8 241, .int .u8 241, .int .u8 241, .int .u8 241, .int .u8 241, .int .u8 241, .int .u8 241, .int .u8 241, .int .u8 241, .int .u8 241, .int .u8 2, .int .u8 2, .int .u8 2, .int .u8 2, .int .u8 2, .int .u8 2, .int .u8 2, .int .u8 2, .int .u8 2, .int .u8 2, .int .u8 2, .int .u8 2, .int .u8 2, .int .u8 2, .int .u8 2, .int .u8 2, .int .u8 2, .int .u8 2, .int .u8 2, .int .u8 2, .int .u8 2, .int .u8 2, .int .u8 2, .int .u8 2, .int .u8 2, .int .u8 2, .int .u8 2, .int .u8 2, .int .u8 2, .int .u8 2, .int .u8 19, .int .u8 3, .int .u8 3, .int .u8 3, .int .u8 3, .int .u8 3, .int .u8 3, .int .u8 3, .int .u8 3, .int .u8 3, .int .u8 3, .int .u8 3, .int .u8 3, .int .u8 35, .int .u8 3, .int .u8 3, .int .u8 52, .int .u8 4, .int .u8 4, .int .u8 4, .int .u8 68, .int .u8 241, .int .u8 241, .int .u8 241, .int .u8 241, .int .u8 241, .int .u8 241, .int .u8 241, .int .u8 241, .int .u8 241, .int .u8 241, .int .u8 241]

/-- The loaded program. -/
noncomputable def theP : Program := Tryd.prog
/-- A program that is the loaded one. -/
class IsProg (P : Program) : Prop where
  eq : P = theP

/-- From here on, numbers of functions stand for yields: of the loop object whose number is what is beyond. -/
@[irreducible] def yldN : Nat := 1000000000
theorem blt_lt {a b : Nat} (h : Nat.blt a b = true) : a < b := by rw [Nat.blt_eq] at h; exact h
theorem theP_small : Nat.ble theP.funcs.size yldN = true := by kernel_rfl

/-- The loop over a function that is walked: the number of its object, its record's block, the record, and the frame that it holds. -/
class LoopP where
  pin : Option (Nat × Nat × Loop × List AV)
instance : LoopP := ⟨none⟩

/-- What an interface value's method is found to be. -/
def MethAt (P : Program) (name : String) (t f : Nat) (x y : Value) : Prop :=
  (∀ w, (method (P.types.size + Made.depth) t x name).run P w = .ok (f, y) w) ∧ ∀ w, (nilAhead (P.types.size + Made.depth) t x name).run P w = .ok (some false) w

/-- The cells of a table: whole numbers, bools, strings. -/
def globTab (g : Nat) : Option (List SV) := match g with
  | 2 => some glob2
  | 1 => some glob1
  | 0 => some glob0
  | _ => none

/-- Variables of which the shape alone is told: a whole number of a kind; an interface value. -/
def globAny (g : Nat) : Option (Option IntKind) := none

def globPtr (g : Nat) : AV := match globTab g with
  | some cells => .one (.fptr cells 0)
  | none => .tup []

/-- A cell that is no address. -/
def litVal : SV → Option Value
  | .bool b => some (.bool b)
  | .int k n => some (.int k n)
  | .str s => some (.string ⟨s.toArray⟩)
  | _ => none

def litVals : List SV → Option (List Value)
  | [] => some []
  | s :: l => match litVal s, litVals l with
    | some v, some r => some (v :: r)
    | _, _ => none

end Go.Proofs.YtkolhfpofmpijaaDoor.Ab

/- How the abstract machine's values and heap stand to the model's: the relation, and what an operation may do to it. -/
namespace Go.Proofs.YtkolhfpofmpijaaDoor.Ab
open Go

/-- Where an abstract object lies: the block, the first cell, the block's size, how many cells the object has. -/
structure Blk where
  b : Nat
  base : Nat
  n : Nat
  clen : Nat

/-- Where objects lie, and which cells nobody writes any more, with what they hold. -/
structure Loc where
  at_ : Nat → Option Blk
  fz : Nat → Nat → Option Value

instance : CoeFun Loc (fun _ => Nat → Option Blk) := ⟨Loc.at_⟩

mutual
inductive SR (ρ : Loc) : SV → Value → Prop where
  | bool (b : Bool) : SR ρ (.bool b) (.bool b)
  | int (k : IntKind) (n : Int) : SR ρ (.int k n) (.int k n)
  | str (s : List UInt8) : SR ρ (.str s) (.string ⟨s.toArray⟩)
  | ptr {id off : Nat} {B : Blk} (h : ρ id = some B) : SR ρ (.ptr id off) (.pointer (some ⟨B.b, B.base + off, none⟩))
  | nilPtr : SR ρ .nilPtr (.pointer none)
  | slice {id off esz len c : Nat} {cap : Option Nat} {B : Blk} (h : ρ id = some B) (h1 : len ≤ c) (h2 : off + len * esz ≤ B.clen)
      (h3 : B.base + off + c * esz ≤ B.n) (h4 : 0 < esz) (h5 : cap = some c ∨ (cap = none ∧ B.clen ≤ off + c * esz)) :
      SR ρ (.slice id off esz len cap) (.slice (some ⟨B.b, B.base + off, none⟩) len c)
  | slice0 {id off esz : Nat} {x : Addr} {cap : Option Nat} {B : Blk} (h : ρ id = some B) (h2 : off = B.clen) (h4 : 0 < esz) (h5 : cap = none ∨ cap = some 0) : SR ρ (.slice id off esz 0 cap) (.slice (some x) 0 0)
  | nilSlice : SR ρ .nilSlice (.slice none 0 0)
  | func {f : Nat} {caps : List SV} {vs : List Value} (hN : f < yldN) (h : SRs ρ caps vs) : SR ρ (.func f caps) (.func (.func f) #[] vs.toArray)
  | nilFunc : SR ρ .nilFunc .nilFunc
  | iface1 {t : Nat} {s : SV} {v : Value} (h : SR ρ s v) : SR ρ (.iface t false [s]) (.iface t v)
  | ifaceA {t : Nat} {cs : List SV} {vs : List Value} (h : SRs ρ cs vs) : SR ρ (.iface t true cs) (.iface t (.agg vs.toArray))
  | nilIface : SR ρ .nilIface .nilIface
  | lst {elems : List (List SV)} {vss : List (List Value)} {E b o c : Nat} (h : SRss ρ elems vss) (h0 : 0 < E) (hE : ∀ e ∈ elems, e.length = E) (hc : elems.length ≤ c)
      (hf : ∀ j v, vss.flatten[j]? = some v → ρ.fz b (o + j) = some v) : SR ρ (.lst elems) (.slice (some ⟨b, o, none⟩) elems.length c)
  | lstx {elems : List (List SV)} {vss : List (List Value)} {E b o : Nat} (h : SRss ρ elems vss) (h0 : 0 < E) (hE : ∀ e ∈ elems, e.length = E)
      (hf : ∀ j v, vss.flatten[j]? = some v → ρ.fz b (o + j) = some v) : SR ρ (.lstx elems) (.slice (some ⟨b, o, none⟩) elems.length elems.length)
  | hnd {t : Nat} : SR ρ (.hnd t) (typeHandle theP t)
  | lst0 {x : Addr} {c : Nat} : SR ρ (.lst []) (.slice (some x) 0 c)
  | lstNil : SR ρ (.lst []) (.slice none 0 0)
  | fptr {elem : List SV} {vs : List Value} {b o off : Nat} (h : SRs ρ elem vs) (hf : ∀ j v, vs[j]? = some v → ρ.fz b (o + j) = some v) :
      SR ρ (.fptr elem off) (.pointer (some ⟨b, o + off, none⟩))
  | emp0 {x : Addr} : SR ρ .emp (.slice (some x) 0 0)
  | empNil : SR ρ .emp (.slice none 0 0)
  | map {id : Nat} {B : Blk} (h : ρ id = some B) : SR ρ (.map id) (.map (some B.b))
  | nilMap : SR ρ .nilMap (.map none)
  | meth {name : String} {t f : Nat} {x y : Value} {rv : SV} (hN : f < yldN) (h : SR ρ rv y) (hm : MethAt theP name t f x y) : SR ρ (.meth f rv) (.func (.method name) #[.iface t x] #[])
  | yld {f id : Nat} {B : Blk} (hf : f = yldN + id) (h : ρ id = some B) : SR ρ (.func f []) (.func (.yield B.b) #[] #[])
inductive SRss (ρ : Loc) : List (List SV) → List (List Value) → Prop where
  | nil : SRss ρ [] []
  | cons {e : List SV} {vs : List Value} {l : List (List SV)} {vss : List (List Value)} (h : SRs ρ e vs) (t : SRss ρ l vss) : SRss ρ (e :: l) (vs :: vss)
inductive SRs (ρ : Loc) : List SV → List Value → Prop where
  | nil : SRs ρ [] []
  | cons {s : SV} {v : Value} {l : List SV} {vs : List Value} (h : SR ρ s v) (t : SRs ρ l vs) : SRs ρ (s :: l) (v :: vs)
end

mutual
inductive VR (ρ : Loc) : AV → Value → Prop where
  | one {s : SV} {v : Value} (h : SR ρ s v) : VR ρ (.one s) v
  | agg {cs : List SV} {vs : List Value} (h : SRs ρ cs vs) : VR ρ (.agg cs) (.agg vs.toArray)
  | tup {l : List AV} {vs : List Value} (h : VRs ρ l vs) : VR ρ (.tup l) (.tuple vs.toArray)
inductive VRs (ρ : Loc) : List AV → List Value → Prop where
  | nil : VRs ρ [] []
  | cons {s : AV} {v : Value} {l : List AV} {vs : List Value} (h : VR ρ s v) (t : VRs ρ l vs) : VRs ρ (s :: l) (v :: vs)
end

/-! ### lists that are related -/
section
variable {ρ : Loc}

theorem SRs.length {l : List SV} {vs : List Value} (h : SRs ρ l vs) : l.length = vs.length := by
  induction l generalizing vs with
  | nil => cases h; rfl
  | cons s l ih => cases h with | cons h t => simp [ih t]

theorem SRs.get {l : List SV} {vs : List Value} (h : SRs ρ l vs) {j : Nat} {s : SV} (hs : l[j]? = some s) : ∃ v, vs[j]? = some v ∧ SR ρ s v := by
  induction l generalizing vs j with
  | nil => simp at hs
  | cons a l ih =>
    cases h with
    | cons h t =>
      cases j with
      | zero => simp at hs; subst hs; exact ⟨_, rfl, h⟩
      | succ j => simp at hs; exact ih t hs

theorem SRs.append {l m : List SV} {vs us : List Value} (h : SRs ρ l vs) (k : SRs ρ m us) : SRs ρ (l ++ m) (vs ++ us) := by
  induction l generalizing vs with
  | nil => cases h; exact k
  | cons s l ih => cases h with | cons h t => exact .cons h (ih t)

theorem SRs.take {l : List SV} {vs : List Value} (n : Nat) (h : SRs ρ l vs) : SRs ρ (l.take n) (vs.take n) := by
  induction n generalizing l vs with
  | zero => simp; exact .nil
  | succ n ih =>
    cases h with
    | nil => simp; exact .nil
    | cons h t => exact .cons h (ih t)

theorem SRs.drop {l : List SV} {vs : List Value} (n : Nat) (h : SRs ρ l vs) : SRs ρ (l.drop n) (vs.drop n) := by
  induction n generalizing l vs with
  | zero => simpa using h
  | succ n ih =>
    cases h with
    | nil => simp; exact .nil
    | cons h t => exact ih t

theorem SR.oneCell {s : SV} {v : Value} (h : SR ρ s v) : v.oneCell' = true := by cases h <;> rfl

theorem SR.cells {s : SV} {v : Value} (h : SR ρ s v) : v.cells = #[v] := by cases h <;> rfl

theorem SRs.oneCell {l : List SV} {vs : List Value} (h : SRs ρ l vs) : ∀ v ∈ vs, v.oneCell' = true := by
  induction l generalizing vs with
  | nil => cases h; simp
  | cons s l ih =>
    cases h with
    | cons h t =>
      intro v hv
      cases hv with
      | head => exact h.oneCell
      | tail _ hm => exact ih t v hm

theorem VR.cells {v : AV} {u : Value} (h : VR ρ v u) (hn : ∀ l, v ≠ .tup l) : SRs ρ v.cells u.cells.toList := by
  cases h with
  | one h => rw [h.cells]; exact .cons h .nil
  | agg h => simpa [AV.cells, Value.cells] using h
  | tup h => exact absurd rfl (hn _)

theorem VRs.get {l : List AV} {vs : List Value} (h : VRs ρ l vs) {j : Nat} {s : AV} (hs : l[j]? = some s) : ∃ v, vs[j]? = some v ∧ VR ρ s v := by
  induction l generalizing vs j with
  | nil => simp at hs
  | cons a l ih =>
    cases h with
    | cons h t =>
      cases j with
      | zero => simp at hs; subst hs; exact ⟨_, rfl, h⟩
      | succ j => simp at hs; exact ih t hs

theorem VRs.length {l : List AV} {vs : List Value} (h : VRs ρ l vs) : l.length = vs.length := by
  induction l generalizing vs with
  | nil => cases h; rfl
  | cons s l ih => cases h with | cons h t => simp [ih t]

theorem VRs.append {l m : List AV} {vs us : List Value} (h : VRs ρ l vs) (k : VRs ρ m us) : VRs ρ (l ++ m) (vs ++ us) := by
  induction l generalizing vs with
  | nil => cases h; exact k
  | cons s l ih => cases h with | cons h t => exact .cons h (ih t)

theorem SRs.toVRs {l : List SV} {vs : List Value} (h : SRs ρ l vs) : VRs ρ (l.map AV.one) vs := by
  induction l generalizing vs with
  | nil => cases h; exact .nil
  | cons s l ih => cases h with | cons h t => exact .cons (.one h) (ih t)

end

/-! ### lists of elements -/
section
variable {ρ : Loc}
theorem SRss.length {l : List (List SV)} {vss : List (List Value)} (h : SRss ρ l vss) : l.length = vss.length := by
  induction l generalizing vss with
  | nil => cases h; rfl
  | cons s l ih => cases h with | cons h t => simp [ih t]
theorem SRss.get {l : List (List SV)} {vss : List (List Value)} (h : SRss ρ l vss) {j : Nat} {s : List SV} (hs : l[j]? = some s) : ∃ v, vss[j]? = some v ∧ SRs ρ s v := by
  induction l generalizing vss j with
  | nil => simp at hs
  | cons a l ih =>
    cases h with
    | cons h t =>
      cases j with
      | zero => simp at hs; subst hs; exact ⟨_, rfl, h⟩
      | succ j => simp at hs; exact ih t hs
theorem SRss.take {l : List (List SV)} {vss : List (List Value)} (n : Nat) (h : SRss ρ l vss) : SRss ρ (l.take n) (vss.take n) := by
  induction n generalizing l vss with
  | zero => simp; exact .nil
  | succ n ih =>
    cases h with
    | nil => simp; exact .nil
    | cons h t => exact .cons h (ih t)
theorem SRss.drop {l : List (List SV)} {vss : List (List Value)} (n : Nat) (h : SRss ρ l vss) : SRss ρ (l.drop n) (vss.drop n) := by
  induction n generalizing l vss with
  | zero => simpa using h
  | succ n ih =>
    cases h with
    | nil => simp; exact .nil
    | cons h t => exact ih t
theorem SRss.flatten {l : List (List SV)} {vss : List (List Value)} (h : SRss ρ l vss) : SRs ρ l.flatten vss.flatten := by
  induction l generalizing vss with
  | nil => cases h; exact .nil
  | cons s l ih => cases h with | cons h t => exact h.append (ih t)
theorem SRss.lens {l : List (List SV)} {vss : List (List Value)} {E : Nat} (h : SRss ρ l vss) (hE : ∀ e ∈ l, e.length = E) : ∀ vs ∈ vss, vs.length = E := by
  induction l generalizing vss with
  | nil => cases h; simp
  | cons s l ih =>
    cases h with
    | cons h t =>
      intro vs hv
      rcases List.mem_cons.1 hv with rfl | hv
      · rw [← h.length]; exact hE s (by simp)
      · exact ih t (fun e he => hE e (by simp [he])) vs hv
end

theorem flattenE_len {α : Type} {E : Nat} : ∀ (l : List (List α)), (∀ x ∈ l, x.length = E) → l.flatten.length = l.length * E
  | [], _ => by simp
  | y :: l, hy => by
    simp only [List.flatten_cons, List.length_append, List.length_cons, hy y (by simp), flattenE_len l (fun z hz => hy z (by simp [hz])), Nat.succ_mul]
    omega
theorem flattenE_drop {α : Type} {E : Nat} : ∀ (n : Nat) (l : List (List α)), (∀ x ∈ l, x.length = E) → (l.drop n).flatten = l.flatten.drop (n * E)
  | 0, l, _ => by simp
  | n + 1, [], _ => by simp
  | n + 1, y :: l, hy => by
    simp only [List.drop_succ_cons, List.flatten_cons]
    rw [flattenE_drop n l (fun z hz => hy z (by simp [hz])), Nat.succ_mul, Nat.add_comm, ← List.drop_drop]
    congr 1
    rw [List.drop_append_of_le_length (by rw [hy y (by simp)]; exact Nat.le_refl _), List.drop_eq_nil_of_le (by rw [hy y (by simp)]; exact Nat.le_refl _)]
    simp
theorem flattenE_take {α : Type} {E : Nat} : ∀ (n : Nat) (l : List (List α)), (∀ x ∈ l, x.length = E) → (l.take n).flatten = l.flatten.take (n * E)
  | 0, l, _ => by simp
  | n + 1, [], _ => by simp
  | n + 1, y :: l, hy => by
    simp only [List.take_succ_cons, List.flatten_cons]
    have h1 : y.length = E := hy y (by simp)
    rw [flattenE_take n l (fun z hz => hy z (by simp [hz])), Nat.succ_mul, List.take_append, h1]
    have h2 : y.take (n * E + E) = y := List.take_of_length_le (by rw [h1]; exact Nat.le_add_left _ _)
    rw [h2, Nat.add_sub_cancel]
/-- What stands in an element stands in the row. -/
theorem flattenE_at {α : Type} {E : Nat} {l : List (List α)} (hl : ∀ x ∈ l, x.length = E) {j i : Nat} {x : List α} {v : α} (hx : l[j]? = some x) (hv : x[i]? = some v) : l.flatten[j * E + i]? = some v := by
  have h1 : (l.drop j).flatten[i]? = some v := by
    rw [List.drop_eq_getElem_cons (List.getElem?_eq_some_iff.1 hx).1]
    rw [List.flatten_cons]
    have : l[j]'(List.getElem?_eq_some_iff.1 hx).1 = x := (List.getElem?_eq_some_iff.1 hx).2
    rw [this, List.getElem?_append_left (List.getElem?_eq_some_iff.1 hv).1]
    exact hv
  rw [flattenE_drop j l hl, List.getElem?_drop] at h1
  exact h1
theorem flattenE_part {α : Type} {E : Nat} {l : List (List α)} (hl : ∀ x ∈ l, x.length = E) {a k i : Nat} {v : α} (hv : ((l.drop a).take k).flatten[i]? = some v) : l.flatten[a * E + i]? = some v := by
  rw [flattenE_take k (l.drop a) (fun x hx => hl x (List.mem_of_mem_drop hx)), flattenE_drop a l hl, List.getElem?_take] at hv
  split at hv
  · rw [List.getElem?_drop] at hv; exact hv
  · cases hv

/-! ### more places -/
structure Loc.le (ρ ρ' : Loc) : Prop where
  at_ : ∀ id B, ρ id = some B → ρ' id = some B
  fz : ∀ b o v, ρ.fz b o = some v → ρ'.fz b o = some v

theorem Loc.le.refl (ρ : Loc) : ρ.le ρ := ⟨fun _ _ h => h, fun _ _ _ h => h⟩
theorem Loc.le.trans {a b c : Loc} (h : a.le b) (k : b.le c) : a.le c := ⟨fun id B x => k.at_ id B (h.at_ id B x), fun b o v x => k.fz b o v (h.fz b o v x)⟩

mutual
theorem SR.mono {ρ ρ' : Loc} (hl : ρ.le ρ') : ∀ {s : SV} {v : Value}, SR ρ s v → SR ρ' s v
  | _, _, .bool b => .bool b
  | _, _, .int k n => .int k n
  | _, _, .str s => .str s
  | _, _, .ptr h => .ptr (hl.at_ _ _ h)
  | _, _, .nilPtr => .nilPtr
  | _, _, .slice h h1 h2 h3 h4 h5 => .slice (hl.at_ _ _ h) h1 h2 h3 h4 h5
  | _, _, .slice0 h h2 h4 h5 => .slice0 (hl.at_ _ _ h) h2 h4 h5
  | _, _, .nilSlice => .nilSlice
  | _, _, .func hN h => .func hN (SRs.mono hl h)
  | _, _, .yld hf h => .yld hf (hl.at_ _ _ h)
  | _, _, .nilFunc => .nilFunc
  | _, _, .iface1 h => .iface1 (SR.mono hl h)
  | _, _, .ifaceA h => .ifaceA (SRs.mono hl h)
  | _, _, .nilIface => .nilIface
  | _, _, .lst h h0 hE hc hf => .lst (SRss.mono hl h) h0 hE hc (fun j v hj => hl.fz _ _ _ (hf j v hj))
  | _, _, .lstx h h0 hE hf => .lstx (SRss.mono hl h) h0 hE (fun j v hj => hl.fz _ _ _ (hf j v hj))
  | _, _, .hnd => .hnd
  | _, _, .lst0 => .lst0
  | _, _, .lstNil => .lstNil
  | _, _, .fptr h hf => .fptr (SRs.mono hl h) (fun j v hj => hl.fz _ _ _ (hf j v hj))
  | _, _, .emp0 => .emp0
  | _, _, .empNil => .empNil
  | _, _, .map h => .map (hl.at_ _ _ h)
  | _, _, .nilMap => .nilMap
  | _, _, .meth hN h hm => .meth hN (SR.mono hl h) hm
theorem SRss.mono {ρ ρ' : Loc} (hl : ρ.le ρ') : ∀ {l : List (List SV)} {vs : List (List Value)}, SRss ρ l vs → SRss ρ' l vs
  | _, _, .nil => .nil
  | _, _, .cons h t => .cons (SRs.mono hl h) (SRss.mono hl t)
theorem SRs.mono {ρ ρ' : Loc} (hl : ρ.le ρ') : ∀ {l : List SV} {vs : List Value}, SRs ρ l vs → SRs ρ' l vs
  | _, _, .nil => .nil
  | _, _, .cons h t => .cons (SR.mono hl h) (SRs.mono hl t)
end
mutual
theorem VR.mono {ρ ρ' : Loc} (hl : ρ.le ρ') : ∀ {s : AV} {v : Value}, VR ρ s v → VR ρ' s v
  | _, _, .one h => .one (h.mono hl)
  | _, _, .agg h => .agg (h.mono hl)
  | _, _, .tup h => .tup (VRs.mono hl h)
theorem VRs.mono {ρ ρ' : Loc} (hl : ρ.le ρ') : ∀ {l : List AV} {vs : List Value}, VRs ρ l vs → VRs ρ' l vs
  | _, _, .nil => .nil
  | _, _, .cons h t => .cons (VR.mono hl h) (VRs.mono hl t)
end

/-! ### the places cut off at a number: what a value names must lie below it -/
def Loc.cut (ρ : Loc) (n : Nat) : Loc := ⟨fun id => if id < n then ρ id else none, ρ.fz⟩

theorem Loc.cut_le (ρ : Loc) (n : Nat) : (ρ.cut n).le ρ := by
  refine ⟨fun id B h => ?_, fun _ _ _ h => h⟩
  unfold Loc.cut at h
  simp only at h
  split at h
  · exact h
  · cases h

theorem Loc.cut_at (ρ : Loc) (n id : Nat) : (ρ.cut n) id = if id < n then ρ id else none := rfl

/-- All that a value names lies in ρ. -/
def Loc.dom (ρ : Loc) (n : Nat) : Prop := ∀ id B, ρ id = some B → id < n

/-- What a value names is what another relation says of it, and the cells that nobody writes are there too. -/
structure Loc.Agrees (ρ τ ρ' : Loc) : Prop where
  at_ : ∀ id B, τ id = some B → ρ' id = ρ id
  fz : ∀ b o v, ρ.fz b o = some v → ρ'.fz b o = some v

mutual
theorem SR.move {ρ τ ρ' : Loc} (ha : Loc.Agrees ρ τ ρ') : ∀ {s : SV} {v u : Value}, SR ρ s v → SR τ s u → SR ρ' s v
  | _, _, _, .bool b, _ => .bool b
  | _, _, _, .int k n, _ => .int k n
  | _, _, _, .str s, _ => .str s
  | _, _, _, .ptr h, .ptr k => .ptr (by rw [ha.at_ _ _ k]; exact h)
  | _, _, _, .nilPtr, _ => .nilPtr
  | _, _, _, .slice h h1 h2 h3 h4 h5, .slice k _ _ _ _ _ => .slice (by rw [ha.at_ _ _ k]; exact h) h1 h2 h3 h4 h5
  | _, _, _, .slice h h1 h2 h3 h4 h5, .slice0 k _ _ _ => .slice (by rw [ha.at_ _ _ k]; exact h) h1 h2 h3 h4 h5
  | _, _, _, .slice0 h h2 h4 h5, .slice k _ _ _ _ _ => .slice0 (by rw [ha.at_ _ _ k]; exact h) h2 h4 h5
  | _, _, _, .slice0 h h2 h4 h5, .slice0 k _ _ _ => .slice0 (by rw [ha.at_ _ _ k]; exact h) h2 h4 h5
  | _, _, _, .nilSlice, _ => .nilSlice
  | _, _, _, .func hN h, .func _ k => .func hN (SRs.move ha h k)
  | _, _, _, .func hN .nil, .yld _ _ => .func hN .nil
  | _, _, _, .yld hf _, .func hN _ => absurd hN (by omega)
  | _, _, _, .yld (id := i) (B := B) hf h, .yld (id := j) hf' k => .yld hf (by
      have e : i = j := by omega
      subst e
      rw [ha.at_ _ _ k]; exact h)
  | _, _, _, .nilFunc, _ => .nilFunc
  | _, _, _, .iface1 h, .iface1 k => .iface1 (SR.move ha h k)
  | _, _, _, .ifaceA h, .ifaceA k => .ifaceA (SRs.move ha h k)
  | _, _, _, .nilIface, _ => .nilIface
  | _, _, _, .lst h h0 hE hc hf, .lst k _ _ _ _ => .lst (SRss.move ha h k) h0 hE hc (fun j v hj => ha.fz _ _ _ (hf j v hj))
  | _, _, _, .lstx h h0 hE hf, .lstx k _ _ _ => .lstx (SRss.move ha h k) h0 hE (fun j v hj => ha.fz _ _ _ (hf j v hj))
  | _, _, _, .hnd, _ => .hnd
  | _, _, _, .lst .nil _ _ _ _, .lst0 => .lst0
  | _, _, _, .lst .nil _ _ _ _, .lstNil => .lst0
  | _, _, _, .lst0, _ => .lst0
  | _, _, _, .lstNil, _ => .lstNil
  | _, _, _, .fptr h hf, .fptr k _ => .fptr (SRs.move ha h k) (fun j v hj => ha.fz _ _ _ (hf j v hj))
  | _, _, _, .emp0, _ => .emp0
  | _, _, _, .empNil, _ => .empNil
  | _, _, _, .map h, .map k => .map (by rw [ha.at_ _ _ k]; exact h)
  | _, _, _, .nilMap, _ => .nilMap
  | _, _, _, .meth hN h hm, .meth _ k _ => .meth hN (SR.move ha h k) hm
theorem SRss.move {ρ τ ρ' : Loc} (ha : Loc.Agrees ρ τ ρ') : ∀ {l : List (List SV)} {vs us : List (List Value)}, SRss ρ l vs → SRss τ l us → SRss ρ' l vs
  | _, _, _, .nil, _ => .nil
  | _, _, _, .cons h t, .cons k u => .cons (SRs.move ha h k) (SRss.move ha t u)
theorem SRs.move {ρ τ ρ' : Loc} (ha : Loc.Agrees ρ τ ρ') : ∀ {l : List SV} {vs us : List Value}, SRs ρ l vs → SRs τ l us → SRs ρ' l vs
  | _, _, _, .nil, _ => .nil
  | _, _, _, .cons h t, .cons k u => .cons (SR.move ha h k) (SRs.move ha t u)
end
mutual
theorem VR.move {ρ τ ρ' : Loc} (ha : Loc.Agrees ρ τ ρ') : ∀ {s : AV} {v u : Value}, VR ρ s v → VR τ s u → VR ρ' s v
  | _, _, _, .one h, .one k => .one (h.move ha k)
  | _, _, _, .agg h, .agg k => .agg (h.move ha k)
  | _, _, _, .tup h, .tup k => .tup (VRs.move ha h k)
theorem VRs.move {ρ τ ρ' : Loc} (ha : Loc.Agrees ρ τ ρ') : ∀ {l : List AV} {vs us : List Value}, VRs ρ l vs → VRs τ l us → VRs ρ' l vs
  | _, _, _, .nil, _ => .nil
  | _, _, _, .cons h t, .cons k u => .cons (VR.move ha h k) (VRs.move ha t u)
end

theorem Loc.agrees_cut {ρ τ : Loc} {n : Nat} (hd : τ.dom n) : Loc.Agrees ρ τ (ρ.cut n) :=
  ⟨fun id B h => by rw [Loc.cut_at, if_pos (hd id B h)], fun _ _ _ h => h⟩
theorem SR.cut {ρ τ : Loc} {n : Nat} (hd : τ.dom n) {s : SV} {v u : Value} (h : SR ρ s v) (k : SR τ s u) : SR (ρ.cut n) s v := h.move (Loc.agrees_cut hd) k
theorem SRs.cut {ρ τ : Loc} {n : Nat} (hd : τ.dom n) {l : List SV} {vs us : List Value} (h : SRs ρ l vs) (k : SRs τ l us) : SRs (ρ.cut n) l vs := h.move (Loc.agrees_cut hd) k
theorem VR.cut {ρ τ : Loc} {n : Nat} (hd : τ.dom n) {s : AV} {v u : Value} (h : VR ρ s v) (k : VR τ s u) : VR (ρ.cut n) s v := h.move (Loc.agrees_cut hd) k
theorem VRs.cut {ρ τ : Loc} {n : Nat} (hd : τ.dom n) {l : List AV} {vs us : List Value} (h : VRs ρ l vs) (k : VRs τ l us) : VRs (ρ.cut n) l vs := h.move (Loc.agrees_cut hd) k

/-! ### the heap's relation -/
def Own (w : World) (B : Blk) : Prop :=
  ∃ cur t fz, w.heap[B.b]? = some (.cells cur t fz) ∧ cur.size = B.n ∧ ∀ o, o < B.n → ¬ (fz.1 ≤ o ∧ o < fz.2)

def Holds (ρ : Loc) (w : World) (B : Blk) (cs : List SV) : Prop :=
  ∃ vs : List Value, SRs ρ cs vs ∧ ∀ j v, vs[j]? = some v → w.cell? ⟨B.b, B.base + j, none⟩ = some v

/-- A map's entries. -/
inductive EntR (ρ : Loc) : List Ent → List MapEntry → Prop where
  | nil : EntR ρ [] []
  | cons {a : Ent} {e : MapEntry} {l : List Ent} {es : List MapEntry} (hb : e.born = a.born) (hk : SR ρ a.key e.key) (hv : VR ρ a.val e.val) (t : EntR ρ l es) : EntR ρ (a :: l) (e :: es)

theorem EntR.mono {ρ ρ' : Loc} (hl : ρ.le ρ') {l : List Ent} {es : List MapEntry} (h : EntR ρ l es) : EntR ρ' l es := by
  induction h with
  | nil => exact .nil
  | cons hb hk hv _ ih => exact .cons hb (hk.mono hl) (hv.mono hl) ih

theorem EntR.move {ρ τ ρ' : Loc} (ha : Loc.Agrees ρ τ ρ') {l : List Ent} {es : List MapEntry} (h : EntR ρ l es) : ∀ {fs : List MapEntry}, EntR τ l fs → EntR ρ' l es := by
  induction h with
  | nil => exact fun _ => .nil
  | cons hb hk hv _ ih =>
    intro fs k
    cases k with
    | cons kb kk kv kt => exact .cons hb (hk.move ha kk) (hv.move ha kv) (ih kt)

def MapHolds (ρ : Loc) (w : World) (B : Blk) (clock : Nat) (es : List Ent) : Prop :=
  ∃ ents, w.heap[B.b]? = some (.map ents clock) ∧ EntR ρ es ents.toList

/-- A whole block, of the type, nothing frozen. -/
def TagOk (w : World) (B : Blk) (t : Nat) (full : Bool) : Prop := (B.base = 0 ∧ (full = true → B.clen = B.n)) ∧ ∃ cur, w.heap[B.b]? = some (.cells cur t (0, 0)) ∧ cur.size = B.n

/-- The record of a loop over a function. -/
def PinOk [LoopP] (ρ : Loc) (B : Blk) (r : Loop) : Prop := ∀ id l r0 fr, LoopP.pin = some (id, l, r0, fr) →
  (∃ B0, ρ id = some B0 ∧ B0.b = l) ∧ (B.b = l → r = r0) ∧ fr.length = r0.tmps.size ∧ ∀ t, VR ρ (getSlot fr t) (r0.tmps.getD t undef)
def LoopOk [LoopP] (ρ : Loc) (w : World) (B : Blk) : Prop := ∃ r, w.heap[B.b]? = some (.loop r) ∧ PinOk ρ B r
theorem LoopOk.of_heap [LoopP] {ρ ρ' : Loc} {w w' : World} {B : Blk} (hl : ρ.le ρ') (h : LoopOk ρ w B) (e : w'.heap[B.b]? = w.heap[B.b]?) : LoopOk ρ' w' B := by
  obtain ⟨r, h1, h2⟩ := h
  refine ⟨r, by rw [e]; exact h1, fun id l r0 fr hp => ?_⟩
  obtain ⟨⟨B0, h3, h4⟩, h5, h6, h7⟩ := h2 id l r0 fr hp
  exact ⟨⟨B0, hl.at_ _ _ h3, h4⟩, h5, h6, fun t => (h7 t).mono hl⟩
theorem LoopOk.mix [LoopP] {ρ ρ1 ρ' : Loc} {w w1 : World} {B B' : Blk} (hl : ρ.le ρ') (h : LoopOk ρ1 w1 B) (k : LoopOk ρ w B') : LoopOk ρ' w1 B := by
  obtain ⟨r, h1, h2⟩ := h
  obtain ⟨r', _, k2⟩ := k
  refine ⟨r, h1, fun id l r0 fr hp => ?_⟩
  obtain ⟨_, h5, _⟩ := h2 id l r0 fr hp
  obtain ⟨⟨B1, h6, h7⟩, _, h8, h9⟩ := k2 id l r0 fr hp
  exact ⟨⟨B1, hl.at_ _ _ h6, h7⟩, h5, h8, fun t => (h9 t).mono hl⟩
theorem LoopOk.cut [LoopP] {ρ τ : Loc} {w w' : World} {B B' : Blk} {n : Nat} (hd : τ.dom n) (h : LoopOk ρ w B) (k : LoopOk τ w' B') : LoopOk (ρ.cut n) w B := by
  obtain ⟨r, h1, h2⟩ := h
  obtain ⟨r', _, k2⟩ := k
  refine ⟨r, h1, fun id l r0 fr hp => ?_⟩
  obtain ⟨⟨B0, h3, h4⟩, h5, h6, h7⟩ := h2 id l r0 fr hp
  obtain ⟨⟨B1, k3, _⟩, _, _, k7⟩ := k2 id l r0 fr hp
  exact ⟨⟨B0, by rw [Loc.cut_at, if_pos (hd _ _ k3)]; exact h3, h4⟩, h5, h6, fun t => (h7 t).cut hd (k7 t)⟩

set_option linter.unusedSectionVars false
variable [LoopP]

structure ObjOk (ρ : Loc) (w : World) (B : Blk) (o : AObj) : Prop where
  len : o.cells.length = B.clen
  fit : B.base + B.clen ≤ B.n
  holds : o.md ≠ .dead → Holds ρ w B o.cells
  own : o.md = .own → Own w B
  mp : ∀ c es, o.md = .map c es → MapHolds ρ w B c es
  tg : ∀ t f, o.md = .tag t f → TagOk w B t f
  lp : o.md = .loop → LoopOk ρ w B

/-- The block b is written by nobody but through ρ's own objects. -/
def Owned (ρ : Loc) (g : Nat → Option AObj) (b : Nat) : Prop := ∃ id B o, ρ id = some B ∧ g id = some o ∧ o.md.owns = true ∧ B.b = b

/-- The listed tables lie where they lie. -/
def anyOk : Option IntKind → Value → Prop
  | some k, v => ∃ n, v = .int k n
  | none, v => v = .nilIface ∨ ∃ t p, v = .iface t p
structure GlobF (fz : Nat → Nat → Option Value) : Prop where
  tab : ∀ g cells, globTab g = some cells → ∃ vs, litVals cells = some vs ∧ ∀ j v, vs[j]? = some v → fz g j = some v
  any : ∀ g k, globAny g = some k → ∃ v, anyOk k v ∧ fz g 0 = some v
def GlobOk (ρ : Loc) : Prop := GlobF ρ.fz

theorem GlobOk.mono {ρ ρ' : Loc} (hf : ∀ b o v, ρ.fz b o = some v → ρ'.fz b o = some v) (h : GlobOk ρ) : GlobOk ρ' where
  tab := fun g cells hg => by
    obtain ⟨vs, h1, h2⟩ := h.tab g cells hg
    exact ⟨vs, h1, fun j v hj => hf _ _ _ (h2 j v hj)⟩
  any := fun g k hg => by
    obtain ⟨v, h1, h2⟩ := h.any g k hg
    exact ⟨v, h1, hf _ _ _ h2⟩

theorem litVal_rel {ρ : Loc} {s : SV} {v : Value} (h : litVal s = some v) : SR ρ s v := by
  cases s <;> simp only [litVal] at h <;> cases h
  · exact .bool _
  · exact .int _ _
  · exact .str _

theorem litVals_rel {ρ : Loc} : ∀ {l : List SV} {vs : List Value}, litVals l = some vs → SRs ρ l vs
  | [], vs, h => by cases h; exact .nil
  | s :: l, vs, h => by
    simp only [litVals] at h
    split at h
    · rename_i v r h1 h2
      cases h
      exact .cons (litVal_rel h1) (litVals_rel h2)
    · cases h

theorem globPtr_rel {ρ : Loc} (h : GlobOk ρ) {g : Nat} {cells : List SV} (hg : globTab g = some cells) : VR ρ (globPtr g) (.pointer (some ⟨g, 0, none⟩)) := by
  obtain ⟨vs, h1, h2⟩ := h.tab g cells hg
  unfold globPtr
  rw [hg]
  have := SR.fptr (ρ := ρ) (b := g) (o := 0) (off := 0) (litVals_rel h1) (fun j v hj => by rw [Nat.zero_add]; exact h2 j v hj)
  exact .one (by simpa using this)

/-- The listed tables are whole rows. -/
def GlobRows (w : World) : Prop := ∀ g c l, globTab g = some (c :: l) → ∃ cur t fz, w.heap[g]? = some (.cells cur t fz) ∧ cur.size = l.length + 1

structure HR (ρ : Loc) (g : Nat → Option AObj) (w : World) : Prop where
  dom : ∀ id B, ρ id = some B → ∃ o, g id = some o ∧ ObjOk ρ w B o ∧ B.b < w.heap.size
  excl : ∀ i j B B' o o', ρ i = some B → ρ j = some B' → g i = some o → g j = some o' → i ≠ j → o.md.owns = true → o'.md ≠ .dead → B.b ≠ B'.b
  frz : ∀ b o v, ρ.fz b o = some v → w.cell? ⟨b, o, none⟩ = some v ∧ ¬ Owned ρ g b
  gl : GlobOk ρ
  rows : GlobRows w

theorem cell_lt {w : World} {b o : Nat} {v : Value} (h : w.cell? ⟨b, o, none⟩ = some v) : b < w.heap.size := by
  unfold World.cell? at h
  split at h
  · rename_i hb
    exact (Array.getElem?_eq_some_iff.1 hb).1
  · cases h

theorem HR.frzLt {ρ : Loc} {g : Nat → Option AObj} {w : World} (h : HR ρ g w) {b o : Nat} {v : Value} (hf : ρ.fz b o = some v) : b < w.heap.size :=
  cell_lt (h.frz b o v hf).1

theorem rows_stays {ρ : Loc} {g : Nat → Option AObj} {w w' : World} (h : HR ρ g w) (hframe : ∀ b, b < w.heap.size → ¬ Owned ρ g b → w'.heap[b]? = w.heap[b]?) : GlobRows w' := by
  intro k c l hk
  obtain ⟨cur, t, fz, h1, h2⟩ := h.rows k c l hk
  refine ⟨cur, t, fz, ?_, h2⟩
  obtain ⟨vs, e, hv⟩ := h.gl.tab k _ hk
  have hlen := (litVals_rel (ρ := ρ) e).length
  cases vs with
  | nil => simp at hlen
  | cons v vs =>
    rw [hframe k (Array.getElem?_eq_some_iff.1 h1).1 (h.frz k 0 v (hv 0 v rfl)).2]
    exact h1

structure Post (ρ : Loc) (σ : AHeap) (w : World) (ρ' : Loc) (σ' : AHeap) (w' : World) : Prop where
  le : ρ.le ρ'
  size : σ.size ≤ σ'.size
  new : ∀ id, σ.size ≤ id → id < σ'.size → ∃ B, ρ' id = some B
  old : ∀ id, id < σ.size → ρ' id = ρ id
  dom : ∀ id B, ρ' id = some B → id < σ'.size
  same : ∀ id, id < σ.size → ρ id = none → σ'.get id = σ.get id
  md : ∀ id B o', ρ id = some B → σ'.get id = some o' → o'.md.owns = true → ∃ o, σ.get id = some o ∧ o.md.owns = true
  md' : ∀ id B o, ρ id = some B → σ.get id = some o → o.md = .dead → ∃ o', σ'.get id = some o' ∧ o'.md = .dead
  hr : HR ρ' σ'.get w'
  hsize : w.heap.size ≤ w'.heap.size
  frame : ∀ b, b < w.heap.size → ¬ Owned ρ σ.get b → w'.heap[b]? = w.heap[b]?
  fresh : ∀ id B, σ.size ≤ id → ρ' id = some B → w.heap.size ≤ B.b ∨ Owned ρ σ.get B.b
  fz : ∀ b o v, ρ'.fz b o = some v → ρ.fz b o = some v ∨ w.heap.size ≤ b ∨ Owned ρ σ.get b
  os : w'.os = w.os
  tape : w'.tape = w.tape
  output : w'.output = w.output

/-- ρ names objects that are there alone. -/
theorem HR.lt {ρ : Loc} {σ : AHeap} {w : World} (h : HR ρ σ.get w) {id : Nat} {B : Blk} (hB : ρ id = some B) : id < σ.size := by
  obtain ⟨o, ho, _⟩ := h.dom id B hB
  exact AHeap.get_lt ho

theorem Post.refl {ρ : Loc} {σ : AHeap} {w : World} (h : HR ρ σ.get w) : Post ρ σ w ρ σ w where
  le := .refl ρ
  size := Nat.le_refl _
  new := fun id h1 h2 => absurd h2 (by omega)
  old := fun _ _ => rfl
  dom := fun id B hB => h.lt hB
  same := fun _ _ _ => rfl
  md := fun id B o' _ h2 h3 => ⟨o', h2, h3⟩
  md' := fun id B o' _ h2 h3 => ⟨o', h2, h3⟩
  hr := h
  hsize := Nat.le_refl _
  frame := fun _ _ _ => rfl
  fresh := fun id B h1 h2 => absurd (h.lt h2) (by omega)
  fz := fun _ _ _ h => .inl h
  os := rfl
  tape := rfl
  output := rfl

/-- The cells that nobody writes stay. -/
theorem frz_stays {ρ ρ' : Loc} {g g' : Nat → Option AObj} {w w' : World} (h : HR ρ g w) (hf : ∀ b o v, ρ'.fz b o = some v → ρ.fz b o = some v)
    (hframe : ∀ b, b < w.heap.size → ¬ Owned ρ g b → w'.heap[b]? = w.heap[b]?) (howned : ∀ b, b < w.heap.size → Owned ρ' g' b → Owned ρ g b) :
    ∀ b o v, ρ'.fz b o = some v → w'.cell? ⟨b, o, none⟩ = some v ∧ ¬ Owned ρ' g' b := by
  intro b o v hv
  have hv := hf b o v hv
  obtain ⟨h1, h2⟩ := h.frz b o v hv
  have hlt := h.frzLt hv
  refine ⟨?_, fun ho => h2 (howned b hlt ho)⟩
  unfold World.cell? at *
  simp only [hframe b hlt h2] at *
  exact h1

theorem Post.owned {ρ ρ' : Loc} {σ σ' : AHeap} {w w' : World} (h : Post ρ σ w ρ' σ' w') {b : Nat} (hb : b < w.heap.size) (ho : Owned ρ' σ'.get b) : Owned ρ σ.get b := by
  obtain ⟨id, B, o, h1, h2, h3, h4⟩ := ho
  by_cases hlt : id < σ.size
  · rw [h.old id hlt] at h1
    obtain ⟨o1, k1, k2⟩ := h.md id B o h1 h2 h3
    exact ⟨id, B, o1, h1, k1, k2, h4⟩
  · rcases h.fresh id B (by omega) h1 with k | k
    · omega
    · rwa [h4] at k

theorem Post.trans {ρ ρ1 ρ2 : Loc} {σ σ1 σ2 : AHeap} {w w1 w2 : World} (h : Post ρ σ w ρ1 σ1 w1) (k : Post ρ1 σ1 w1 ρ2 σ2 w2) : Post ρ σ w ρ2 σ2 w2 where
  le := h.le.trans k.le
  size := Nat.le_trans h.size k.size
  new := fun id h1 h2 => by
    by_cases hlt : id < σ1.size
    · obtain ⟨B, hB⟩ := h.new id h1 hlt
      exact ⟨B, k.le.at_ _ _ hB⟩
    · exact k.new id (by omega) h2
  old := fun id hid => by rw [k.old id (by have := h.size; omega), h.old id hid]
  dom := k.dom
  same := fun id h1 h2 => by
    rw [k.same id (by have := h.size; omega) (by rw [h.old id h1]; exact h2), h.same id h1 h2]
  md := fun id B o' h1 h2 h3 => by
    obtain ⟨o1, k1, k2⟩ := k.md id B o' (h.le.at_ _ _ h1) h2 h3
    exact h.md id B o1 h1 k1 k2
  md' := fun id B o h1 h2 h3 => by
    obtain ⟨o1, k1, k2⟩ := h.md' id B o h1 h2 h3
    exact k.md' id B o1 (h.le.at_ _ _ h1) k1 k2
  hr := k.hr
  hsize := Nat.le_trans h.hsize k.hsize
  frame := fun b h1 h2 => by
    rw [k.frame b (by have := h.hsize; omega) (fun ho => h2 (h.owned h1 ho)), h.frame b h1 h2]
  fresh := fun id B h1 h2 => by
    by_cases hlt : id < σ1.size
    · rw [k.old id hlt] at h2
      exact h.fresh id B h1 h2
    · rcases k.fresh id B (by omega) h2 with q | q
      · exact .inl (Nat.le_trans h.hsize q)
      · by_cases hb : B.b < w.heap.size
        · exact .inr (h.owned hb q)
        · exact .inl (by omega)
  fz := fun b o v hv => by
    rcases k.fz b o v hv with q | q | q
    · exact h.fz b o v q
    · exact .inr (.inl (Nat.le_trans h.hsize q))
    · by_cases hb : b < w.heap.size
      · exact .inr (.inr (h.owned hb q))
      · exact .inr (.inl (Nat.le_of_not_lt hb))
  os := k.os.trans h.os
  tape := k.tape.trans h.tape
  output := k.output.trans h.output

/-! ### the frame's relation -/
structure FR (ρ : Loc) (fr : List AV) (tmps : Array Value) : Prop where
  len : fr.length = tmps.size
  at_ : ∀ t, VR ρ (getSlot fr t) (tmps.getD t undef)
  gl : GlobOk ρ

theorem VR.undef {ρ : Loc} : VR ρ undefA undef := by
  show VR ρ (.tup []) (.tuple #[])
  have := VR.tup (ρ := ρ) VRs.nil
  simpa using this

theorem FR.mono {ρ ρ' : Loc} (hl : ρ.le ρ') {fr : List AV} {tmps : Array Value} (h : FR ρ fr tmps) : FR ρ' fr tmps :=
  ⟨h.len, fun t => (h.at_ t).mono hl, h.gl.mono hl.fz⟩

theorem getSlot_eq : ∀ (fr : List AV) (t : Nat), getSlot fr t = (fr[t]?).getD undefA
  | [], t => by simp [getSlot]
  | v :: _, 0 => by simp [getSlot]
  | _ :: l, n + 1 => by simp [getSlot, getSlot_eq l n]

theorem setSlot_eq : ∀ (fr : List AV) (t : Nat) (x : AV), setSlot fr t x = fr.set t x
  | [], t, x => by simp [setSlot]
  | v :: _, 0, x => by simp [setSlot]
  | _ :: l, n + 1, x => by simp [setSlot, setSlot_eq l n]

theorem FR.put {ρ : Loc} {fr : List AV} {a : Act} (h : FR ρ fr a.tmps) (d : Option Nat) {v : AV} {u : Value} (hv : VR ρ v u) :
    FR ρ (putDst fr d v) (a.put d u).tmps := by
  cases d with
  | none => exact h
  | some d =>
    refine ⟨by simp [putDst, setSlot_eq, Act.put, h.len], fun t => ?_, h.gl⟩
    simp only [putDst, Act.put, getSlot_eq, setSlot_eq, Array.getD_eq_getD_getElem?, List.getElem?_set, Array.getElem?_setIfInBounds]
    by_cases e : d = t
    · subst e
      simp only [if_true]
      by_cases hlt : d < fr.length
      · have : d < a.tmps.size := by rw [← h.len]; exact hlt
        simp [hlt, this, hv]
      · have : ¬ d < a.tmps.size := by rw [← h.len]; exact hlt
        simp [hlt, this]
        exact VR.undef
    · simp only [e, if_false]
      have := h.at_ t
      simpa [getSlot_eq, Array.getD_eq_getD_getElem?] using this

end Go.Proofs.YtkolhfpofmpijaaDoor.Ab

/- What a new block, a store, and an append that stays in place do to the relation. -/
namespace Go.Proofs.YtkolhfpofmpijaaDoor.Ab
open Go
set_option linter.unusedSectionVars false
variable [LoopP]
set_option linter.unusedSimpArgs false
set_option linter.unusedVariables false

def Loc.upd (ρ : Loc) (n : Nat) (B : Blk) : Loc := ⟨fun id => if id = n then some B else ρ id, ρ.fz⟩

theorem Loc.upd_at (ρ : Loc) (n id : Nat) (B : Blk) : (ρ.upd n B) id = if id = n then some B else ρ id := rfl

theorem Loc.le_upd {ρ : Loc} {n : Nat} (h : ρ n = none) (B : Blk) : ρ.le (ρ.upd n B) := by
  refine ⟨fun id B' hB => ?_, fun _ _ _ h => h⟩
  rw [Loc.upd_at]
  by_cases e : id = n
  · subst e; rw [h] at hB; cases hB
  · rw [if_neg e]; exact hB

theorem HR.none_size {ρ : Loc} {σ : AHeap} {w : World} (h : HR ρ σ.get w) {n : Nat} (hn : σ.size ≤ n) : ρ n = none := by
  cases hB : ρ n with
  | none => rfl
  | some B => exact absurd (h.lt hB) (by omega)

theorem Own.of_heap {w w' : World} {B : Blk} (h : Own w B) (e : w'.heap[B.b]? = w.heap[B.b]?) : Own w' B := by
  obtain ⟨cur, t, fz, h1, h2, h3⟩ := h
  exact ⟨cur, t, fz, by rw [e]; exact h1, h2, h3⟩

theorem cell_of_heap {w w' : World} {b o : Nat} (e : w'.heap[b]? = w.heap[b]?) : w'.cell? ⟨b, o, none⟩ = w.cell? ⟨b, o, none⟩ := by
  unfold World.cell?
  simp only [e]

theorem ObjOk.of_heap {ρ ρ' : Loc} {w w' : World} {B : Blk} {o : AObj} (hl : ρ.le ρ') (h : ObjOk ρ w B o) (e : w'.heap[B.b]? = w.heap[B.b]?) : ObjOk ρ' w' B o where
  len := h.len
  fit := h.fit
  holds := fun hd => by
    obtain ⟨vs, h1, h2⟩ := h.holds hd
    exact ⟨vs, h1.mono hl, fun j v hj => by rw [cell_of_heap e]; exact h2 j v hj⟩
  own := fun ho => (h.own ho).of_heap e
  mp := fun c es he => by
    obtain ⟨en, h1, h2⟩ := h.mp c es he
    exact ⟨en, by rw [e]; exact h1, h2.mono hl⟩
  tg := fun t f he => by
    obtain ⟨q1, cur, q2, q3⟩ := h.tg t f he
    exact ⟨q1, cur, by rw [e]; exact q2, q3⟩
  lp := fun he => (h.lp he).of_heap hl e

theorem ObjOk.dead {ρ : Loc} {w : World} {B : Blk} {o : AObj} (hd : o.md = .dead) (h1 : o.cells.length = B.clen) (h2 : B.base + B.clen ≤ B.n) : ObjOk ρ w B o :=
  ⟨h1, h2, fun h => absurd hd h, fun h => (by rw [hd] at h; cases h), fun c es h => (by rw [hd] at h; cases h), fun t f h => (by rw [hd] at h; cases h), fun h => (by rw [hd] at h; cases h)⟩

/-- A world with the same heap. -/
theorem HR.of_heap {ρ : Loc} {g : Nat → Option AObj} {w w' : World} (h : HR ρ g w) (e : w'.heap = w.heap) : HR ρ g w' where
  dom := fun id B hB => by
    obtain ⟨o, h1, h2, h3⟩ := h.dom id B hB
    exact ⟨o, h1, h2.of_heap (.refl ρ) (by rw [e]), by rw [e]; exact h3⟩
  excl := h.excl
  frz := fun b o v hv => by
    obtain ⟨h1, h2⟩ := h.frz b o v hv
    exact ⟨by rw [cell_of_heap (w := w) (by rw [e])]; exact h1, h2⟩
  gl := h.gl
  rows := fun g c l hg => by rw [e]; exact h.rows g c l hg

theorem Post.of_heap {ρ : Loc} {σ : AHeap} {w w' : World} (h : HR ρ σ.get w) (e : w'.heap = w.heap) (h1 : w'.os = w.os) (h2 : w'.tape = w.tape) (h3 : w'.output = w.output) : Post ρ σ w ρ σ w' :=
  { Post.refl h with hr := h.of_heap e, hsize := by rw [e]; exact Nat.le_refl _, frame := fun _ _ _ => by rw [e], os := h1, tape := h2, output := h3 }

/-- A new object in a new block. -/
theorem Post.allocG {ρ : Loc} {σ : AHeap} {w : World} (h : HR ρ σ.get w) {o : AObj} {ob : Obj} {B : Blk} (hBb : B.b = w.heap.size) (hok : ObjOk (ρ.upd σ.size B) (w.alloc ob) B o) :
    Post ρ σ w (ρ.upd σ.size B) (σ.alloc o) (w.alloc ob) := by
  have hnone : ρ σ.size = none := h.none_size (Nat.le_refl _)
  have hle := Loc.le_upd hnone (B := B)
  have hold : ∀ k, k < w.heap.size → (w.alloc ob).heap[k]? = w.heap[k]? := by
    intro k hk
    show (w.heap.push _)[k]? = _
    rw [Array.getElem?_push, if_neg (by omega)]
  have hlt : ∀ i B', (ρ.upd σ.size B) i = some B' → i ≠ σ.size → ρ i = some B' ∧ B'.b < w.heap.size ∧ i < σ.size := by
    intro i B' hB hi
    rw [Loc.upd_at, if_neg hi] at hB
    obtain ⟨o, h1, h2, h3⟩ := h.dom i B' hB
    exact ⟨hB, h3, AHeap.get_lt h1⟩
  have hself : ∀ B', (ρ.upd σ.size B) σ.size = some B' → B' = B := by
    intro B' hB
    rw [Loc.upd_at, if_pos rfl] at hB
    cases hB
    rfl
  have howned : ∀ b, b < w.heap.size → Owned (ρ.upd σ.size B) (σ.alloc o).get b → Owned ρ σ.get b := by
    rintro b hb ⟨id, B', o', k1, k2, k3, k4⟩
    by_cases e : id = σ.size
    · subst e
      have := hself B' k1
      subst this
      omega
    · rw [AHeap.get_alloc, if_neg e] at k2
      exact ⟨id, B', o', (hlt id B' k1 e).1, k2, k3, k4⟩
  exact {
    le := hle
    size := by simp [AHeap.size_alloc]
    new := fun id h1 h2 => by
      have : id = σ.size := by rw [AHeap.size_alloc] at h2; omega
      subst this
      exact ⟨B, by rw [Loc.upd_at, if_pos rfl]⟩
    old := fun id hid => by rw [Loc.upd_at, if_neg (by omega)]
    dom := fun id B hB => by
      rw [AHeap.size_alloc]
      by_cases e : id = σ.size
      · omega
      · have := (hlt id _ hB e).2.2; omega
    same := fun id h1 h2 => by rw [AHeap.get_alloc, if_neg (by omega)]
    md := fun id B o' h1 h2 h3 => by
      have := h.lt h1
      rw [AHeap.get_alloc, if_neg (by omega)] at h2
      exact ⟨o', h2, h3⟩
    md' := fun id B o h1 h2 h3 => by
      have := h.lt h1
      exact ⟨o, by rw [AHeap.get_alloc, if_neg (by omega)]; exact h2, h3⟩
    hr := {
      dom := fun id B' hB => by
        by_cases e : id = σ.size
        · subst e
          have := hself B' hB
          subst this
          exact ⟨o, by rw [AHeap.get_alloc, if_pos rfl], hok, by rw [hBb]; simp⟩
        · obtain ⟨k1, k2, k3⟩ := hlt id B' hB e
          obtain ⟨o, h1, h2, h3⟩ := h.dom id B' k1
          exact ⟨o, by rw [AHeap.get_alloc, if_neg e]; exact h1, h2.of_heap hle (hold _ k2), by simp; omega⟩
      excl := fun i j B1 B2 o1 o2 h1 h2 h3 h4 hne h5 h6 => by
        by_cases e : i = σ.size
        · subst e
          have e1 := hself B1 h1
          have := (hlt j B2 h2 (fun e => hne e.symm)).2.1
          subst e1
          omega
        · obtain ⟨k1, k2, k3⟩ := hlt i B1 h1 e
          by_cases e' : j = σ.size
          · subst e'
            have e1 := hself B2 h2
            subst e1
            omega
          · obtain ⟨q1, q2, q3⟩ := hlt j B2 h2 e'
            rw [AHeap.get_alloc, if_neg e] at h3
            rw [AHeap.get_alloc, if_neg e'] at h4
            exact h.excl i j B1 B2 o1 o2 k1 q1 h3 h4 hne h5 h6
      frz := frz_stays h (fun _ _ _ h => h) (fun b hb _ => hold b hb) howned
      gl := h.gl
      rows := rows_stays h (fun b hb _ => hold b hb) }
    hsize := by simp
    frame := fun b hb _ => hold b hb
    fresh := fun id B' h1 h2 => by
      by_cases e : id = σ.size
      · subst e
        have := hself B' h2
        subst this
        exact .inl (by omega)
      · have := (hlt id B' h2 e).2.2; omega
    fz := fun _ _ _ h => .inl h
    os := rfl
    tape := rfl
    output := rfl }

/-- What a new row of cells is. -/
theorem ObjOk.ofRow {ρ ρ' : Loc} {w : World} {cs : List SV} {vs extra : List Value} {t : TypeId} {fz : Nat × Nat} {arr : Array Value} (hle : ρ.le ρ')
    (hv : SRs ρ cs vs) (ha : arr = (vs ++ extra).toArray) (hfz : ∀ o, o < arr.size → ¬ (fz.1 ≤ o ∧ o < fz.2)) :
    ObjOk ρ' (w.alloc (.cells arr t fz)) ⟨w.heap.size, 0, arr.size, cs.length⟩ ⟨cs, .own⟩ := by
  have hnew : (w.alloc (.cells arr t fz)).heap[w.heap.size]? = some (.cells arr t fz) := by
    show (w.heap.push _)[w.heap.size]? = _
    simp
  refine ⟨rfl, by simp [ha, hv.length], fun _ => ⟨vs, hv.mono hle, fun j v hj => ?_⟩, fun _ => ⟨arr, t, fz, hnew, rfl, hfz⟩, fun c es h => (by cases h), fun t f h => (by cases h), fun h => (by cases h)⟩
  simp only [World.cell?, hnew]
  simp only [ha, Nat.zero_add, Option.isSome_none, Bool.false_eq_true, if_false, List.getElem?_toArray]
  rw [List.getElem?_append_left (List.getElem?_eq_some_iff.1 hj).1]
  exact hj

/-- A new block. -/
theorem Post.alloc {ρ : Loc} {σ : AHeap} {w : World} (h : HR ρ σ.get w) {cs : List SV} {vs extra : List Value} {t : TypeId} {fz : Nat × Nat} {arr : Array Value}
    (hv : SRs ρ cs vs) (ha : arr = (vs ++ extra).toArray) (hfz : ∀ o, o < arr.size → ¬ (fz.1 ≤ o ∧ o < fz.2)) :
    Post ρ σ w (ρ.upd σ.size ⟨w.heap.size, 0, arr.size, cs.length⟩) (σ.alloc ⟨cs, .own⟩) (w.alloc (.cells arr t fz)) :=
  Post.allocG h rfl (ObjOk.ofRow (Loc.le_upd (h.none_size (Nat.le_refl _)) _) hv ha hfz)

/-- An object that is one's own is written. -/
theorem Post.putG {ρ : Loc} {σ : AHeap} {w w' : World} (h : HR ρ σ.get w) {id : Nat} {B : Blk} {o o' : AObj} (hB : ρ id = some B) (ho : σ.get id = some o) (hmo : o.md.owns = true)
    (hok : ObjOk ρ w' B o') (hoth : ∀ k, k ≠ B.b → w'.heap[k]? = w.heap[k]?) (hsz : w'.heap.size = w.heap.size) (hos : w'.os = w.os) (htape : w'.tape = w.tape) (hout : w'.output = w.output) :
    Post ρ σ w ρ (σ.put id o') w' := by
  have hid := AHeap.get_lt ho
  have hnd : o.md ≠ .dead := by intro e; rw [e] at hmo; cases hmo
  have howned : ∀ b, b < w.heap.size → Owned ρ (σ.put id o').get b → Owned ρ σ.get b := by
    rintro b hb ⟨i, B', o2, k1, k2, k3, k4⟩
    rw [AHeap.get_put _ _ _ _ hid] at k2
    by_cases e : i = id
    · subst e; exact ⟨i, B', o, k1, ho, hmo, k4⟩
    · rw [if_neg e] at k2; exact ⟨i, B', o2, k1, k2, k3, k4⟩
  have hframe : ∀ b, b < w.heap.size → ¬ Owned ρ σ.get b → w'.heap[b]? = w.heap[b]? := fun b hb hno => hoth b (fun e => hno ⟨id, B, o, hB, ho, hmo, e.symm⟩)
  exact {
    le := .refl ρ
    size := Nat.le_refl _
    new := fun id h1 h2 => absurd h2 (by rw [AHeap.size_put]; omega)
    old := fun _ _ => rfl
    dom := fun id B hB => h.lt hB
    same := fun i h1 h2 => by
      rw [AHeap.get_put _ _ _ _ hid, if_neg]
      intro e; subst e; rw [hB] at h2; cases h2
    md := fun i B' o' h1 h2 h3 => by
      rw [AHeap.get_put _ _ _ _ hid] at h2
      by_cases e : i = id
      · subst e; exact ⟨_, ho, hmo⟩
      · rw [if_neg e] at h2; exact ⟨o', h2, h3⟩
    md' := fun i B' o2 h1 h2 h3 => by
      rw [AHeap.get_put _ _ _ _ hid]
      by_cases e : i = id
      · subst e; rw [ho] at h2; cases h2; exact absurd h3 hnd
      · rw [if_neg e]; exact ⟨o2, h2, h3⟩
    hr := {
      dom := fun i B' hB' => by
        rw [AHeap.get_put _ _ _ _ hid]
        by_cases e : i = id
        · subst e
          rw [hB] at hB'
          cases hB'
          rw [if_pos rfl]
          obtain ⟨_, _, _, h3⟩ := h.dom i B hB
          exact ⟨_, rfl, hok, by rw [hsz]; exact h3⟩
        · rw [if_neg e]
          obtain ⟨o2, k1, k2, k3⟩ := h.dom i B' hB'
          refine ⟨o2, k1, ?_, by rw [hsz]; exact k3⟩
          by_cases hd : o2.md = .dead
          · exact .dead hd k2.len k2.fit
          · exact k2.of_heap (.refl ρ) (hoth _ (fun e' => h.excl id i B B' _ o2 hB hB' ho k1 (fun x => e x.symm) hmo hd e'.symm))
      excl := fun i j B1 B2 o1 o2 k1 k2 k3 k4 hne k5 k6 => by
        rw [AHeap.get_put _ _ _ _ hid] at k3 k4
        by_cases e : i = id
        · subst e
          rw [if_neg (fun x => hne x.symm)] at k4
          rw [hB] at k1; cases k1
          exact h.excl i j B B2 _ o2 hB k2 ho k4 hne hmo k6
        · rw [if_neg e] at k3
          by_cases e' : j = id
          · subst e'
            rw [hB] at k2; cases k2
            exact h.excl i j B1 B o1 _ k1 hB k3 ho hne k5 hnd
          · rw [if_neg e'] at k4
            exact h.excl i j B1 B2 o1 o2 k1 k2 k3 k4 hne k5 k6
      frz := frz_stays h (fun _ _ _ h => h) hframe howned
      gl := h.gl
      rows := rows_stays h hframe }
    hsize := by rw [hsz]; exact Nat.le_refl _
    frame := hframe
    fresh := fun i B' h1 h2 => absurd (h.lt h2) (by omega)
    fz := fun _ _ _ h => .inl h
    os := hos
    tape := htape
    output := hout }

/-! ### a store -/
theorem run_storeCells_own (P : Program) (g o : Nat) (t : TypeId) (fz : Nat × Nat) : ∀ (vs : List Value) (i : Nat) (cur : Array Value) (w : World), w.heap[g]? = some (.cells cur t fz) →
    (∀ o, o < cur.size → ¬ (fz.1 ≤ o ∧ o < fz.2)) → o + i + vs.length ≤ cur.size → (∀ v ∈ vs, v.oneCell' = true) →
    (storeCells ⟨g, o, none⟩ vs i).run P w = .ok () (w.setRow g (cur.toList.take (o + i) ++ vs ++ cur.toList.drop (o + i + vs.length)).toArray)
  | [], i, cur, w, hg, _, _, _ => by
    simp only [storeCells, List.append_nil, List.length_nil, Nat.add_zero, List.take_append_drop, Array.toArray_toList]
    rw [setRow_self w g cur t fz hg]
    rfl
  | v :: rest, i, cur, w, hg, hfz, hl, h1 => by
    have hi : o + i < cur.size := by simp at hl; omega
    have hadd : (⟨g, o, none⟩ : Addr).add i = ⟨g, o + i, none⟩ := by unfold Addr.add; split <;> simp_all
    have hcell : w.cell? ⟨g, o + i, none⟩ = some cur[o + i] := by simp [World.cell?, hg, hi]
    have hfro : w.frozen? ⟨g, o + i, none⟩ = false := by
      obtain ⟨lo, hi'⟩ := fz
      have := hfz (o + i) hi
      simp only [World.frozen?, hg, Bool.and_eq_false_iff, decide_eq_false_iff_not]
      simp only at this
      omega
    have hst : (store ((⟨g, o, none⟩ : Addr).add i) v).run P w = .ok () (w.setRow g (cur.setIfInBounds (o + i) v)) := by
      rw [hadd, run_store P w _ v _ (h1 v (by simp)), hcell]
      simp [hfro, setCell_eq_setRow w g (o + i) cur t fz v hg]
    have ih := run_storeCells_own P g o t fz rest (i + 1) (cur.setIfInBounds (o + i) v) (w.setRow g (cur.setIfInBounds (o + i) v)) (setRow_heap w g cur _ t _ hg) (by simpa using hfz) (by simp at hl ⊢; omega) (fun x hx => h1 x (by simp [hx]))
    simp only [storeCells, Sem.run_bind, hst, Result.andThen_ok, ih, setRow_setRow]
    congr 3
    have e := list_seg_step cur.toList (o + i) v rest (by simp at hl ⊢; omega)
    simpa [Array.toList_setIfInBounds, Nat.add_assoc] using e

theorem splice_length {cs vs : List SV} {off : Nat} (h : off + vs.length ≤ cs.length) : (splice cs off vs).length = cs.length := by
  simp [splice]; omega

theorem get_splice {α : Type} (cs vs : List α) (off : Nat) (h : off + vs.length ≤ cs.length) (j : Nat) :
    (cs.take off ++ vs ++ cs.drop (off + vs.length))[j]? = if off ≤ j ∧ j < off + vs.length then vs[j - off]? else cs[j]? := by
  simp only [List.getElem?_append, List.length_append, List.length_take, List.getElem?_take, List.getElem?_drop]
  have hm : min off cs.length = off := by omega
  rw [hm]
  by_cases h1 : j < off
  · have : ¬ (off ≤ j ∧ j < off + vs.length) := by omega
    simp [h1, this]
    intro h2; omega
  · by_cases h2 : j < off + vs.length
    · have : off ≤ j ∧ j < off + vs.length := by omega
      simp [h1, h2, this]
    · have : ¬ (off ≤ j ∧ j < off + vs.length) := by omega
      simp [h2, this]
      congr 1
      omega

theorem SRs.splice {ρ : Loc} {cs ss : List SV} {us vs : List Value} (h : SRs ρ cs us) (k : SRs ρ ss vs) (off : Nat) :
    SRs ρ (Ab.splice cs off ss) (us.take off ++ vs ++ us.drop (off + vs.length)) := by
  unfold Ab.splice
  rw [← k.length]
  exact ((h.take off).append k).append (h.drop _)

/-- A store into an object that is one's own: the cells vs at off. -/
theorem Post.write {ρ : Loc} {σ : AHeap} {w : World} (h : HR ρ σ.get w) {id off : Nat} {B : Blk} {cs ss : List SV} {vs : List Value} {P : Program}
    (hB : ρ id = some B) (ho : σ.get id = some ⟨cs, .own⟩) (hl : off + ss.length ≤ cs.length) (hv : SRs ρ ss vs) :
    ∃ w', (storeCells ⟨B.b, B.base + off, none⟩ vs).run P w = .ok () w' ∧ Post ρ σ w ρ (σ.put id ⟨Ab.splice cs off ss, .own⟩) w' := by
  obtain ⟨o, h1, h2, h3⟩ := h.dom id B hB
  rw [ho] at h1
  cases h1
  obtain ⟨cur, t, fz, g1, g2, g3⟩ := h2.own rfl
  have hn := h2.fit
  obtain ⟨us, u1, u2⟩ := h2.holds (by simp)
  have hlen := h2.len
  simp only at hlen
  have hvl := hv.length
  have hid := AHeap.get_lt ho
  let cs' := (cur.toList.take (B.base + off) ++ vs ++ cur.toList.drop (B.base + off + vs.length)).toArray
  have hcl : B.base + off + vs.length ≤ cur.toList.length := by simp; omega
  have hcs : cs'.size = B.n := by simp [cs']; simp at hcl; omega
  refine ⟨w.setRow B.b cs', ?_, ?_⟩
  · have := run_storeCells_own P B.b (B.base + off) t fz vs 0 cur w g1 (by rw [g2]; exact g3) (by omega) hv.oneCell
    simpa [cs'] using this
  have hoth : ∀ k, k ≠ B.b → (w.setRow B.b cs').heap[k]? = w.heap[k]? := fun k hk => setRow_other w B.b k cs' hk
  have hsame : (w.setRow B.b cs').heap[B.b]? = some (.cells cs' t fz) := setRow_heap w B.b cur cs' t fz g1
  have hok : ObjOk ρ (w.setRow B.b cs') B ⟨Ab.splice cs off ss, .own⟩ := by
    refine ⟨by simpa [splice_length hl] using hlen, hn, fun _ => ⟨_, u1.splice hv off, fun j v hj => ?_⟩, fun _ => ⟨cs', t, fz, hsame, hcs, g3⟩, fun c es h => (by cases h), fun t f h => (by cases h), fun h => (by cases h)⟩
    have hul : off + vs.length ≤ us.length := by rw [← u1.length, ← hvl]; exact hl
    rw [get_splice us vs off hul j] at hj
    simp only [World.cell?, hsame, Option.isSome_none, Bool.false_eq_true, if_false, cs', List.getElem?_toArray]
    rw [get_splice cur.toList vs (B.base + off) hcl]
    by_cases hc : off ≤ j ∧ j < off + vs.length
    · rw [if_pos hc] at hj
      rw [if_pos (by omega), show B.base + j - (B.base + off) = j - off by omega]
      exact hj
    · rw [if_neg hc] at hj
      rw [if_neg (by omega)]
      have := u2 j v hj
      simp only [World.cell?, g1, Option.isSome_none, Bool.false_eq_true, if_false] at this
      simpa using this
  exact Post.putG h hB ho rfl hok hoth (by simp) rfl rfl rfl

/-- An append that goes on in the block: the object dies, a new one has its memory. -/
theorem Post.grow {ρ : Loc} {σ : AHeap} {w : World} (h : HR ρ σ.get w) {id off : Nat} {B : Blk} {cs ss : List SV} {vs : List Value} {P : Program}
    (hB : ρ id = some B) (ho : σ.get id = some ⟨cs, .own⟩) (hoff : off ≤ cs.length) (hl : B.base + cs.length + ss.length ≤ B.n) (hv : SRs ρ ss vs) :
    ∃ w', (storeCells ⟨B.b, B.base + cs.length, none⟩ vs).run P w = .ok () w' ∧
      Post ρ σ w (ρ.upd σ.size ⟨B.b, B.base + off, B.n, (cs.drop off ++ ss).length⟩) ((σ.put id ⟨cs, .dead⟩).alloc ⟨cs.drop off ++ ss, .own⟩) w' := by
  obtain ⟨o, h1, h2, h3⟩ := h.dom id B hB
  rw [ho] at h1
  cases h1
  obtain ⟨cur, t, fz, g1, g2, g3⟩ := h2.own rfl
  have hn := h2.fit
  obtain ⟨us, u1, u2⟩ := h2.holds (by simp)
  have hlen := h2.len
  simp only at hlen
  have hvl := hv.length
  have hul : cs.length = us.length := u1.length
  have hid := AHeap.get_lt ho
  have hnone : ρ σ.size = none := h.none_size (Nat.le_refl _)
  let NB : Blk := ⟨B.b, B.base + off, B.n, (cs.drop off ++ ss).length⟩
  have hle : ρ.le (ρ.upd σ.size NB) := Loc.le_upd hnone _
  let cs' := (cur.toList.take (B.base + cs.length) ++ vs ++ cur.toList.drop (B.base + cs.length + vs.length)).toArray
  have hcl : B.base + cs.length + vs.length ≤ cur.toList.length := by simp; omega
  have hcs : cs'.size = B.n := by simp [cs']; simp at hcl; omega
  have hget : ∀ i, ((σ.put id ⟨cs, .dead⟩).alloc ⟨cs.drop off ++ ss, .own⟩).get i = if i = σ.size then some ⟨cs.drop off ++ ss, .own⟩ else if i = id then some ⟨cs, .dead⟩ else σ.get i := by
    intro i
    rw [AHeap.get_alloc, AHeap.size_put, AHeap.get_put _ _ _ _ hid]
  refine ⟨w.setRow B.b cs', ?_, ?_⟩
  · have := run_storeCells_own P B.b (B.base + cs.length) t fz vs 0 cur w g1 (by rw [g2]; exact g3) (by omega) hv.oneCell
    simpa [cs'] using this
  have hoth : ∀ k, k ≠ B.b → (w.setRow B.b cs').heap[k]? = w.heap[k]? := fun k hk => setRow_other w B.b k cs' hk
  have hsame : (w.setRow B.b cs').heap[B.b]? = some (.cells cs' t fz) := setRow_heap w B.b cur cs' t fz g1
  have hself : ∀ B', (ρ.upd σ.size NB) σ.size = some B' → B' = NB := by
    intro B' hB'
    rw [Loc.upd_at, if_pos rfl] at hB'
    cases hB'
    rfl
  have hlt : ∀ i B', (ρ.upd σ.size NB) i = some B' → i ≠ σ.size → ρ i = some B' ∧ i < σ.size := by
    intro i B' hB' hi
    rw [Loc.upd_at, if_neg hi] at hB'
    exact ⟨hB', h.lt hB'⟩
  have hok : ObjOk (ρ.upd σ.size NB) (w.setRow B.b cs') NB ⟨cs.drop off ++ ss, .own⟩ := by
    refine ⟨rfl, by simp [NB]; omega, fun _ => ⟨us.drop off ++ vs, ((u1.drop off).append hv).mono hle, fun j v hj => ?_⟩, fun _ => ⟨cs', t, fz, hsame, hcs, g3⟩, fun c es h => (by cases h), fun t f h => (by cases h), fun h => (by cases h)⟩
    · simp only [World.cell?, NB, hsame, Option.isSome_none, Bool.false_eq_true, if_false, cs', List.getElem?_toArray]
      rw [get_splice cur.toList vs (B.base + cs.length) hcl]
      rw [List.getElem?_append] at hj
      by_cases hc : j < (us.drop off).length
      · rw [if_pos hc] at hj
        simp at hc
        rw [if_neg (by omega)]
        rw [List.getElem?_drop] at hj
        have := u2 _ v hj
        simp only [World.cell?, g1, Option.isSome_none, Bool.false_eq_true, if_false] at this
        rw [show B.base + off + j = B.base + (off + j) by omega]
        simpa using this
      · rw [if_neg hc] at hj
        simp at hc
        have hj2 := (List.getElem?_eq_some_iff.1 hj).1
        simp at hj2
        rw [if_pos (by omega), show B.base + off + j - (B.base + cs.length) = j - (us.drop off).length by simp; omega]
        exact hj
  exact {
    le := hle
    size := by simp [AHeap.size_alloc, AHeap.size_put]
    new := fun i h1 h2 => by
      have : i = σ.size := by rw [AHeap.size_alloc, AHeap.size_put] at h2; omega
      subst this
      exact ⟨NB, by rw [Loc.upd_at, if_pos rfl]⟩
    old := fun i hi => by rw [Loc.upd_at, if_neg (by omega)]
    dom := fun i B' hB' => by
      rw [AHeap.size_alloc, AHeap.size_put]
      by_cases e : i = σ.size
      · omega
      · have := (hlt i B' hB' e).2; omega
    same := fun i h1 h2 => by
      rw [hget, if_neg (by omega), if_neg]
      intro e; subst e; rw [hB] at h2; cases h2
    md := fun i B' o' h1 h2 h3 => by
      have := h.lt h1
      rw [hget, if_neg (by omega)] at h2
      by_cases e : i = id
      · subst e; exact ⟨_, ho, rfl⟩
      · rw [if_neg e] at h2; exact ⟨o', h2, h3⟩
    md' := fun i B' o h1 h2 h3 => by
      have := h.lt h1
      rw [hget, if_neg (by omega)]
      by_cases e : i = id
      · subst e; rw [if_pos rfl]; exact ⟨_, rfl, rfl⟩
      · rw [if_neg e]; exact ⟨o, h2, h3⟩
    hr := {
      dom := fun i B' hB' => by
        rw [hget]
        by_cases e0 : i = σ.size
        · subst e0
          have := hself B' hB'
          subst this
          rw [if_pos rfl]
          exact ⟨_, rfl, hok, by simpa [NB] using h3⟩
        · rw [if_neg e0]
          obtain ⟨q1, q2⟩ := hlt i B' hB' e0
          by_cases e : i = id
          · subst e
            rw [hB] at q1
            cases q1
            rw [if_pos rfl]
            exact ⟨_, rfl, .dead rfl hlen hn, by simpa using h3⟩
          · rw [if_neg e]
            obtain ⟨o', k1, k2, k3⟩ := h.dom i B' q1
            refine ⟨o', k1, ?_, by simpa using k3⟩
            by_cases hd : o'.md = .dead
            · exact .dead hd k2.len k2.fit
            · exact k2.of_heap hle (hoth _ (fun e' => h.excl id i B B' _ o' hB q1 ho k1 (fun x => e x.symm) rfl hd e'.symm))
      excl := fun i j B1 B2 o1 o2 k1 k2 k3 k4 hne k5 k6 => by
        rw [hget] at k3 k4
        by_cases e : i = σ.size
        · subst e
          have e1 := hself B1 k1
          subst e1
          rw [if_neg (fun x => hne x.symm)] at k4
          obtain ⟨q1, q2⟩ := hlt j B2 k2 (fun x => hne x.symm)
          by_cases e2 : j = id
          · rw [if_pos e2] at k4; cases k4; exact absurd rfl k6
          · rw [if_neg e2] at k4
            exact h.excl id j B B2 _ o2 hB q1 ho k4 (fun x => e2 x.symm) rfl k6
        · rw [if_neg e] at k3
          obtain ⟨q1, q2⟩ := hlt i B1 k1 e
          by_cases e2 : i = id
          · rw [if_pos e2] at k3; cases k3; cases k5
          · rw [if_neg e2] at k3
            by_cases e' : j = σ.size
            · subst e'
              have e1 := hself B2 k2
              subst e1
              exact h.excl i id B1 B o1 _ q1 hB k3 ho e2 k5 (by simp)
            · rw [if_neg e'] at k4
              obtain ⟨p1, p2⟩ := hlt j B2 k2 e'
              by_cases e3 : j = id
              · rw [if_pos e3] at k4; cases k4; exact absurd rfl k6
              · rw [if_neg e3] at k4
                exact h.excl i j B1 B2 o1 o2 q1 p1 k3 k4 hne k5 k6
      frz := frz_stays h (fun _ _ _ h => h) (fun b hb hno => hoth b (fun e => hno ⟨id, B, _, hB, ho, rfl, e.symm⟩)) (by
        rintro b hb ⟨i, B', o2, k1, k2, k3, k4⟩
        rw [hget] at k2
        by_cases e : i = σ.size
        · subst e
          have e1 := hself B' k1
          subst e1
          exact ⟨id, B, _, hB, ho, rfl, k4⟩
        · rw [if_neg e] at k2
          obtain ⟨q1, q2⟩ := hlt i B' k1 e
          by_cases e2 : i = id
          · subst e2; exact ⟨i, B', _, q1, ho, rfl, k4⟩
          · rw [if_neg e2] at k2; exact ⟨i, B', o2, q1, k2, k3, k4⟩)
      gl := h.gl
      rows := rows_stays h (fun b hb hno => hoth b (fun e => hno ⟨id, B, _, hB, ho, rfl, e.symm⟩)) }
    hsize := by simp
    frame := fun b hb hno => hoth b (fun e => hno ⟨id, B, _, hB, ho, rfl, e.symm⟩)
    fresh := fun i B' h1 h2 => by
      by_cases e : i = σ.size
      · subst e
        have := hself B' h2
        subst this
        exact .inr ⟨id, B, _, hB, ho, rfl, rfl⟩
      · exact absurd (hlt i B' h2 e).2 (by omega)
    fz := fun _ _ _ h => .inl h
    os := rfl
    tape := rfl
    output := rfl }

/-- An object that is no longer looked at. -/
theorem Post.kill {ρ : Loc} {σ : AHeap} {w : World} (h : HR ρ σ.get w) {id : Nat} {B : Blk} {cs : List SV} (hB : ρ id = some B)
    (ho : σ.get id = some ⟨cs, .own⟩) : Post ρ σ w ρ (σ.put id ⟨cs, .dead⟩) w := by
  obtain ⟨o, h1, h2, h3⟩ := h.dom id B hB
  rw [ho] at h1
  cases h1
  exact Post.putG h hB ho rfl (.dead rfl h2.len h2.fit) (fun _ _ => rfl) rfl rfl rfl rfl

end Go.Proofs.YtkolhfpofmpijaaDoor.Ab

/- From the model's operations to the abstract machine's: the types' sizes looked up once. -/
namespace Go.Proofs.YtkolhfpofmpijaaDoor.Ab
open Go

def absS : Value → Option SV
  | .bool b => some (.bool b)
  | .int k n => some (.int k n)
  | .string s => some (.str s.data.toList)
  | .pointer none => some .nilPtr
  | .slice none 0 0 => some .nilSlice
  | .nilFunc => some .nilFunc
  | .nilIface => some .nilIface
  | .map none => some .nilMap
  | _ => none

def absSs : List Value → Option (List SV)
  | [] => some []
  | v :: l => match absS v, absSs l with
    | some s, some r => some (s :: r)
    | _, _ => none

def absV : Value → Option AV
  | .agg cs => match absSs cs.toList with
    | some l => some (.agg l)
    | none => none
  | .tuple vs => match vs.size with
    | 0 => some (.tup [])
    | _ => none
  | v => match absS v with
    | some s => some (.one s)
    | none => none

def compOpd : Operand → Option AOpd
  | .tmp t => some (.tmp t)
  | .const v => match absV v with
    | some a => some (.const a)
    | none => none
  | .func f => match Nat.blt f yldN with
    | true => some (.const (.one (.func f [])))
    | false => none
  | .global g => match globTab g with
    | some _ => some (.const (globPtr g))
    | none => none

def compOpds : List Operand → Option (List AOpd)
  | [] => some []
  | x :: l => match compOpd x, compOpds l with
    | some a, some r => some (a :: r)
    | _, _ => none

def compOpt : Option Operand → Option (Option AOpd)
  | none => some none
  | some x => match compOpd x with
    | some a => some (some a)
    | none => none

/-- A type's number of cells. -/
def tSize (P : Program) (t : TypeId) : Option Nat := match P.info? t with
  | some i => some i.size
  | none => none

def tBytes (P : Program) (t : TypeId) : Option Nat := match P.info? t with
  | some i => some i.bytes
  | none => none

/-- A type's zero value, as cells. -/
def tZero (P : Program) (t : TypeId) : Option (List SV) := match P.info? t with
  | some i => match i.zero with
    | some v => match absV v with
      | some (.tup _) => none
      | some a => match Nat.beq a.cells.length i.size with
        | true => some a.cells
        | false => none
      | none => none
    | none => none
  | none => none

/-- none: one cell; some n: a struct or an array of n cells. -/
def tAgg (P : Program) (t : TypeId) : Option (Option Nat) := match P.underlying t with
  | some (.struct _) | some (.array _ _) => match tSize P t with
    | some n => some (some n)
    | none => none
  | some _ => some none
  | none => none

def tElem (P : Program) (t : TypeId) : Option TypeId := match P.underlying t with
  | some (.slice e) => some e
  | _ => none

/-- The parts of a struct, an array, a slice: where each lies, how many cells it has. -/
def compParts (place : Nat → Option (Nat × Nat)) : List (Nat × Operand) → Option (List (Nat × Nat × AOpd))
  | [] => some []
  | (i, x) :: l => match place i, compOpd x, compParts place l with
    | some (off, n), some a, some r => some ((off, n, a) :: r)
    | _, _, _ => none

def fieldPlaces (P : Program) (fields : Array Field) : Option (List (Nat × Nat)) :=
  fields.toList.mapM (fun f => (P.info? f.type).map fun i => (f.offset, i.size))

def eKind (P : Program) (t : TypeId) : Option EK := match P.underlying t with
  | some .bool => some .bool
  | some (.int _) => some .int
  | some .string => some .str
  | some (.pointer _) => some .ptr
  | some (.slice _) => some .slice
  | some (.func ..) => some .func
  | _ => none

/-- How many cells a type has: of one that is no struct or array, one. -/
def tWidth (P : Program) (t : TypeId) : Option Nat := match tAgg P t with
  | some (some n) => some n
  | some none => some 1
  | none => none

/-- The cells that '==' compares, of a struct's fields, by what they are at each field's type. -/
def eqFields (P : Program) (cells : TypeId → Nat → Option (List (Nat × EK))) (n base : Nat) : List Field → Option (List (Nat × EK))
  | [] => some []
  | f :: l => match f.name == "_" with
    | true => eqFields P cells n base l
    | false => match tWidth P f.type, cells f.type (base + f.offset), eqFields P cells n base l with
      | some k, some a, some b => match Nat.ble (f.offset + k) n with
        | true => some (a ++ b)
        | false => none
      | _, _, _ => none

/-- The cells that '==' at a type compares, each of one cell alone; by a depth. -/
def eqCells (P : Program) : Nat → TypeId → Nat → Option (List (Nat × EK))
  | 0, _, _ => none
  | d + 1, t, base => match P.underlying t with
    | some .bool => some [(base, .bool)]
    | some (.int _) => some [(base, .int)]
    | some .string => some [(base, .str)]
    | some (.struct fs) => match P.stoodInHeld t, tAgg P t with
      | false, some (some n) => eqFields P (eqCells P d) n base fs.toList
      | _, _ => none
    | _ => none

def compBin (P : Program) (op : BinOp) (t : TypeId) (x y : AOpd) : Option AOp :=
  match op with
  | .eql | .neq =>
    let neg := match op with | .neq => true | _ => false
    match P.underlying t with
    | some (.int _) | some .string => some (.bin op x y)
    | some (.struct _) => match P.eqGuardType P.depth t, eqCells P 12 t 0, tAgg P t with
      | false, some l, some (some n) => some (.eqvS neg n l x y)
      | _, _, _ => none
    | _ => match eKind P t with
      | some k => some (.eqv neg k x y)
      | none => none
  | _ => some (.bin op x y)

def compCall (P : Program) (c : Call) : Option AOp :=
  match c.callee with
  | .value f => match compOpd f, compOpds c.args.toList with
    | some f, some l => some (.call f l)
    | _, _ => none
  | .invoke _ _ => none
  | .builtin b => match b, compOpds c.args.toList, c.argTypes.toList with
    | .len, some [x], [t] => match P.underlying t with
      | some .string => some (.lenS x)
      | some (.slice _) => some (.len x)
      | some (.array n _) => some (.mov (.const (.one (.int .i64 n))))
      | some (.pointer arr) => match P.underlying arr with
        | some (.array n _) => some (.mov (.const (.one (.int .i64 n))))
        | _ => none
      | _ => none
    | .cap, some [x], [t] => match P.underlying t with
      | some (.slice _) => some (.cap x)
      | _ => none
    | .append, some [x, y], [t, u] => match tElem P t with
      | some e => match tSize P e, tBytes P e, tZero P e, P.underlying u with
        | some n, some b, some z, some (.int _) => match n with
          | 0 => none
          | n + 1 => some (.appendZ (n + 1) b z x y)
        | some n, some b, some z, some (.slice _) | some n, some b, some z, some .string => match n with
          | 0 => none
          | n + 1 => some (.append (n + 1) b z x y)
        | _, _, _, _ => none
      | none => none
    | .copy, some [x, y], [t, _] => match tElem P t with
      | some e => match tSize P e with
        | some (n + 1) => some (.copy (n + 1) x y)
        | _ => none
      | none => none
    | .max, some (x :: l), _ => some (.minmax true x l)
    | .min, some (x :: l), _ => some (.minmax false x l)
    | .clear, some [x], [t] => match tElem P t with
      | some e => match tSize P e, tZero P e with
        | some (n + 1), some z => some (.clear (n + 1) z x)
        | _, _ => none
      | none => none
    | _, _, _ => none

/-- Is it the library's builder of texts? -/
def isBld (P : Program) (t : TypeId) : Bool := match P.info? t with
  | some i => match i.desc with
    | .named n _ => n == "strings.Builder"
    | _ => false
  | none => false

def compOp (P : Program) (o : Op) : Option AOp :=
  match o with
  | .move x | .assign x => match compOpd x with
    | some a => some (.mov a)
    | none => none
  | .pick c a b => match compOpd c, compOpd a, compOpd b with
    | some c, some a, some b => some (.pick c a b)
    | _, _, _ => none
  | .alloc t => match tZero P t, isBld P t with
    | some z, false => some (.new z)
    | _, _ => none
  | .box _ x => match compOpd x with
    | some a => some (.box a)
    | none => none
  | .build t parts => match P.underlying t, tZero P t with
    | some (.struct fields), some z => match fieldPlaces P fields with
      | some places => match compParts (places.toArray[·]?) parts.toList with
        | some l => some (.build z l)
        | none => none
      | none => none
    | some (.array _ e), some z => match tSize P e with
      | some n => match compParts (fun i => some (i * n, n)) parts.toList with
        | some l => some (.build z l)
        | none => none
      | none => none
    | _, _ => none
  | .buildSlice t len parts => match tElem P t with
    | some e => match tSize P e, tZero P e with
      | some (n + 1), some z => match compParts (fun i => some (i * (n + 1), n + 1)) parts.toList, Nat.ble (len * (n + 1)) 16777216 with
        | some l, true => some (.bslice (n + 1) len z l)
        | _, _ => none
      | _, _ => none
    | none => none
  | .load t x => match tAgg P t, compOpd x with
    | some g, some a => some (.load g a)
    | _, _ => none
  | .store t a x => match tSize P t, compOpd a, compOpd x with
    | some n, some a, some x => some (.store n a x)
    | _, _, _ => none
  | .nilCheck x => match compOpd x with
    | some a => some (.nilck a)
    | none => none
  | .binOp op t x y _ => match compOpd x, compOpd y with
    | some x, some y => compBin P op t x y
    | _, _ => none
  | .unOp op _ x => match compOpd x with
    | some a => some (.un op a)
    | none => none
  | .convert src dst x => match compOpd x, P.underlying src, P.underlying dst with
    | some a, some _, some (.int k) => some (.conv k a)
    | some a, some .string, some (.slice e) => match P.underlying e, tSize P e with
      | some (.int .u8), some 1 => some (.sbytes a)
      | _, _ => none
    | some a, some (.slice e), some .string => match P.underlying e, tSize P e with
      | some (.int .u8), some 1 => some (.bstr a)
      | _, _ => none
    | _, _, _ => none
  | .makeFunc (.func f) first captured => match first.size, compOpds captured.toList, Nat.blt f yldN with
    | 0, some l, true => some (.mkfn f l)
    | _, _, _ => none
  | .makeSlice t l c => match tElem P t with
    | some e => match tSize P e, tBytes P e, tZero P e with
      | some (n + 1), some b, some z => match compOpd l, compOpd c with
        | some l, some c => some (.mkslice (n + 1) b z l c)
        | _, _ => none
      | _, _, _ => none
    | none => none
  | .slice t x lo hi mx => match compOpd x, compOpt lo, compOpt hi, compOpt mx with
    | some x, some lo, some hi, some mx => match P.underlying t with
      | some .string => match mx with
        | none => some (.slstr x lo hi)
        | some _ => none
      | some (.slice e) => match tSize P e, hi.isNone && mx.isSome with
        | some (n + 1), false => some (.slice (n + 1) x lo hi mx)
        | _, _ => none
      | some (.array k e) => match tSize P e, mx with
        | some (n + 1), none => some (.slarr k (n + 1) x lo hi)
        | _, _ => none
      | some (.pointer arr) => match P.underlying arr with
        | some (.array k e) => match tSize P e, mx with
          | some (n + 1), none => some (.slarr k (n + 1) x lo hi)
          | _, _ => none
        | _ => none
      | _ => none
    | _, _, _, _ => none
  | .fieldAddr t x i => match compOpd x, P.underlying t with
    | some a, some (.struct fields) => match fields[i]? with
      | some f => match tSize P f.type with
        | some (_ + 1) => some (.faddr f.offset a)
        | _ => none
      | none => none
    | _, _ => none
  | .field t x i => match compOpd x, P.underlying t with
    | some a, some (.struct fields) => match fields[i]? with
      | some f => match tAgg P f.type with
        | some g => some (.field f.offset g a)
        | none => none
      | none => none
    | _, _ => none
  | .indexAddr t x i => match compOpd x, compOpd i, P.underlying t with
    | some x, some i, some (.slice e) => match tSize P e with
      | some (n + 1) => some (.iaddr (n + 1) x i)
      | _ => none
    | some x, some i, some (.array k e) => match tSize P e with
      | some n => some (.iaddrA k n x i)
      | none => none
    | _, _, _ => none
  | .index t x i => match compOpd x, compOpd i, P.underlying t with
    | some x, some i, some .string => some (.idxS x i)
    | some x, some i, some (.array k e) => match tSize P e, tAgg P e with
      | some n, some g => some (.idxA k n g.isSome x i)
      | _, _ => none
    | _, _, _ => none
  | .extract x i => match compOpd x with
    | some a => some (.extract a i)
    | none => none
  | .call c => compCall P c
  | _ => none

/-! ### operations that came later -/
/-- A type's zero value. -/
def tZeroV (P : Program) (t : TypeId) : Option AV := match P.info? t with
  | some i => match i.zero with
    | some v => match absV v with
      | some (.tup _) => none
      | some a => some a
      | none => none
    | none => none
  | none => none

/-- A map's kind of keys, and its elements' type. -/
def mapKV (P : Program) (t : TypeId) : Option (KK × TypeId) := match P.underlying t with
  | some (.map k e) => match P.underlying k with
    | some (.int i) => some (.int i, e)
    | some .string => some (.str, e)
    | some .bool => some (.bool, e)
    | _ => none
  | _ => none

/-- A type's row for a method: the function, and where in the receiver an embedded one lies; of pointers alone. -/
def mrow (P : Program) (name : String) (i : TypeInfo) : Option (Nat × Option Nat) := match i.methods.find? (·.name == name) with
  | some m => match m.func, m.path.toList with
    | some (f, true), [] => match i.desc with
      | .pointer _ => some (f, none)
      | _ => none
    | some (f, true), [s] => match s.deref, P.underlying s.struct with
      | true, some (.struct fields) => match fields[s.index]? with
        | some fl => match P.underlying fl.type, tSize P fl.type with
          | some (.pointer _), _ => none
          | some _, some (_ + 1) => some (f, some fl.offset)
          | _, _ => none
        | none => none
      | _, _ => none
    | _, _ => none
  | none => none

def mtab (P : Program) (name : String) : Nat → List TypeInfo → List (Nat × Nat × Option Nat)
  | _, [] => []
  | t, i :: l => match mrow P name i with
    | some (f, off) => match Nat.blt f yldN with
      | true => (t, f, off) :: mtab P name (t + 1) l
      | false => mtab P name (t + 1) l
    | none => mtab P name (t + 1) l

def isConstInt : Option Operand → Bool
  | none => true
  | some (.const (.int _ _)) => true
  | _ => false

def isNilI : Operand → Bool
  | .const .nilIface => true
  | _ => false

/-- '==' of an interface value with the literal nil. -/
def nilCmp (P : Program) (op : BinOp) (t : TypeId) (x y : Operand) : Option XOp :=
  match P.underlying t with
  | some (.interface _) => match isNilI y, compOpd x with
    | true, some a => match op with
      | .eql => some (.ifnil false a)
      | .neq => some (.ifnil true a)
      | _ => none
    | _, _ => none
  | _ => none

def compX (P : Program) (o : Op) : Option XOp :=
  match o with
  | .binOp op t x y _ => nilCmp P op t x y
  | .makeInterface t x => match compOpd x, P.underlying t with
    | some _, some (.interface _) => none
    | some a, some _ => some (.mkiface t a)
    | _, _ => none
  | .typeAssert x _ t ok => match compOpd x, P.underlying t, tZeroV P t with
    | some _, some (.interface _), _ => none
    | some a, some _, some z => some (.assert t z ok a)
    | _, _, _ => none
  | .makeFunc (.method name) first captured => match compOpds first.toList, captured.size with
    | some [x], 0 => some (.mkmeth (mtab P name 0 P.types.toList) x)
    | _, _ => none
  | .alloc t => match tZero P t, isBld P t with
    | some z, true => some (.newT t z)
    | _, _ => none
  | .makeMap t r => match isConstInt r, P.underlying t with
    | true, some (.map _ _) => some .mkmap
    | _, _ => none
  | .lookup t x k ok => match mapKV P t, compOpd x, compOpd k with
    | some (ek, e), some x, some k => match tZeroV P e with
      | some z => some (.mapget ek z ok x k)
      | none => none
    | _, _, _ => none
  | .mapUpdate t m k v | .insert t m k v => match mapKV P t, compOpd m, compOpd k, compOpd v with
    | some (ek, _), some m, some k, some v => some (.mapset ek m k v)
    | _, _, _, _ => none
  | .mapEntry t m k => match mapKV P t, compOpd m, compOpd k with
    | some (ek, e), some m, some k => match tZeroV P e with
      | some z => some (.mapent ek z m k)
      | none => none
    | _, _, _ => none
  | .entryStore _ m s v => match compOpd m, compOpd s, compOpd v with
    | some m, some s, some v => some (.mapst m s v)
    | _, _, _ => none
  | .call c => match c.callee with
    | .builtin .delete => match compOpds c.args.toList, c.argTypes.toList with
      | some [m, k], t :: _ => match mapKV P t with
        | some (ek, _) => some (.mapdel ek m k)
        | none => none
      | _, _ => none
    | .builtin .len => match compOpds c.args.toList, c.argTypes.toList with
      | some [m], [t] => match mapKV P t with
        | some _ => some (.maplen m)
        | none => none
      | _, _ => none
    | _ => none
  | _ => none

/-- A call of an interface's method. -/
def compInv (P : Program) (o : Op) : Option AOp :=
  match o with
  | .call c => match c.callee with
    | .invoke r name => match compOpd r, compOpds c.args.toList with
      | some r, some l => some (.invoke (mtab P name 0 P.types.toList) r l)
      | _, _ => none
    | _ => none
  | _ => none

def compOpX (P : Program) (o : Op) : Option AOp := match compOp P o with
  | some a => some a
  | none => match compX P o with
    | some e => some (.ext e)
    | none => compInv P o

def compOper (P : Program) (ops : Array Oper) (o : Oper) : Option AOper :=
  match compOpX P o.op with
  | some op => match o.guard with
    | none => some ⟨o.dst, op, none⟩
    | some (j, want) => match ops[j]? with
      | some g => match g.dst with
        | some d => some ⟨o.dst, op, some (d, want)⟩
        | none => none
      | none => none
  | none => none

/-- An operation that the machine does not take is one that goes nowhere. -/
def compOperB (P : Program) (ops : Array Oper) (o : Oper) : Option AOper :=
  match o.guard with
  | none => some ⟨o.dst, (compOpX P o.op).getD (.ext .bad), none⟩
  | some (j, want) => match ops[j]? with
    | some g => match g.dst with
      | some d => some ⟨o.dst, (compOpX P o.op).getD (.ext .bad), some (d, want)⟩
      | none => none
    | none => none

def compOpersB (P : Program) (ops : Array Oper) : List Oper → Option (List AOper)
  | [] => some []
  | o :: l => match compOperB P ops o, compOpersB P ops l with
    | some a, some r => some (a :: r)
    | _, _ => none

def compOpers (P : Program) (ops : Array Oper) : List Oper → Option (List AOper)
  | [] => some []
  | o :: l => match compOper P ops o, compOpers P ops l with
    | some a, some r => some (a :: r)
    | _, _ => none

end Go.Proofs.YtkolhfpofmpijaaDoor.Ab

/- The plain operations: numbers, strings, comparisons, that look into no memory. -/
namespace Go.Proofs.YtkolhfpofmpijaaDoor.Ab
open Go
set_option linter.unusedSectionVars false
variable [LoopP]
set_option linter.unusedSimpArgs false
set_option linter.unusedVariables false

theorem wr_eq (k : IntKind) (n : Int) : wr k n = k.wrap n := by
  cases k <;> simp only [wr, IntKind.wrap, IntKind.bits, IntKind.signed] <;> (try rfl) <;> split <;> simp <;> omega

theorem beqL_eq : ∀ (a b : List UInt8), beqL a b = (a == b)
  | [], [] => by simp [beqL]
  | [], _ :: _ => by simp [beqL]
  | _ :: _, [] => by simp [beqL]
  | a :: x, b :: y => by
    simp only [beqL]
    cases h : Nat.beq a.toNat b.toNat with
    | true =>
      have : a = b := UInt8.toNat_inj.1 (Nat.eq_of_beq_eq_true h)
      subst this
      simp [beqL_eq x y]
    | false =>
      have : a ≠ b := fun e => by subst e; simp at h
      have hb : (a == b) = false := by simpa using this
      simp [hb]

theorem ltL_eq : ∀ (a b : List UInt8), ltL a b = Op.bytesLess a b
  | [], [] => by simp [ltL, Op.bytesLess]
  | [], _ :: _ => by simp [ltL, Op.bytesLess]
  | _ :: _, [] => by simp [ltL, Op.bytesLess]
  | a :: x, b :: y => by
    simp only [ltL, Op.bytesLess]
    cases h : Nat.blt a.toNat b.toNat with
    | true =>
      have : a < b := by simpa [Nat.blt_eq, UInt8.lt_iff_toNat_lt] using h
      simp [this]
    | false =>
      have h1 : ¬ a < b := by
        intro hl
        have : Nat.blt a.toNat b.toNat = true := by simpa [Nat.blt_eq, UInt8.lt_iff_toNat_lt] using hl
        rw [h] at this; cases this
      cases h2 : Nat.beq a.toNat b.toNat with
      | true =>
        have : a = b := UInt8.toNat_inj.1 (Nat.eq_of_beq_eq_true h2)
        subst this
        simp [ltL_eq x y]
      | false =>
        have : a ≠ b := fun e => by subst e; simp at h2
        simp [h1, this]

section
variable {P : Program} {ρ : Loc}

theorem absS_rel {v : Value} {s : SV} (h : absS v = some s) : SR ρ s v := by
  unfold absS at h
  split at h <;> cases h
  · exact .bool _
  · exact .int _ _
  · have := SR.str (ρ := ρ) (‹ByteArray›).data.toList
    simpa using this
  · exact .nilPtr
  · exact .nilSlice
  · exact .nilFunc
  · exact .nilIface
  · exact .nilMap

theorem absSs_rel {l : List Value} {r : List SV} (h : absSs l = some r) : SRs ρ r l := by
  induction l generalizing r with
  | nil => cases h; exact .nil
  | cons v l ih =>
    simp only [absSs] at h
    split at h
    · rename_i s r' h1 h2
      cases h
      exact .cons (absS_rel h1) (ih h2)
    · cases h

theorem absV_rel {v : Value} {a : AV} (h : absV v = some a) : VR ρ a v := by
  unfold absV at h
  split at h
  · rename_i cs
    split at h
    · rename_i l hl
      cases h
      have := VR.agg (absSs_rel (ρ := ρ) hl)
      simpa using this
    · cases h
  · rename_i vs
    split at h
    · rename_i hz
      cases h
      have : vs = #[] := Array.eq_empty_of_size_eq_zero hz
      subst this
      exact VR.undef
    · cases h
  · split at h
    · rename_i s hs
      cases h
      exact .one (absS_rel hs)
    · cases h

theorem opd_rel {x : Operand} {y : AOpd} {fr : List AV} {a : Act} (h : compOpd x = some y) (hf : FR ρ fr a.tmps) : VR ρ (ev fr y) (a.eval x) := by
  cases x with
  | tmp t => cases h; exact hf.at_ t
  | const v =>
    simp only [compOpd] at h
    split at h
    · rename_i av hv
      cases h
      exact absV_rel hv
    · cases h
  | global g =>
    simp only [compOpd] at h
    split at h
    · rename_i cells hg
      cases h
      exact globPtr_rel hf.gl hg
    · cases h
  | func f =>
    simp only [compOpd] at h
    split at h
    rotate_left
    · cases h
    rename_i hN
    cases h
    have := SR.func (ρ := ρ) (f := f) (caps := []) (vs := []) (blt_lt hN) .nil
    exact .one (by simpa [Act.eval] using this)

theorem opds_rel {l : List Operand} {r : List AOpd} {fr : List AV} {a : Act} (h : compOpds l = some r) (hf : FR ρ fr a.tmps) : VRs ρ (evs fr r) (l.map a.eval) := by
  induction l generalizing r with
  | nil => cases h; exact .nil
  | cons x l ih =>
    simp only [compOpds] at h
    split at h
    · rename_i y r' h1 h2
      cases h
      exact .cons (opd_rel h1 hf) (ih h2)
    · cases h

/-! ### arithmetic -/
theorem ibits_run {op : BinOp} {k : IntKind} {x y : Int} {s : SV} (h : ibits op k x y = some s) :
    ∃ r, (∀ w, (Op.intBits op k x y).run P w = .ok r w) ∧ SR ρ s r := by
  have hb : ∀ z : Int, (BitVec.ofInt k.bits z).toNat = (z % bits2 k).toNat := by
    intro z
    rw [BitVec.toNat_ofInt]
    cases k <;> rfl
  cases op <;> simp only [ibits] at h <;> cases h <;>
    refine ⟨_, fun w => rfl, ?_⟩ <;> simp only [BitVec.toNat_and, BitVec.toNat_or, BitVec.toNat_xor, hb, wr_eq] <;> exact .int _ _

theorem ibin_run {op : BinOp} {k : IntKind} {x y : Int} {s : SV} (t : TypeId) (hop : op ≠ .shl ∧ op ≠ .shr) (h : ibin op k x y = some s) :
    ∃ r, (∀ w, (binOp op t (.int k x) (.int k y)).run P w = .ok r w) ∧ SR ρ s r := by
  cases op <;> simp only [ibin] at h
  case shl => exact absurd rfl hop.1
  case shr => exact absurd rfl hop.2
  case and => simpa [binOp] using ibits_run h
  case or => simpa [binOp] using ibits_run h
  case xor => simpa [binOp] using ibits_run h
  case quo =>
    split at h
    · cases h
    · rename_i hy
      cases h
      exact ⟨.int k (k.wrap (x.tdiv y)), fun w => by simp [binOp, Op.intDiv, hy], by rw [wr_eq]; exact .int _ _⟩
  case rem =>
    split at h
    · cases h
    · rename_i hy
      cases h
      exact ⟨.int k (x.tmod y), fun w => by simp [binOp, Op.intDiv, hy], .int _ _⟩
  case add => cases h; exact ⟨.int k (k.wrap (x + y)), fun w => by simp [binOp, Op.intArith], by rw [wr_eq]; exact .int _ _⟩
  case sub => cases h; exact ⟨.int k (k.wrap (x - y)), fun w => by simp [binOp, Op.intArith], by rw [wr_eq]; exact .int _ _⟩
  case mul => cases h; exact ⟨.int k (k.wrap (x * y)), fun w => by simp [binOp, Op.intArith], by rw [wr_eq]; exact .int _ _⟩
  case eql => cases h; exact ⟨.bool (x == y), fun w => by simp [binOp, Op.intCmp], .bool _⟩
  case neq => cases h; exact ⟨.bool (x != y), fun w => by simp [binOp, Op.intCmp], .bool _⟩
  case lss => cases h; exact ⟨.bool (x < y), fun w => by simp [binOp, Op.intCmp], .bool _⟩
  case leq => cases h; exact ⟨.bool (x ≤ y), fun w => by simp [binOp, Op.intCmp], .bool _⟩
  case gtr => cases h; exact ⟨.bool (x > y), fun w => by simp [binOp, Op.intCmp], .bool _⟩
  case geq => cases h; exact ⟨.bool (x ≥ y), fun w => by simp [binOp, Op.intCmp], .bool _⟩
  all_goals cases h

theorem shift_run {op : BinOp} {k k' : IntKind} {x y : Int} {s : SV} (t : TypeId) (hop : op = .shl ∨ op = .shr) (h : shiftBin op k x y = some s) :
    ∃ r, (∀ w, (binOp op t (.int k x) (.int k' y)).run P w = .ok r w) ∧ SR ρ s r := by
  unfold shiftBin at h
  split at h
  · cases h
  rename_i hy
  have hp : ∀ n : Nat, ((Nat.pow 2 n : Nat) : Int) = 2 ^ n := fun n => by
    show (((2 ^ n : Nat)) : Int) = 2 ^ n
    simp [Int.natCast_pow]
  rcases hop with rfl | rfl
  · cases h
    exact ⟨.int k (k.wrap (x * 2 ^ (min y.toNat k.bits))), fun w => by simp [binOp, Op.shift, hy], by rw [wr_eq, hp]; exact .int _ _⟩
  · cases h
    exact ⟨.int k (x.fdiv (2 ^ (min y.toNat k.bits))), fun w => by simp [binOp, Op.shift, hy], by rw [hp]; exact .int _ _⟩

theorem sbin_run {op : BinOp} {x y : List UInt8} {s : SV} (t : TypeId) (h : sbin op x y = some s) :
    ∃ r, (∀ w, (binOp op t (.string ⟨x.toArray⟩) (.string ⟨y.toArray⟩)).run P w = .ok r w) ∧ SR ρ s r := by
  have e : binOp op t (.string ⟨x.toArray⟩) (.string ⟨y.toArray⟩) = Op.stringOp op ⟨x.toArray⟩ ⟨y.toArray⟩ := by
    cases op <;> rfl
  rw [e]
  cases op <;> simp only [sbin] at h
  case add =>
    split at h
    · rename_i hl
      cases h
      have hl' : x.length + y.length ≤ maxStr := by simpa using hl
      unfold maxStr at hl'
      refine ⟨.string (⟨x.toArray⟩ ++ ⟨y.toArray⟩), ?_, ?_⟩
      · have h1 : (ByteArray.mk x.toArray).size = x.length := by simp [ByteArray.size]
        have h2 : (ByteArray.mk y.toArray).size = y.length := by simp [ByteArray.size]
        have h3 : ¬ (((ByteArray.mk x.toArray).size + (ByteArray.mk y.toArray).size : Nat) : Int) > IntKind.i64.max := by
          rw [h1, h2]
          have : IntKind.i64.max = 9223372036854775807 := by decide
          rw [this]
          omega
        intro w
        simp only [Op.stringOp, if_neg h3]
        rfl
      · have h3 : (ByteArray.mk x.toArray ++ ByteArray.mk y.toArray) = ⟨(x ++ y).toArray⟩ := by
          apply ByteArray.ext
          simp
        rw [h3]
        exact .str _
    · cases h
  case eql => cases h; exact ⟨.bool (x == y), fun w => by simp [Op.stringOp], by rw [beqL_eq]; exact .bool _⟩
  case neq => cases h; exact ⟨.bool (!(x == y)), fun w => by simp [Op.stringOp], by rw [beqL_eq]; exact .bool _⟩
  case lss => cases h; exact ⟨.bool (Op.bytesLess x y), fun w => by simp [Op.stringOp], by rw [ltL_eq]; exact .bool _⟩
  case leq => cases h; exact ⟨.bool (Op.bytesLess x y || x == y), fun w => by simp [Op.stringOp], by rw [ltL_eq, beqL_eq]; exact .bool _⟩
  case gtr => cases h; exact ⟨.bool (!(Op.bytesLess x y || x == y)), fun w => by simp [Op.stringOp], by rw [ltL_eq, beqL_eq]; exact .bool _⟩
  case geq => cases h; exact ⟨.bool (!Op.bytesLess x y), fun w => by simp [Op.stringOp], by rw [ltL_eq]; exact .bool _⟩
  all_goals cases h

theorem evBin_run {op : BinOp} {x y : AV} {u v : Value} {s : SV} (t : TypeId) (h : evBin op x y = some s) (hx : VR ρ x u) (hy : VR ρ y v) :
    (∃ r, (∀ w, (binOp op t u v).run P w = .ok r w) ∧ SR ρ s r) ∧ (u ≠ .nilIface) ∧ (∀ c, u ≠ .agg c) := by
  unfold evBin at h
  split at h
  · rename_i k a k' b
    cases hx with
    | one hx =>
      cases hx
      cases hy with
      | one hy =>
        cases hy
        refine ⟨?_, by simp, by simp⟩
        split at h
        · exact shift_run t (.inl rfl) h
        · exact shift_run t (.inr rfl) h
        · rename_i h1 h2
          split at h
          · rename_i hk
            have : k = k' := of_decide_eq_true hk
            subst this
            exact ibin_run t ⟨h1, h2⟩ h
          · cases h
  · cases hx with
    | one hx =>
      cases hx
      cases hy with
      | one hy =>
        cases hy
        exact ⟨sbin_run t h, by simp, by simp⟩
  · cases h

theorem eqGuard_run {op : BinOp} {t : TypeId} {x y : Operand} {u v : Value} (h1 : u ≠ .nilIface) (h2 : ∀ c, u ≠ .agg c) (w : World) :
    (eqGuard op t x y u v).run P w = .ok () w := by
  unfold eqGuard
  by_cases h : (op matches .eql | .neq) = true
  · cases u <;> first | exact absurd rfl h1 | exact absurd rfl (h2 _) | (cases op <;> simp at h <;> rfl)
  · cases op <;> simp at h <;> rfl

end
end Go.Proofs.YtkolhfpofmpijaaDoor.Ab

/- Types' sizes, parts of structs, and the filling of structs and slices. -/
namespace Go.Proofs.YtkolhfpofmpijaaDoor.Ab
open Go
set_option linter.unusedSectionVars false
variable [LoopP]
set_option linter.unusedSimpArgs false
set_option linter.unusedVariables false

section
variable {P : Program} {ρ : Loc}

theorem tSize_info {t : TypeId} {n : Nat} (h : tSize P t = some n) : ∃ i, P.info? t = some i ∧ i.size = n := by
  unfold tSize at h
  split at h
  · rename_i i hi; cases h; exact ⟨i, hi, rfl⟩
  · cases h

theorem tSize_run {t : TypeId} {n : Nat} (h : tSize P t = some n) (w : World) : (sizeOf t).run P w = .ok n w := by
  obtain ⟨i, hi, rfl⟩ := tSize_info h
  simp [sizeOf, typeInfo, hi]

theorem tAgg_some {t : TypeId} {n : Nat} (h : tAgg P t = some (some n)) (w : World) : (isAgg t).run P w = .ok true w ∧ (sizeOf t).run P w = .ok n w ∧ tSize P t = some n := by
  unfold tAgg at h
  split at h
  · rename_i fs hu
    split at h
    · rename_i m hm
      cases h
      exact ⟨by simp [isAgg, run_underlying hu], tSize_run hm w, hm⟩
    · cases h
  · rename_i k e hu
    split at h
    · rename_i m hm
      cases h
      exact ⟨by simp [isAgg, run_underlying hu], tSize_run hm w, hm⟩
    · cases h
  · cases h
  · cases h

theorem tAgg_none {t : TypeId} (h : tAgg P t = some none) (w : World) : (isAgg t).run P w = .ok false w := by
  unfold tAgg at h
  split at h
  · split at h <;> cases h
  · split at h <;> cases h
  · rename_i d h1 h2 hu
    cases d <;> first
      | exact (h1 _ rfl).elim
      | exact (h2 _ _ rfl).elim
      | simp [isAgg, run_underlying hu]
  · cases h

theorem tElem_run {t e : TypeId} (h : tElem P t = some e) : P.underlying t = some (.slice e) := by
  unfold tElem at h
  split at h
  · rename_i e' hu; cases h; exact hu
  · cases h

theorem tZero_info {t : TypeId} {z : List SV} (h : tZero P t = some z) : ∃ i v, P.info? t = some i ∧ i.zero = some v ∧ z.length = i.size ∧ ∀ ρ, SRs ρ z v.cells.toList := by
  unfold tZero at h
  split at h
  · rename_i i hi
    split at h
    · rename_i v hv
      split at h
      · cases h
      · rename_i a hnt ha
        split at h
        · rename_i hl
          cases h
          have hlen : a.cells.length = i.size := by simpa using hl
          exact ⟨i, v, hi, hv, hlen, fun ρ => (absV_rel (ρ := ρ) ha).cells (fun l e => hnt l e)⟩
        · cases h
      · cases h
    · cases h
  · cases h

/-! ### parts -/
theorem part_run {t : TypeId} {g : Option Nat} {off : Nat} {cs : List SV} {vs : List Value} {v : AV} (hg : tAgg P t = some g) (hc : SRs ρ cs vs) (hp : partA cs g off = some v) :
    ∃ u, VR ρ v u ∧ ∀ w, (part t vs.toArray off).run P w = .ok u w := by
  unfold partA at hp
  cases g with
  | none =>
    · simp only at hp
      split at hp
      · rename_i s hs
        cases hp
        obtain ⟨u, h1, h2⟩ := hc.get hs
        exact ⟨u, .one h2, fun w => by simp [part, tAgg_none hg w, h1]⟩
      · cases hp
  | some n =>
    simp only at hp
    split at hp
    · rename_i hl
      cases hp
      have hl' : off + n ≤ cs.length := by simpa using hl
      refine ⟨.agg (vs.toArray.extract off (off + n)), ?_, fun w => by simp [part, (tAgg_some hg w).1, (tAgg_some hg w).2.1]⟩
      have h1 := VR.agg ((hc.drop off).take n)
      have h2 : vs.toArray.extract off (off + n) = ((vs.drop off).take n).toArray := by
        apply Array.ext'
        simp [List.take_drop]
      rw [h2]
      exact h1
    · cases hp

/-! ### the filling of cells -/
theorem foldl_fill (off : Nat) : ∀ (xs : List Value) (k : Nat) (arr : Array Value), off + k + xs.length ≤ arr.size →
    ((xs.zipIdx k).foldl (fun (cs : Array Value) (p : Value × Nat) => cs.setIfInBounds (off + p.2) p.1) arr).toList = arr.toList.take (off + k) ++ xs ++ arr.toList.drop (off + k + xs.length)
  | [], k, arr, _ => by simp
  | x :: xs, k, arr, h => by
    simp only [List.zipIdx_cons, List.foldl_cons]
    have hl : off + (k + 1) + xs.length ≤ (arr.setIfInBounds (off + k) x).size := by simp at h ⊢; omega
    rw [foldl_fill off xs (k + 1) _ hl]
    have e := list_seg_step arr.toList (off + k) x xs (by simp at h ⊢; omega)
    simpa [Array.toList_setIfInBounds, Nat.add_assoc] using e

theorem fill_rel {place : Nat → Option (Nat × Nat)} {fr : List AV} {a : Act} (hf : FR ρ fr a.tmps) : ∀ (l : List (Nat × Operand)) (ps : List (Nat × Nat × AOpd)) (cs cs' : List SV) (vs : List Value),
    compParts place l = some ps → fillA fr cs ps = some cs' → SRs ρ cs vs →
    ∃ vs' : List Value, Instr.fill place vs.toArray (l.map fun p => (p.1, a.eval p.2)) = some vs'.toArray ∧ SRs ρ cs' vs'
  | [], ps, cs, cs', vs, hc, hfi, hs => by
    cases hc; cases hfi
    exact ⟨vs, rfl, hs⟩
  | (i, x) :: l, ps, cs, cs', vs, hc, hfi, hs => by
    simp only [compParts] at hc
    split at hc
    · rename_i off n y r hp hx hr
      cases hc
      have hv := opd_rel hx hf
      simp only [fillA] at hfi
      split at hfi
      · cases hfi
      · rename_i hnt
        split at hfi
        · rename_i hl
          have hl1 : (ev fr y).cells.length = n ∧ off + n ≤ cs.length := by simpa using hl
          have hcells := hv.cells (fun l' e => hnt l' e)
          have hlen := hcells.length
          have hsz : (a.eval x).cells.size = n := by rw [← hl1.1, hlen]; simp
          have hvs := hs.length
          obtain ⟨vs', h1, h2⟩ := fill_rel hf l r _ cs' _ hr hfi (hs.splice hcells off)
          refine ⟨vs', ?_, h2⟩
          simp only [List.map_cons, Instr.fill, hp]
          rw [if_neg (by rw [hsz]; simp; omega)]
          rw [← h1]
          congr 1
          rw [← Array.foldl_toList]
          apply Array.ext'
          have := foldl_fill off (a.eval x).cells.toList 0 vs.toArray (by simp [hsz]; omega)
          simpa [hsz] using this
        · cases hfi
    · cases hc

end
end Go.Proofs.YtkolhfpofmpijaaDoor.Ab

/- The operations that look into no memory: what they answer in whatever world. -/
namespace Go.Proofs.YtkolhfpofmpijaaDoor.Ab
open Go
set_option linter.unusedSectionVars false
variable [LoopP]
set_option linter.unusedSimpArgs false
set_option linter.unusedVariables false

/-- An operation that reads and writes no memory, and makes none. -/
def AOp.memless : AOp → Bool
  | .mov _ | .pick .. | .nilck _ | .bin .. | .eqv .. | .eqvS .. | .un .. | .conv .. | .build .. | .mkfn .. | .slice .. | .slstr .. | .slarr .. | .faddr .. | .field ..
  | .iaddr .. | .iaddrA .. | .idxS .. | .idxA .. | .extract .. | .len _ | .lenS _ | .cap _ | .minmax .. | .ext (.mkiface ..) | .ext (.ifnil ..) | .ext (.assert ..) | .ext (.mkmeth ..) => true
  | _ => false

def LenRel (ρ : Loc) (g : Nat → Option AObj) : Prop := ∀ id B o, ρ id = some B → g id = some o → o.cells.length = B.clen ∧ B.base + B.clen ≤ B.n

theorem HR.lenRel {ρ : Loc} {g : Nat → Option AObj} {w : World} (h : HR ρ g w) : LenRel ρ g := by
  intro id B o h1 h2
  obtain ⟨o', k1, k2, _⟩ := h.dom id B h1
  rw [h2] at k1; cases k1
  exact ⟨k2.len, k2.fit⟩

section
variable {P : Program} {ρ : Loc}

theorem addr_add (b o n : Nat) : (⟨b, o, none⟩ : Addr).add n = ⟨b, o + n, none⟩ := by
  unfold Addr.add
  split <;> simp_all

/-! ### '==' -/
theorem eKind_run {t : TypeId} {k : EK} (h : eKind P t = some k) : ∃ td, P.underlying t = some td ∧ match k with
    | .bool => td = .bool
    | .int => ∃ i, td = .int i
    | .str => td = .string
    | .ptr => ∃ e, td = .pointer e
    | .slice => ∃ e, td = .slice e
    | .func => ∃ a b c, td = .func a b c := by
  unfold eKind at h
  split at h <;> cases h <;> refine ⟨_, ‹_›, ?_⟩ <;> first | rfl | exact ⟨_, rfl⟩ | exact ⟨_, _, _, rfl⟩

/-- A pointer, a slice, that is not nil. -/
def IsPtr (s : SV) : Prop := (∃ i o, s = .ptr i o) ∨ ∃ e o, s = .fptr e o
def IsSl (s : SV) : Prop := (∃ i o e l c, s = .slice i o e l c) ∨ ∃ e l, s = .lst (e :: l)

theorem eqS_cases {k : EK} {x y : SV} {b : Bool} (h : eqS k x y = some b) :
    (k = .bool ∧ ∃ a c, x = .bool a ∧ y = .bool c ∧ b = (a == c)) ∨
    (k = .int ∧ ∃ i a c, x = .int i a ∧ y = .int i c ∧ b = decide (a = c)) ∨
    (k = .str ∧ ∃ a c, x = .str a ∧ y = .str c ∧ b = beqL a c) ∨
    (k = .ptr ∧ ((x = .nilPtr ∧ y = .nilPtr ∧ b = true) ∨ (x = .nilPtr ∧ IsPtr y ∧ b = false) ∨ (IsPtr x ∧ y = .nilPtr ∧ b = false))) ∨
    (k = .slice ∧ ((x = .nilSlice ∧ y = .nilSlice ∧ b = true) ∨ (x = .nilSlice ∧ IsSl y ∧ b = false) ∨ (IsSl x ∧ y = .nilSlice ∧ b = false))) ∨
    (k = .func ∧ ((x = .nilFunc ∧ y = .nilFunc ∧ b = true) ∨ (x = .nilFunc ∧ (∃ f c, y = .func f c) ∧ b = false) ∨ ((∃ f c, x = .func f c) ∧ y = .nilFunc ∧ b = false))) := by
  unfold eqS at h
  split at h
  · cases h; exact .inl ⟨rfl, _, _, rfl, rfl, rfl⟩
  · rename_i k1 a k2 c
    split at h
    · rename_i hk
      have : k1 = k2 := of_decide_eq_true hk
      subst this
      cases h
      exact .inr (.inl ⟨rfl, _, _, _, rfl, rfl, rfl⟩)
    · cases h
  · cases h; exact .inr (.inr (.inl ⟨rfl, _, _, rfl, rfl, rfl⟩))
  · cases h; exact .inr (.inr (.inr (.inl ⟨rfl, .inl ⟨rfl, rfl, rfl⟩⟩)))
  · cases h; exact .inr (.inr (.inr (.inl ⟨rfl, .inr (.inl ⟨rfl, .inl ⟨_, _, rfl⟩, rfl⟩)⟩)))
  · cases h; exact .inr (.inr (.inr (.inl ⟨rfl, .inr (.inr ⟨.inl ⟨_, _, rfl⟩, rfl, rfl⟩)⟩)))
  · cases h; exact .inr (.inr (.inr (.inr (.inl ⟨rfl, .inl ⟨rfl, rfl, rfl⟩⟩))))
  · cases h; exact .inr (.inr (.inr (.inr (.inl ⟨rfl, .inr (.inl ⟨rfl, .inl ⟨_, _, _, _, _, rfl⟩, rfl⟩)⟩))))
  · cases h; exact .inr (.inr (.inr (.inr (.inl ⟨rfl, .inr (.inr ⟨.inl ⟨_, _, _, _, _, rfl⟩, rfl, rfl⟩)⟩))))
  · cases h; exact .inr (.inr (.inr (.inr (.inr ⟨rfl, .inl ⟨rfl, rfl, rfl⟩⟩))))
  · cases h; exact .inr (.inr (.inr (.inr (.inr ⟨rfl, .inr (.inl ⟨rfl, ⟨_, _, rfl⟩, rfl⟩)⟩))))
  · cases h; exact .inr (.inr (.inr (.inr (.inr ⟨rfl, .inr (.inr ⟨⟨_, _, rfl⟩, rfl, rfl⟩)⟩))))
  · cases h; exact .inr (.inr (.inr (.inl ⟨rfl, .inr (.inl ⟨rfl, .inr ⟨_, _, rfl⟩, rfl⟩)⟩)))
  · cases h; exact .inr (.inr (.inr (.inl ⟨rfl, .inr (.inr ⟨.inr ⟨_, _, rfl⟩, rfl, rfl⟩)⟩)))
  · cases h; exact .inr (.inr (.inr (.inr (.inl ⟨rfl, .inr (.inl ⟨rfl, .inr ⟨_, _, rfl⟩, rfl⟩)⟩))))
  · cases h; exact .inr (.inr (.inr (.inr (.inl ⟨rfl, .inr (.inr ⟨.inr ⟨_, _, rfl⟩, rfl, rfl⟩)⟩))))
  · cases h

theorem eqS_func {t e1 : _} {e2 e3 : _} {x y : SV} {u v : Value} {b : Bool} (d : Nat) (hu : P.underlying t = some (.func e1 e2 e3)) (hx : SR ρ x u) (hy : SR ρ y v)
    (hh : (x = .nilFunc ∧ y = .nilFunc ∧ b = true) ∨ (x = .nilFunc ∧ (∃ f c, y = .func f c) ∧ b = false) ∨ ((∃ f c, x = .func f c) ∧ y = .nilFunc ∧ b = false)) (w : World) :
    (Op.equalIn (d + 1) t u v).run P w = .ok b w := by
  rcases hh with ⟨rfl, rfl, rfl⟩ | ⟨rfl, ⟨f, c, rfl⟩, rfl⟩ | ⟨⟨f, c, rfl⟩, rfl, rfl⟩
  · cases hx; cases hy; simp [Op.equalIn, run_underlying hu]
  · cases hx
    cases hy with
    | func => simp [Op.equalIn, run_underlying hu]
    | yld => simp [Op.equalIn, run_underlying hu]
  · cases hy
    cases hx with
    | func => simp [Op.equalIn, run_underlying hu]
    | yld => simp [Op.equalIn, run_underlying hu]

theorem eqS_run {t : TypeId} {k : EK} {x y : SV} {u v : Value} {b : Bool} (d : Nat) (h : eqS k x y = some b) (hx : SR ρ x u) (hy : SR ρ y v)
    (ht : eKind P t = some k) (w : World) : (Op.equalIn (d + 1) t u v).run P w = .ok b w := by
  obtain ⟨td, hu, hk⟩ := eKind_run ht
  rcases eqS_cases h with ⟨rfl, a, c, rfl, rfl, rfl⟩ | ⟨rfl, i, a, c, rfl, rfl, rfl⟩ | ⟨rfl, a, c, rfl, rfl, rfl⟩ | ⟨rfl, hh⟩ | ⟨rfl, hh⟩ | ⟨rfl, hh⟩
  · subst hk
    cases hx; cases hy
    simp [Op.equalIn, run_underlying hu]
  · obtain ⟨j, rfl⟩ := hk
    cases hx; cases hy
    simp [Op.equalIn, run_underlying hu]
    rfl
  · subst hk
    cases hx; cases hy
    simp only [Op.equalIn, Sem.run_bind, run_underlying hu, Result.andThen_ok, beqL_eq, Sem.run_pure]
    rw [beq_toListBytes]
    simp
  · obtain ⟨e, rfl⟩ := hk
    rcases hh with ⟨rfl, rfl, rfl⟩ | ⟨rfl, ⟨i, o, rfl⟩ | ⟨i, o, rfl⟩, rfl⟩ | ⟨⟨i, o, rfl⟩ | ⟨i, o, rfl⟩, rfl, rfl⟩ <;> cases hx <;> cases hy <;> simp [Op.equalIn, run_underlying hu]
  · obtain ⟨e, rfl⟩ := hk
    rcases hh with ⟨rfl, rfl, rfl⟩ | ⟨rfl, ⟨i, o, e, l, c, rfl⟩ | ⟨i, o, rfl⟩, rfl⟩ | ⟨⟨i, o, e, l, c, rfl⟩ | ⟨i, o, rfl⟩, rfl, rfl⟩ <;> cases hx <;> cases hy <;> simp [Op.equalIn, run_underlying hu]
  · obtain ⟨e1, e2, e3, rfl⟩ := hk
    exact eqS_func d hu hx hy hh w

/-! ### '==' of structs -/
theorem eqOffs_append {xs ys : List SV} : ∀ (l m : List (Nat × EK)), eqOffs xs ys (l ++ m) = match eqOffs xs ys l with
    | some true => eqOffs xs ys m
    | r => r
  | [], m => by simp [eqOffs]
  | (o, k) :: l, m => by
    simp only [List.cons_append, eqOffs]
    cases xs[o]? with
    | none => simp
    | some a =>
      cases ys[o]? with
      | none => simp
      | some b =>
        simp only
        cases eqS k a b with
        | none => simp
        | some r => cases r <;> simp [eqOffs_append l m]

/-- What stands at a place of a row of cells, at a type. -/
def ValAt (P : Program) (t : TypeId) (vs : List Value) (base : Nat) (v : Value) : Prop :=
  (tAgg P t = some none ∧ vs[base]? = some v) ∨ (∃ n A, tAgg P t = some (some n) ∧ v = .agg A ∧ ∀ j, j < n → A[j]? = vs[base + j]?)

theorem valAt_part {t : TypeId} {vs : List Value} {A : Array Value} {n base off k : Nat} (hA : ∀ j, j < n → A[j]? = vs[base + j]?) (hk : tWidth P t = some k) (hl : off + k ≤ n)
    (hv : base + n ≤ vs.length) : ∃ v, ValAt P t vs (base + off) v ∧ ∀ w, (part t A off).run P w = .ok v w := by
  unfold tWidth at hk
  split at hk
  · rename_i m hm
    cases hk
    refine ⟨.agg (A.extract off (off + k)), .inr ⟨k, _, hm, rfl, fun j hj => ?_⟩, fun w => by simp [part, (tAgg_some hm w).1, (tAgg_some hm w).2.1]⟩
    have h1 := hA (off + j) (by omega)
    rw [Nat.add_assoc, ← h1]
    have h2 : off + j < A.size := by
      have : (vs[base + (off + j)]?).isSome = true := by simp; omega
      rw [← h1] at this
      simpa using this
    rw [Array.getElem?_extract]
    split
    · rfl
    · omega
  · rename_i hm
    cases hk
    have h1 := hA off (by omega)
    have h2 : base + off < vs.length := by omega
    have h3 : vs[base + off]? = some vs[base + off] := List.getElem?_eq_getElem h2
    refine ⟨vs[base + off], .inl ⟨hm, h3⟩, fun w => ?_⟩
    rw [h3] at h1
    simp [part, tAgg_none hm w, h1]
  · cases hk

/-- A struct's fields, if each field's type is known to go well. -/
theorem eqFieldsRun {xs ys : List SV} {vs us : List Value} (d : Nat) (cells : TypeId → Nat → Option (List (Nat × EK)))
    (ih1 : ∀ t base l b D v u, cells t base = some l → eqOffs xs ys l = some b → ValAt P t vs base v → ValAt P t us base u →
      (∀ n, tAgg P t = some (some n) → base + n ≤ vs.length ∧ base + n ≤ us.length) → d ≤ D → ∀ w, (Op.equalIn D t v u).run P w = .ok b w)
    (n base : Nat) : ∀ (fs : List Field) (l : List (Nat × EK)) (b : Bool) (D : Nat) (A A' : Array Value), eqFields P cells n base fs = some l → eqOffs xs ys l = some b →
      (∀ j, j < n → A[j]? = vs[base + j]?) → (∀ j, j < n → A'[j]? = us[base + j]?) →
      base + n ≤ vs.length → base + n ≤ us.length → d ≤ D → ∀ w, (Op.eqFields D A A' fs).run P w = .ok b w := by
  intro fs
  induction fs with
  | nil =>
    intro l b D A A' h he _ _ _ _ _ w
    simp [eqFields] at h; subst h; simp [eqOffs] at he; subst he; simp [Op.eqFields]
  | cons f fs ihf =>
    intro l b D A A' h he hA hA' h1 h2 hD w
    simp only [eqFields] at h
    split at h
    · rename_i hn
      have hn' : f.name = "_" := by simpa using hn
      have := ihf l b D A A' h he hA hA' h1 h2 hD w
      simpa [Op.eqFields, hn'] using this
    · rename_i hn
      have hn' : f.name ≠ "_" := by simpa using hn
      split at h
      · rename_i k la lb hk hla hlb
        split at h
        · rename_i hle
          have hle' : f.offset + k ≤ n := by simpa using hle
          cases h
          obtain ⟨v1, hv1, hr1⟩ := valAt_part (P := P) hA hk hle' h1
          obtain ⟨u1, hu1, hs1⟩ := valAt_part (P := P) hA' hk hle' h2
          have hszf : ∀ m, tAgg P f.type = some (some m) → base + f.offset + m ≤ vs.length ∧ base + f.offset + m ≤ us.length := by
            intro m hm
            have : k = m := by
              unfold tWidth at hk; rw [hm] at hk; simpa using hk.symm
            omega
          rw [eqOffs_append] at he
          cases hq : eqOffs xs ys la with
          | none => rw [hq] at he; simp at he
          | some r =>
            have hrun := ih1 f.type (base + f.offset) la r D v1 u1 hla hq hv1 hu1 hszf hD w
            cases r with
            | true =>
              rw [hq] at he
              have := ihf lb b D A A' hlb (by simpa using he) hA hA' h1 h2 hD w
              simp [Op.eqFields, hn', hr1, hs1, hrun, this]
            | false =>
              rw [hq] at he
              simp at he
              subst he
              simp [Op.eqFields, hn', hr1, hs1, hrun]
        · cases h
      · cases h

theorem eqRun {xs ys : List SV} {vs us : List Value} (hx : SRs ρ xs vs) (hy : SRs ρ ys us) : ∀ (d : Nat),
    (∀ t base l b D v u, eqCells P d t base = some l → eqOffs xs ys l = some b → ValAt P t vs base v → ValAt P t us base u →
      (∀ n, tAgg P t = some (some n) → base + n ≤ vs.length ∧ base + n ≤ us.length) → d ≤ D → ∀ w, (Op.equalIn D t v u).run P w = .ok b w) := by
  intro d
  induction d with
  | zero => exact fun t base l b D v u h => by simp [eqCells] at h
  | succ d ih =>
    have one : ∀ t base k b D v u, eKind P t = some k → (P.underlying t = some .bool ∨ (∃ i, P.underlying t = some (.int i)) ∨ P.underlying t = some .string) → eqOffs xs ys [(base, k)] = some b → ValAt P t vs base v → ValAt P t us base u → d + 1 ≤ D →
        ∀ w, (Op.equalIn D t v u).run P w = .ok b w := by
      intro t base k b D v u hk hu he hv hu' hD w
      have hna : ∀ n, tAgg P t ≠ some (some n) := by
        intro n hn
        unfold tAgg at hn
        rcases hu with e | ⟨i, e⟩ | e <;> simp [e] at hn
      rcases hv with ⟨_, hv⟩ | ⟨n, A, hn, _⟩
      · rcases hu' with ⟨_, hu'⟩ | ⟨n, A, hn, _⟩
        · simp only [eqOffs] at he
          split at he
          · rename_i a c ha hc
            obtain ⟨v', e1, e2⟩ := hx.get ha
            obtain ⟨u', e3, e4⟩ := hy.get hc
            rw [hv] at e1; cases e1
            rw [hu'] at e3; cases e3
            have hb : eqS k a c = some b := by
              cases hq : eqS k a c with
              | none => rw [hq] at he; simp at he
              | some r => rw [hq] at he; cases r <;> simpa using he
            obtain ⟨D', rfl⟩ : ∃ D', D = D' + 1 := ⟨D - 1, by omega⟩
            exact eqS_run D' hb e2 e4 hk w
          · cases he
        · exact absurd hn (hna n)
      · exact absurd hn (hna n)
    intro t base l b D v u h he hv hu hsz hD w
    · simp only [eqCells] at h
      split at h
      · rename_i hu'; cases h
        exact one t base .bool b D v u (by simp [eKind, hu']) (.inl hu') he hv hu hD w
      · rename_i i hu'; cases h
        exact one t base .int b D v u (by simp [eKind, hu']) (.inr (.inl ⟨_, hu'⟩)) he hv hu hD w
      · rename_i hu'; cases h
        exact one t base .str b D v u (by simp [eKind, hu']) (.inr (.inr hu')) he hv hu hD w
      · rename_i fs hu'
        split at h
        · rename_i n hst hn
          rcases hv with ⟨hv, _⟩ | ⟨m, A, hm, rfl, hA⟩
          · rw [hn] at hv; cases hv
          rw [hn] at hm; cases hm
          rcases hu with ⟨hu, _⟩ | ⟨m, A', hm, rfl, hA'⟩
          · rw [hn] at hu; cases hu
          rw [hn] at hm; cases hm
          obtain ⟨D', rfl⟩ : ∃ D', D = D' + 1 := ⟨D - 1, by omega⟩
          have hf : P.fieldsOf t = fs := by simp [Program.fieldsOf, hu']
          rw [run_equalIn_struct w D' t A A' (by rw [hf]; exact hu') hst, hf]
          exact eqFieldsRun d (eqCells P d) ih n base fs.toList l b D' A A' h he hA hA' (hsz n hn).1 (hsz n hn).2 (by omega) w
        · cases h
      · cases h

end
end Go.Proofs.YtkolhfpofmpijaaDoor.Ab

/- The operations that look into no memory, one by one. -/
namespace Go.Proofs.YtkolhfpofmpijaaDoor.Ab
open Go
set_option linter.unusedSectionVars false
variable [LoopP]
set_option linter.unusedSimpArgs false
set_option linter.unusedVariables false

section
variable {P : Program} {ρ : Loc}

theorem asNat_run {x : AV} {u : Value} {n : Nat} (h : asNat x = some n) (hx : VR ρ x u) : ∃ k, u = .int k (n : Int) := by
  unfold asNat at h
  split at h
  · rename_i k i
    split at h
    · rename_i hi
      cases h
      cases hx with
      | one hx => cases hx; exact ⟨k, by congr 1; omega⟩
    · cases h
  · cases h

theorem asNat_int {k : IntKind} {i : Int} {n : Nat} (h : asNat (.one (.int k i)) = some n) : i = n := by
  unfold asNat at h
  simp only at h
  split at h
  · cases h; omega
  · cases h

/-- What a struct's or an array's '==' answers. -/
theorem evEqS_run {t : TypeId} {n : Nat} {offs : List (Nat × EK)} {x y : AV} {u v : Value} {b : Bool} (h : evEqS n offs x y = some b) (hx : VR ρ x u) (hy : VR ρ y v)
    (hc : eqCells P 12 t 0 = some offs) (hn : tAgg P t = some (some n)) (w : World) :
    (Op.equal t u v).run P w = .ok b w ∧ (∃ A, u = .agg A) := by
  unfold evEqS at h
  split at h
  · rename_i xs ys
    split at h
    · rename_i hl
      have hl' : xs.length = n ∧ ys.length = n := by simpa using hl
      cases hx with
      | agg hx =>
        rename_i vs
        cases hy with
        | agg hy =>
          rename_i us
          refine ⟨?_, _, rfl⟩
          have h1 := hx.length
          have h2 := hy.length
          refine eqRun (P := P) hx hy 12 t 0 offs b Op.maxDepth _ _ hc h (.inr ⟨n, _, hn, rfl, fun j hj => by simp⟩) (.inr ⟨n, _, hn, rfl, fun j hj => by simp⟩) ?_ (by decide) w
          intro m hm
          rw [hn] at hm; cases hm
          omega
    · cases h
  · cases h

theorem evEq_run {t : TypeId} {k : EK} {x y : AV} {u v : Value} {b : Bool} (h : evEq k x y = some b) (hx : VR ρ x u) (hy : VR ρ y v)
    (ht : eKind P t = some k) (w : World) : (Op.equal t u v).run P w = .ok b w ∧ u ≠ .nilIface ∧ (∀ c, u ≠ .agg c) ∧ (∃ s q, x = .one s ∧ y = .one q ∧ SR ρ s u ∧ SR ρ q v ∧ eqS k s q = some b) := by
  unfold evEq at h
  split at h
  · cases hx with
    | one hx =>
      cases hy with
      | one hy =>
        refine ⟨eqS_run 9999 h hx hy ht w, ?_, ?_, _, _, rfl, rfl, hx, hy, h⟩
        · intro e; subst e; cases hx; simp [eqS] at h
        · intro c e; subst e; cases hx
  · cases h

/-! ### '==' through binOp -/
theorem binOp_eql {t : TypeId} {k : EK} {x y : AV} {u v : Value} {b : Bool} (h : evEq k x y = some b) (hx : VR ρ x u) (hy : VR ρ y v) (ht : eKind P t = some k)
    (hk : k ≠ .int ∧ k ≠ .str) (w : World) : (binOp .eql t u v).run P w = .ok (.bool b) w ∧ (binOp .neq t u v).run P w = .ok (.bool (!b)) w := by
  obtain ⟨h1, _, _, s, q, rfl, rfl, hs, hq, he⟩ := evEq_run h hx hy ht w
  have e1 : binOp .eql t u v = (do pure (.bool (← Op.equal t u v))) := by
    rcases eqS_cases he with ⟨rfl, a, c, rfl, rfl, rfl⟩ | ⟨rfl, _⟩ | ⟨rfl, _⟩ | ⟨rfl, hh⟩ | ⟨rfl, hh⟩ | ⟨rfl, hh⟩
    · cases hs; cases hq; rfl
    · exact absurd rfl hk.1
    · exact absurd rfl hk.2
    all_goals (rcases hh with ⟨rfl, rfl, rfl⟩ | ⟨rfl, hy', rfl⟩ | ⟨hx', rfl, rfl⟩)
    all_goals (try obtain ⟨_, _, rfl⟩ | ⟨_, _, rfl⟩ := hy')
    all_goals (try obtain ⟨_, _, rfl⟩ | ⟨_, _, rfl⟩ := hx')
    all_goals (try obtain ⟨_, _, _, _, _, rfl⟩ | ⟨_, _, rfl⟩ := hy')
    all_goals (try obtain ⟨_, _, _, _, _, rfl⟩ | ⟨_, _, rfl⟩ := hx')
    all_goals (try obtain ⟨_, _, rfl⟩ := hy')
    all_goals (try obtain ⟨_, _, rfl⟩ := hx')
    all_goals (cases hs <;> cases hq <;> rfl)
  have e2 : binOp .neq t u v = (do pure (.bool (!(← Op.equal t u v)))) := by
    rcases eqS_cases he with ⟨rfl, a, c, rfl, rfl, rfl⟩ | ⟨rfl, _⟩ | ⟨rfl, _⟩ | ⟨rfl, hh⟩ | ⟨rfl, hh⟩ | ⟨rfl, hh⟩
    · cases hs; cases hq; rfl
    · exact absurd rfl hk.1
    · exact absurd rfl hk.2
    all_goals (rcases hh with ⟨rfl, rfl, rfl⟩ | ⟨rfl, hy', rfl⟩ | ⟨hx', rfl, rfl⟩)
    all_goals (try obtain ⟨_, _, rfl⟩ | ⟨_, _, rfl⟩ := hy')
    all_goals (try obtain ⟨_, _, rfl⟩ | ⟨_, _, rfl⟩ := hx')
    all_goals (try obtain ⟨_, _, _, _, _, rfl⟩ | ⟨_, _, rfl⟩ := hy')
    all_goals (try obtain ⟨_, _, _, _, _, rfl⟩ | ⟨_, _, rfl⟩ := hx')
    all_goals (try obtain ⟨_, _, rfl⟩ := hy')
    all_goals (try obtain ⟨_, _, rfl⟩ := hx')
    all_goals (cases hs <;> cases hq <;> rfl)
  rw [e1, e2]
  simp [h1]

theorem binOp_aggs {t : TypeId} {A B : Array Value} {b : Bool} {w : World} (h : (Op.equal t (.agg A) (.agg B)).run P w = .ok b w) :
    (binOp .eql t (.agg A) (.agg B)).run P w = .ok (.bool b) w ∧ (binOp .neq t (.agg A) (.agg B)).run P w = .ok (.bool (!b)) w := by
  have e1 : binOp .eql t (.agg A) (.agg B) = (do pure (.bool (← Op.equal t (.agg A) (.agg B)))) := rfl
  have e2 : binOp .neq t (.agg A) (.agg B) = (do pure (.bool (!(← Op.equal t (.agg A) (.agg B))))) := rfl
  rw [e1, e2]
  simp [h]

/-- All of binOp. -/
theorem compBin_run {op : BinOp} {t : TypeId} {x y : AOpd} {aop : AOp} {X Y : Operand} {fr : List AV} {σ σ' : AHeap} {u u' : Value} {v : AV}
    (hc : compBin P op t x y = some aop) (hx : VR ρ (ev fr x) u) (hy : VR ρ (ev fr y) u') (he : evOp fr σ aop = some (v, σ')) :
    aop.memless = true ∧ σ' = σ ∧ ∃ r, VR ρ v r ∧ ∀ w, (do eqGuard op t X Y u u'; binOp op t u u' : Sem Value).run P w = .ok r w := by
  have plain : aop = .bin op x y → aop.memless = true ∧ σ' = σ ∧ ∃ r, VR ρ v r ∧ ∀ w, (do eqGuard op t X Y u u'; binOp op t u u' : Sem Value).run P w = .ok r w := by
    intro e
    subst e
    simp only [evOp, pure1] at he
    split at he
    · rename_i s hs
      cases he
      obtain ⟨⟨r, h1, h2⟩, h3, h4⟩ := evBin_run (P := P) t hs hx hy
      exact ⟨rfl, rfl, r, .one h2, fun w => by simp [eqGuard_run h3 h4, h1]⟩
    · cases he
  have other : ∀ neg : Bool, (op = .eql ∧ neg = false ∨ op = .neq ∧ neg = true) → (match P.underlying t with
      | some (.int _) | some .string => some (AOp.bin op x y)
      | some (.struct _) => match P.eqGuardType P.depth t, eqCells P 12 t 0, tAgg P t with
        | false, some l, some (some n) => some (.eqvS neg n l x y)
        | _, _, _ => none
      | _ => match eKind P t with
        | some k => some (.eqv neg k x y)
        | none => none) = some aop → aop.memless = true ∧ σ' = σ ∧ ∃ r, VR ρ v r ∧ ∀ w, (do eqGuard op t X Y u u'; binOp op t u u' : Sem Value).run P w = .ok r w := by
    intro neg hneg hc
    split at hc
    · cases hc; exact plain rfl
    · cases hc; exact plain rfl
    · split at hc
      · rename_i l n hg hl hn
        cases hc
        simp only [evOp] at he
        split at he
        · rename_i b hb
          cases he
          refine ⟨rfl, rfl, .bool (if neg then !b else b), .one (.bool _), fun w => ?_⟩
          obtain ⟨h1, A, rfl⟩ := evEqS_run (P := P) hb hx hy hl hn w
          obtain ⟨B, rfl⟩ : ∃ B, u' = .agg B := by
            unfold evEqS at hb
            split at hb
            · rename_i h2; rw [h2] at hy; cases hy with | agg hy => exact ⟨_, rfl⟩
            · cases hb
          have h2 := binOp_aggs h1
          have h3 := run_eqGuard_agg (P := P) (w := w) op t X Y A B hg
          rcases hneg with ⟨rfl, rfl⟩ | ⟨rfl, rfl⟩
          · simp [h3, h2.1]
          · simp [h3, h2.2]
        · cases he
      · cases hc
    · rename_i hni hns hnst
      split at hc
      · rename_i k hk
        cases hc
        simp only [evOp] at he
        split at he
        · rename_i b hb
          cases he
          have hkk : k ≠ .int ∧ k ≠ .str := by
            obtain ⟨td, h1, h2⟩ := eKind_run hk
            constructor
            · intro e; subst e; obtain ⟨i, rfl⟩ := h2; exact hni _ h1
            · intro e; subst e; cases h2; exact hns h1
          refine ⟨rfl, rfl, .bool (if neg then !b else b), .one (.bool _), fun w => ?_⟩
          obtain ⟨_, h2, h3, _⟩ := evEq_run (P := P) hb hx hy hk w
          have h4 := binOp_eql (P := P) hb hx hy hk hkk w
          rcases hneg with ⟨rfl, rfl⟩ | ⟨rfl, rfl⟩
          · simp [eqGuard_run h2 h3, h4.1]
          · simp [eqGuard_run h2 h3, h4.2]
        · cases he
      · cases hc
  unfold compBin at hc
  cases op
  case eql => exact other false (.inl ⟨rfl, rfl⟩) hc
  case neq => exact other true (.inr ⟨rfl, rfl⟩) hc
  all_goals (cases hc; exact plain rfl)

end
end Go.Proofs.YtkolhfpofmpijaaDoor.Ab

/- Every operation that looks into no memory: what it answers in whatever world. -/
namespace Go.Proofs.YtkolhfpofmpijaaDoor.Ab
open Go
set_option linter.unusedSectionVars false
variable [LoopP]
set_option linter.unusedSimpArgs false
set_option linter.unusedVariables false

section
variable {P : Program} {ρ : Loc}

theorem evFns_rel {l : List Operand} {r : List AOpd} {fr : List AV} {a : Act} {cs : List SV} (h : compOpds l = some r) (hf : FR ρ fr a.tmps) (he : evFns fr r = some cs) :
    SRs ρ cs (l.map a.eval) := by
  induction l generalizing r cs with
  | nil => cases h; cases he; exact .nil
  | cons x l ih =>
    simp only [compOpds] at h
    split at h
    · rename_i y r' h1 h2
      cases h
      simp only [evFns] at he
      split at he
      · rename_i s r2 h3 h4
        cases he
        have := opd_rel h1 hf
        rw [h3] at this
        cases this with
        | one h => exact .cons h (ih h2 h4)
      · cases he
    · cases h

theorem optNat_run {x : Option Operand} {y : Option AOpd} {fr : List AV} {a : Act} {d n : Nat} (h : compOpt x = some y) (hf : FR ρ fr a.tmps) (he : optNat fr y d = some n) :
    (x = none ∧ n = d) ∨ ∃ z k, x = some z ∧ a.eval z = .int k (n : Int) := by
  cases x with
  | none => cases h; cases he; exact .inl ⟨rfl, rfl⟩
  | some z =>
    simp only [compOpt] at h
    split at h
    · rename_i b hb
      cases h
      simp only [optNat] at he
      obtain ⟨k, hk⟩ := asNat_run he (opd_rel hb hf)
      exact .inr ⟨z, k, rfl, hk⟩
    · cases h

theorem bound_run (k : IntKind) (n y : Nat) (code : BoundsCode) (h : n ≤ y) (w : World) : (Instr.sliceBound (.int k (n : Int)) y code).run P w = .ok n w := by
  have : (0 : Int) ≤ n ∧ (n : Int) ≤ y := by omega
  simp [Instr.sliceBound, asIntOf, this]

/-- The bounds of a slicing without a third. -/
theorem bounds_run {lo hi : Option Operand} {lo' hi' : Option AOpd} {fr : List AV} {a : Act} {l h len cap : Nat} (isSlice : Bool)
    (h1 : compOpt lo = some lo') (h2 : compOpt hi = some hi') (hf : FR ρ fr a.tmps) (e1 : optNat fr lo' 0 = some l) (e2 : optNat fr hi' len = some h)
    (hl : l ≤ h) (hh : h ≤ cap) (w : World) : (Instr.sliceBounds isSlice len cap (lo.map a.eval) (hi.map a.eval) none).run P w = .ok (l, h, cap) w := by
  rcases optNat_run h1 hf e1 with ⟨rfl, rfl⟩ | ⟨z, k, rfl, hz⟩ <;> rcases optNat_run h2 hf e2 with ⟨rfl, rfl⟩ | ⟨z', k', rfl, hz'⟩ <;>
    simp [Instr.sliceBounds, *, bound_run]

/-- The bounds of a slicing with a third. -/
theorem bounds3_run {lo hi mx : Option Operand} {lo' hi' : Option AOpd} {mx' : AOpd} {fr : List AV} {a : Act} {l h m len cap : Nat}
    (h1 : compOpt lo = some lo') (h2 : compOpt hi = some hi') (h3 : compOpt mx = some (some mx')) (hf : FR ρ fr a.tmps) (e1 : optNat fr lo' 0 = some l) (e2 : optNat fr hi' len = some h)
    (e3 : asNat (ev fr mx') = some m) (hi1 : hi' ≠ none) (hl : l ≤ h) (hh : h ≤ m) (hm : m ≤ cap) (w : World) :
    (Instr.sliceBounds true len cap (lo.map a.eval) (hi.map a.eval) (mx.map a.eval)).run P w = .ok (l, h, m) w := by
  have e3' : optNat fr (some mx') 0 = some m := e3
  rcases optNat_run h3 hf e3' with ⟨rfl, rfl⟩ | ⟨y, k2, rfl, hy⟩
  · cases h3
  rcases optNat_run h2 hf e2 with ⟨rfl, rfl⟩ | ⟨z', k', rfl, hz'⟩
  · cases h2; exact absurd rfl hi1
  rcases optNat_run h1 hf e1 with ⟨rfl, rfl⟩ | ⟨z, k, rfl, hz⟩ <;>
    simp [Instr.sliceBounds, *, bound_run]

theorem mms_run {isMax : Bool} {k : IntKind} : ∀ (l : List AV) (vs : List Value) (x : Int) (s : SV), VRs ρ l vs → mms isMax k x l = some s →
    ∃ r, SR ρ s r ∧ ∀ w, (vs.foldlM (if isMax then Builtin.max2 else Builtin.min2) (.int k x) : Sem Value).run P w = .ok r w
  | [], vs, x, s, hv, h => by
    cases hv
    cases h
    exact ⟨_, .int _ _, fun w => by simp⟩
  | y :: l, vs, x, s, hv, h => by
    cases hv with
    | cons hy ht =>
      unfold mms at h
      split at h
      · rename_i e; cases e
      · rename_i k2 z l' e
        cases e
        cases hy with
        | one hy =>
          cases hy
          obtain ⟨r, h1, h2⟩ := mms_run l _ (mm isMax x z) s ht h
          refine ⟨r, h1, fun w => ?_⟩
          have := h2 w
          cases isMax <;> simp_all [mm, Builtin.max2, Builtin.min2]
      · cases h

theorem idx_bytes (s : List UInt8) (i : Nat) (b : UInt8) (h : s[i]? = some b) : (⟨s.toArray⟩ : ByteArray)[i]? = some b := by
  obtain ⟨h1, h2⟩ := List.getElem?_eq_some_iff.1 h
  have h3 : i < (⟨s.toArray⟩ : ByteArray).size := by simpa [ByteArray.size] using h1
  rw [getElem?_pos _ i h3]
  congr 1

theorem compOpt_none {mx : Option Operand} (h : compOpt mx = some none) : mx = none := by
  cases mx with
  | none => rfl
  | some z => simp only [compOpt] at h; split at h <;> cases h

theorem slstr_run (o : Oper) {t : TypeId} {x : Operand} {lo hi : Option Operand} {x' : AOpd} {lo' hi' : Option AOpd} {fr : List AV} {a : Act} {σ σ' : AHeap} {v : AV}
    (ho : o.op = .slice t x lo hi none) (hu : P.underlying t = some .string) (hx : compOpd x = some x') (hlo : compOpt lo = some lo') (hhi : compOpt hi = some hi')
    (hf : FR ρ fr a.tmps) (he : evOp fr σ (.slstr x' lo' hi') = some (v, σ')) :
    σ' = σ ∧ ∃ u, VR ρ v u ∧ ∀ w, (execOp a.eval o).run P w = .ok (.value u) w := by
  have k1 := opd_rel hx hf
  simp only [evOp] at he
  split at he
  · rename_i s e
    rw [e] at k1
    cases k1 with
    | one k1 =>
      generalize hu' : a.eval x = u at k1
      cases k1
      split at he
      · rename_i l h e1 e2
        split at he
        · rename_i hb
          cases he
          have hb' : l ≤ h ∧ h ≤ s.length := by simpa using hb
          have hsz : (ByteArray.mk s.toArray).size = s.length := by simp [ByteArray.size]
          refine ⟨rfl, .string ⟨((s.drop l).take (h - l)).toArray⟩, .one (.str _), fun w => ?_⟩
          have hb2 := bounds_run (P := P) (ρ := ρ) false hlo hhi hf e1 e2 hb'.1 hb'.2 w
          have hex : (ByteArray.mk s.toArray).extract l h = ⟨((s.drop l).take (h - l)).toArray⟩ := by
            apply ByteArray.ext
            apply Array.ext'
            simp [List.take_drop]
          simp [execOp, ho, Instr.sliceAt, Instr.slice, run_underlying hu, hu', hsz, hb2, hex]
        · cases he
      · cases he
  · cases he

theorem atCut_run (m l off esz : Nat) (b base : Nat) : (if m = l then (⟨b, base + off, none⟩ : Addr) else (⟨b, base + off, none⟩ : Addr).add (l * esz)) = ⟨b, base + atCut m l off esz, none⟩ := by
  unfold atCut
  by_cases h : m = l
  · subst h; simp
  · have : Nat.beq m l = false := by
      cases hb : Nat.beq m l with
      | false => rfl
      | true => exact absurd (Nat.eq_of_beq_eq_true hb) h
    rw [if_neg h, this, addr_add]
    simp [Nat.add_assoc]

/-- A slice cut at l, of capacity m (known). -/
theorem SR.cutKnown {id off esz l h m : Nat} {B : Blk} (hB : ρ id = some B) (hlh : l ≤ h) (hhm : h ≤ m) (hcl : off + h * esz ≤ B.clen) (hn : B.base + off + m * esz ≤ B.n) (hz : 0 < esz) :
    SR ρ (.slice id (atCut m l off esz) esz (h - l) (some (m - l))) (.slice (some ⟨B.b, B.base + atCut m l off esz, none⟩) (h - l) (m - l)) := by
  have h1 : l * esz ≤ h * esz := Nat.mul_le_mul_right _ hlh
  have h2 : h * esz ≤ m * esz := Nat.mul_le_mul_right _ hhm
  have h3 : (h - l) * esz = h * esz - l * esz := Nat.sub_mul h l esz
  have h4 : (m - l) * esz = m * esz - l * esz := Nat.sub_mul m l esz
  refine .slice hB (by omega) ?_ ?_ hz (.inl rfl)
  · unfold atCut
    split
    · rename_i e
      have : m = l := by simpa using e
      omega
    · omega
  · unfold atCut
    split
    · omega
    · omega

/-- A part of a row that nobody writes. -/
theorem SR.lstPart {elems : List (List SV)} {vss : List (List Value)} {E b o c l h : Nat} (hr : SRss ρ elems vss) (h0 : 0 < E) (hE : ∀ e ∈ elems, e.length = E)
    (hf : ∀ j v, vss.flatten[j]? = some v → ρ.fz b (o + j) = some v) (hlh : l ≤ h) (hh : h ≤ elems.length) (hc : h - l ≤ c) :
    SR ρ (.lst ((elems.drop l).take (h - l))) (.slice (some ⟨b, o + l * E, none⟩) (h - l) c) := by
  have hlen : ((elems.drop l).take (h - l)).length = h - l := by simp; omega
  have := SR.lst (ρ := ρ) (b := b) (o := o + l * E) (c := c) ((hr.drop l).take (h - l)) h0 (fun e he => hE e (List.mem_of_mem_drop (List.mem_of_mem_take he))) (by rw [hlen]; exact hc)
    (fun j v hj => by rw [Nat.add_assoc]; exact hf _ v (flattenE_part (hr.lens hE) hj))
  rwa [hlen] at this

/-- The same, of no more capacity than length. -/
theorem SR.lstxPart {elems : List (List SV)} {vss : List (List Value)} {E b o l h : Nat} (hr : SRss ρ elems vss) (h0 : 0 < E) (hE : ∀ e ∈ elems, e.length = E)
    (hf : ∀ j v, vss.flatten[j]? = some v → ρ.fz b (o + j) = some v) (hlh : l ≤ h) (hh : h ≤ elems.length) :
    SR ρ (.lstx ((elems.drop l).take (h - l))) (.slice (some ⟨b, o + l * E, none⟩) (h - l) (h - l)) := by
  have hlen : ((elems.drop l).take (h - l)).length = h - l := by simp; omega
  have := SR.lstx (ρ := ρ) (b := b) (o := o + l * E) ((hr.drop l).take (h - l)) h0 (fun e he => hE e (List.mem_of_mem_drop (List.mem_of_mem_take he)))
    (fun j v hj => by rw [Nat.add_assoc]; exact hf _ v (flattenE_part (hr.lens hE) hj))
  rwa [hlen] at this

theorem lstW_spec {E esz : Nat} {elems : List (List SV)} (hE : ∀ e ∈ elems, e.length = E) (h : lstW esz elems = true) : elems = [] ∨ E = esz := by
  cases elems with
  | nil => exact .inl rfl
  | cons e l => exact .inr (by rw [← hE e (by simp)]; exact Nat.eq_of_beq_eq_true h)

theorem lst_slice_run (o : Oper) {n : Nat} {x : Operand} {lo hi mx : Option Operand} {x' : AOpd} {lo' hi' mx' : Option AOpd} {fr : List AV} {a : Act} {σ σ' : AHeap} {v : AV} {elems : List (List SV)}
    (hlo : compOpt lo = some lo') (hhi : compOpt hi = some hi') (hmx : compOpt mx = some mx')
    (hnone : (hi'.isNone && mx'.isSome) = false) (hf : FR ρ fr a.tmps) (k1 : SR ρ (.lst elems) (a.eval x))
    (model : ∀ (A : Option Addr) (len c l h m : Nat) (w : World), a.eval x = .slice A len c → (Instr.sliceBounds true len c (lo.map a.eval) (hi.map a.eval) (mx.map a.eval)).run P w = .ok (l, h, m) w →
      (execOp a.eval o).run P w = .ok (.value (.slice (if m = l then A else A.map (·.add (l * (n + 1)))) (h - l) (m - l))) w)
    (e0 : ev fr x' = .one (.lst elems)) (he : evOp fr σ (.slice (n + 1) x' lo' hi' mx') = some (v, σ')) :
    σ' = σ ∧ ∃ u, VR ρ v u ∧ ∀ w, (execOp a.eval o).run P w = .ok (.value u) w := by
  simp only [evOp, e0] at he
  split at he
  · rename_i l h e1 e2
    split at he
    · rename_i hb
      have hb' : (l ≤ h ∧ h ≤ elems.length) ∧ lstW (n + 1) elems = true := by simpa using hb
      obtain ⟨⟨hlh, hhl⟩, hW⟩ := hb'
      generalize hu' : a.eval x = u at k1
      -- what is known of the value: an address, if any, its length, its capacity
      have val : ∃ A c, u = .slice A elems.length c ∧ elems.length ≤ c ∧ (∀ m, h ≤ m → m ≤ c → SR ρ (.lst ((elems.drop l).take (h - l))) (.slice (if m = l then A else A.map (·.add (l * (n + 1)))) (h - l) (m - l))) ∧
          (∀ m, m = l → h = l → SR ρ .emp (.slice (if m = l then A else A.map (·.add (l * (n + 1)))) (h - l) (m - l))) ∧
          (¬ h = l → SR ρ (.lstx ((elems.drop l).take (h - l))) (.slice (if h = l then A else A.map (·.add (l * (n + 1)))) (h - l) (h - l))) := by
        cases k1 with
        | lst hr h0 hE hc hfz =>
          rename_i vss E b o' c
          refine ⟨_, c, rfl, hc, fun m hm hmc => ?_, fun m hm hh => ?_, fun hne => ?_⟩
          · by_cases hml : m = l
            · rw [if_pos hml]
              obtain rfl : h = l := by omega
              rw [Nat.sub_self, hml]
              simp
              exact .lst0
            · rw [if_neg hml]
              simp only [Option.map_some, addr_add]
              rcases lstW_spec hE hW with rfl | rfl
              · have : h = 0 := by simpa using hhl
                subst this
                simp
                exact .lst0
              · exact SR.lstPart hr h0 hE hfz hlh hhl (by omega)
          · subst hm; subst hh
            simp
            exact .emp0
          · rw [if_neg hne]
            simp only [Option.map_some, addr_add]
            rcases lstW_spec hE hW with rfl | rfl
            · have : h = 0 := by simpa using hhl
              omega
            · exact SR.lstxPart hr h0 hE hfz hlh hhl
        | lst0 =>
          rename_i x0 c
          have hh0 : h = 0 := by simpa using hhl
          obtain rfl : l = 0 := by omega
          subst hh0
          refine ⟨_, c, rfl, Nat.zero_le _, fun m hm hmc => ?_, fun m hm hh => ?_, fun hne => absurd rfl hne⟩
          · simp only [Nat.zero_mul, Addr.add, if_true, Nat.sub_self, List.drop_nil, List.take_nil]
            split <;> exact .lst0
          · subst hm
            simp
            exact .emp0
        | lstNil =>
          have hh0 : h = 0 := by simpa using hhl
          obtain rfl : l = 0 := by omega
          subst hh0
          refine ⟨_, 0, rfl, Nat.le_refl _, fun m hm hmc => ?_, fun m hm hh => ?_, fun hne => absurd rfl hne⟩
          · obtain rfl : m = 0 := by omega
            simp
            exact .lstNil
          · subst hm
            simp
            exact .empNil
      obtain ⟨A, c, rfl, hc, val1, val2, val3⟩ := val
      split at he
      · have hmxn := compOpt_none hmx
        subst hmxn
        cases he
        have hb2 := fun w => bounds_run (P := P) (ρ := ρ) true hlo hhi hf e1 e2 hlh (Nat.le_trans hhl hc) w
        exact ⟨rfl, _, .one (val1 c (by omega) (Nat.le_refl _)), fun w => model A _ c l h c w hu' (hb2 w)⟩
      · rename_i m' hmxe
        have hne : hi' ≠ none := by intro e; subst e; simp at hnone
        split at he
        · rename_i m hm
          split at he
          · rename_i hc3
            have hc3' : h ≤ m ∧ m ≤ elems.length := by simpa using hc3
            have hb2 := fun w => bounds3_run (P := P) (ρ := ρ) hlo hhi hmx hf e1 e2 hm hne hlh hc3'.1 (Nat.le_trans hc3'.2 hc) w
            split at he
            · rename_i hml
              have hml' : m = l := Nat.eq_of_beq_eq_true hml
              cases he
              exact ⟨rfl, _, .one (val2 m hml' (by omega)), fun w => model A _ c l h m w hu' (hb2 w)⟩
            · rename_i hml
              have hml' : ¬ m = l := fun e => by rw [e, Nat.beq_refl] at hml; cases hml
              split at he
              · rename_i hmh
                obtain rfl : m = h := Nat.eq_of_beq_eq_true hmh
                cases he
                exact ⟨rfl, _, .one (val3 hml'), fun w => model A _ c l m m w hu' (hb2 w)⟩
              · cases he
                exact ⟨rfl, _, .one (val1 m hc3'.1 (Nat.le_trans hc3'.2 hc)), fun w => model A _ c l h m w hu' (hb2 w)⟩
          · cases he
        · cases he
    · cases he
  · cases he

theorem slice_run (o : Oper) {t e0 : TypeId} {n : Nat} {x : Operand} {lo hi mx : Option Operand} {x' : AOpd} {lo' hi' mx' : Option AOpd} {fr : List AV} {a : Act} {σ σ' : AHeap} {v : AV}
    (ho : o.op = .slice t x lo hi mx) (hu : P.underlying t = some (.slice e0)) (hx : compOpd x = some x') (hlo : compOpt lo = some lo') (hhi : compOpt hi = some hi') (hmx : compOpt mx = some mx')
    (hnone : (hi'.isNone && mx'.isSome) = false) (hsz : tSize P e0 = some (n + 1)) (hf : FR ρ fr a.tmps) (hl : LenRel ρ σ.get) (he : evOp fr σ (.slice (n + 1) x' lo' hi' mx') = some (v, σ')) :
    σ' = σ ∧ ∃ u, VR ρ v u ∧ ∀ w, (execOp a.eval o).run P w = .ok (.value u) w := by
  have k1 := opd_rel hx hf
  simp only [evOp] at he
  have hs : ∀ w, (sizeOf e0).run P w = .ok (n + 1) w := tSize_run hsz
  have hmul : ∀ p q : Nat, p * (n + 1) ≤ q * (n + 1) → p ≤ q := fun p q hpq => Nat.le_of_mul_le_mul_right hpq (by omega)
  have hmono : ∀ p q : Nat, p ≤ q → p * (n + 1) ≤ q * (n + 1) := fun p q hpq => Nat.mul_le_mul_right _ hpq
  have hsub : ∀ p q : Nat, (p - q) * (n + 1) = p * (n + 1) - q * (n + 1) := fun p q => Nat.sub_mul p q (n + 1)
  -- the model's answer, once the bounds are known
  have model : ∀ (A : Option Addr) (len c l h m : Nat) (w : World), a.eval x = .slice A len c → (Instr.sliceBounds true len c (lo.map a.eval) (hi.map a.eval) (mx.map a.eval)).run P w = .ok (l, h, m) w →
      (execOp a.eval o).run P w = .ok (.value (.slice (if m = l then A else A.map (·.add (l * (n + 1)))) (h - l) (m - l))) w := by
    intro A len c l h m w e1 e2
    simp [execOp, ho, Instr.sliceAt, Instr.slice, run_underlying hu, e1, e2, hs]
  split at he
  · rename_i e
    rw [e] at k1
    cases k1 with
    | one k1 =>
      generalize hu' : a.eval x = u at k1
      cases k1
      split at he
      · rename_i e1 e2 e3
        cases he
        refine ⟨rfl, .slice none 0 0, .one .nilSlice, fun w => ?_⟩
        have hb2 : (Instr.sliceBounds true 0 0 (lo.map a.eval) (hi.map a.eval) (mx.map a.eval)).run P w = .ok (0, 0, 0) w := by
          cases mx' with
          | none =>
            have hmxn := compOpt_none hmx
            subst hmxn
            exact bounds_run (P := P) (ρ := ρ) true hlo hhi hf e1 e2 (by omega) (by omega) w
          | some m' =>
            have hne : hi' ≠ none := by intro e; subst e; simp at hnone
            exact bounds3_run (P := P) (ρ := ρ) hlo hhi hmx hf e1 e2 e3 hne (by omega) (by omega) (by omega) w
        simpa using model none 0 0 0 0 0 w hu' hb2
      · cases he
  · rename_i id off ez len cap e
    rw [e] at k1
    cases k1 with
    | one k1 =>
      generalize hu' : a.eval x = u at k1
      split at he
      · rename_i ob hez hob
        have hez' : ez = n + 1 := by simpa using hez
        subst hez'
        split at he
        · rename_i l h e1 e2
          split at he
          · rename_i hbb
            have hbb' : l ≤ h ∧ off + h * (n + 1) ≤ ob.cells.length := by simpa using hbb
            have hlh := hmono l h hbb'.1
            cases k1 with
            | slice hB h1 h2 h3 h4 h5 =>
              rename_i c B
              have hcl : ob.cells.length = B.clen := (hl id B ob hB hob).1
              split at he
              · rename_i hmxe
                have hmxn := compOpt_none hmx
                subst hmxn
                split at he
                · rename_i c'
                  split at he
                  · rename_i hhc
                    cases he
                    have hhc' : h ≤ c' := by simpa using hhc
                    have hcc : c' = c := by
                      rcases h5 with h5 | ⟨h5, _⟩
                      · cases h5; rfl
                      · cases h5
                    subst hcc
                    refine ⟨rfl, _, .one (SR.cutKnown hB hbb'.1 hhc' (by omega) (by omega) h4), fun w => ?_⟩
                    have hb2 := bounds_run (P := P) (ρ := ρ) true hlo hhi hf e1 e2 hbb'.1 hhc' w
                    rw [model _ len c' l h c' w hu' hb2]
                    congr 3
                    rw [← atCut_run]
                    split <;> rfl
                  · cases he
                · cases he
                  obtain ⟨_, h6⟩ : (none : Option Nat) = none ∧ B.clen ≤ off + c * (n + 1) := by
                    rcases h5 with h5 | h5
                    · cases h5
                    · exact h5
                  have hhc : h ≤ c := hmul h c (by omega)
                  have hhc2 := hmono h c hhc
                  have hb2 := fun w => bounds_run (P := P) (ρ := ρ) true hlo hhi hf e1 e2 hbb'.1 hhc w
                  by_cases hcl2 : c = l
                  · subst hcl2
                    have : h = c := by omega
                    subst this
                    refine ⟨rfl, .slice (some ⟨B.b, B.base + off, none⟩) 0 0, .one ?_, fun w => ?_⟩
                    · rw [Nat.sub_self]; exact .slice0 hB (by omega) h4 (.inl rfl)
                    · rw [model _ len h h h h w hu' (hb2 w)]
                      simp
                  · refine ⟨rfl, .slice (some ⟨B.b, B.base + (off + l * (n + 1)), none⟩) (h - l) (c - l), .one (.slice hB (by omega) ?_ ?_ h4 (.inr ⟨rfl, ?_⟩)), fun w => ?_⟩
                    · rw [hsub]; omega
                    · rw [hsub]; omega
                    · rw [hsub]; omega
                    · rw [model _ len c l h c w hu' (hb2 w), if_neg hcl2]
                      simp [addr_add, Nat.add_assoc]
              · rename_i m' hmxe
                have hne : hi' ≠ none := by intro e; subst e; simp at hnone
                split at he
                · rename_i m hm
                  split at he
                  · rename_i hc3
                    cases he
                    have hc3' : h ≤ m ∧ m ≤ c := by
                      simp only [Bool.and_eq_true] at hc3
                      refine ⟨by simpa using hc3.1, ?_⟩
                      rcases h5 with rfl | ⟨rfl, h6⟩
                      · simpa using hc3.2
                      · have : off + m * (n + 1) ≤ ob.cells.length := by simpa using hc3.2
                        exact hmul m c (by omega)
                    have hmc := hmono m c hc3'.2
                    refine ⟨rfl, _, .one (SR.cutKnown hB hbb'.1 hc3'.1 (by omega) (by omega) h4), fun w => ?_⟩
                    have hb2 := bounds3_run (P := P) (ρ := ρ) hlo hhi hmx hf e1 e2 hm hne hbb'.1 hc3'.1 hc3'.2 w
                    rw [model _ len c l h m w hu' hb2]
                    congr 3
                    rw [← atCut_run]
                    split <;> rfl
                  · cases he
                · cases he
            | slice0 hB h2 h4 h5 =>
              rename_i x0 B
              have hcl : ob.cells.length = B.clen := (hl id B ob hB hob).1
              have hh0 : h * (n + 1) = 0 := by omega
              have hh : h = 0 := Nat.le_zero.1 (hmul h 0 (by omega))
              subst hh
              have hl0 : l = 0 := by omega
              subst hl0
              split at he
              · rename_i hmxe
                have hmxn := compOpt_none hmx
                subst hmxn
                have hb2 := fun w => bounds_run (P := P) (ρ := ρ) true (cap := 0) hlo hhi hf e1 e2 (by omega) (by omega) w
                have hfin : σ' = σ ∧ v = .one (.slice id off (n + 1) 0 cap) := by
                  rcases h5 with rfl | rfl
                  · simp at he
                    exact ⟨he.2.symm, he.1.symm⟩
                  · simp [atCut] at he
                    exact ⟨he.2.symm, he.1.symm⟩
                obtain ⟨rfl, rfl⟩ := hfin
                refine ⟨rfl, .slice (some x0) 0 0, .one (.slice0 hB h2 h4 h5), fun w => ?_⟩
                rw [model _ 0 0 0 0 0 w hu' (hb2 w)]
                simp
              · rename_i m' hmxe
                have hne : hi' ≠ none := by intro e; subst e; simp at hnone
                split at he
                · rename_i m hm
                  split at he
                  · rename_i hc3
                    cases he
                    have hm0 : m = 0 := by
                      rcases h5 with rfl | rfl
                      · simp only [Bool.and_eq_true] at hc3
                        have h7 : off + m * (n + 1) ≤ ob.cells.length := by simpa using hc3.2
                        exact Nat.le_zero.1 (hmul m 0 (by omega))
                      · simpa using hc3
                    subst hm0
                    have hb2 := fun w => bounds3_run (P := P) (ρ := ρ) (cap := 0) hlo hhi hmx hf e1 e2 hm hne (by omega) (by omega) (by omega) w
                    refine ⟨rfl, .slice (some x0) 0 0, .one ?_, fun w => ?_⟩
                    · exact .slice0 hB h2 h4 (.inr rfl)
                    · rw [model _ 0 0 0 0 0 w hu' (hb2 w)]
                      simp
                  · cases he
                · cases he
          · cases he
        · cases he
      · cases he
  · rename_i elems e
    rw [e] at k1
    cases k1 with
    | one k1 => exact lst_slice_run o hlo hhi hmx hnone hf k1 model e (by simpa only [evOp, e] using he)
  · rename_i e
    rw [e] at k1
    cases k1 with
    | one k1 =>
      generalize hu' : a.eval x = u at k1
      split at he
      · rename_i e1 e2 e3
        cases he
        have hb2 : ∀ w, (Instr.sliceBounds true 0 0 (lo.map a.eval) (hi.map a.eval) (mx.map a.eval)).run P w = .ok (0, 0, 0) w := by
          intro w
          cases mx' with
          | none =>
            have hmxn := compOpt_none hmx
            subst hmxn
            exact bounds_run (P := P) (ρ := ρ) true hlo hhi hf e1 e2 (by omega) (by omega) w
          | some m' =>
            have hne : hi' ≠ none := by intro e; subst e; simp at hnone
            exact bounds3_run (P := P) (ρ := ρ) hlo hhi hmx hf e1 e2 e3 hne (by omega) (by omega) (by omega) w
        cases k1 with
        | emp0 => exact ⟨rfl, _, .one .emp0, fun w => by simpa using model _ 0 0 0 0 0 w hu' (hb2 w)⟩
        | empNil => exact ⟨rfl, _, .one .empNil, fun w => by simpa using model none 0 0 0 0 0 w hu' (hb2 w)⟩
      · cases he
  · cases he

theorem slarr_run (o : Oper) {t e0 : TypeId} {k n : Nat} {x : Operand} {lo hi : Option Operand} {x' : AOpd} {lo' hi' : Option AOpd} {fr : List AV} {a : Act} {σ σ' : AHeap} {v : AV}
    (ho : o.op = .slice t x lo hi none) (hu : P.underlying t = some (.array k e0) ∨ ∃ arr, P.underlying t = some (.pointer arr) ∧ P.underlying arr = some (.array k e0)) (hx : compOpd x = some x') (hlo : compOpt lo = some lo') (hhi : compOpt hi = some hi')
    (hsz : tSize P e0 = some (n + 1)) (hf : FR ρ fr a.tmps) (hl : LenRel ρ σ.get) (he : evOp fr σ (.slarr k (n + 1) x' lo' hi') = some (v, σ')) :
    σ' = σ ∧ ∃ u, VR ρ v u ∧ ∀ w, (execOp a.eval o).run P w = .ok (.value u) w := by
  have k1 := opd_rel hx hf
  simp only [evOp] at he
  have hs : ∀ w, (sizeOf e0).run P w = .ok (n + 1) w := tSize_run hsz
  split at he
  · rename_i id off e
    rw [e] at k1
    cases k1 with
    | one k1 =>
      generalize hu' : a.eval x = u at k1
      cases k1 with
      | ptr hB =>
        rename_i B
        split at he
        · rename_i l h ob e1 e2 hob
          split at he
          · rename_i hbb
            cases he
            have hbb' : (l ≤ h ∧ h ≤ k) ∧ off + k * (n + 1) ≤ ob.cells.length := by simpa using hbb
            have hcl : ob.cells.length = B.clen := (hl id B ob hB hob).1
            have hbn := (hl id B ob hB hob).2
            have hkk : h * (n + 1) ≤ k * (n + 1) := Nat.mul_le_mul_right _ hbb'.1.2
            refine ⟨rfl, _, .one (SR.cutKnown hB hbb'.1.1 hbb'.1.2 (by omega) (by omega) (by omega)), fun w => ?_⟩
            have hb2 := bounds_run (P := P) (ρ := ρ) false hlo hhi hf e1 e2 hbb'.1.1 hbb'.1.2 w
            rcases hu with hu | ⟨arr, hu, hu2⟩
            · simp only [execOp, ho, Instr.sliceAt, Sem.run_bind, run_underlying hu, Result.andThen_ok, hu', Instr.sureAddr, Sem.run_pure, Option.map_none, hb2, hs, atCut_run]
            · simp only [execOp, ho, Instr.sliceAt, Instr.slice, Sem.run_bind, run_underlying hu, run_underlying hu2, Result.andThen_ok, hu', asAddr, Sem.run_pure, Option.map_none, hb2, hs, atCut_run]
          · cases he
        · cases he
  · cases he

theorem compOpds_one {l : List Operand} {y : AOpd} (h : compOpds l = some [y]) : ∃ x, l = [x] ∧ compOpd x = some y := by
  cases l with
  | nil => cases h
  | cons x l =>
    simp only [compOpds] at h
    split at h
    · rename_i a r h1 h2
      cases h
      cases l with
      | nil => exact ⟨x, rfl, h1⟩
      | cons z l => simp only [compOpds] at h2; split at h2 <;> cases h2
    · cases h

theorem compOpds_two {l : List Operand} {y z : AOpd} (h : compOpds l = some [y, z]) : ∃ x x', l = [x, x'] ∧ compOpd x = some y ∧ compOpd x' = some z := by
  cases l with
  | nil => cases h
  | cons x l =>
    simp only [compOpds] at h
    split at h
    · rename_i a r h1 h2
      cases h
      obtain ⟨x', rfl, h3⟩ := compOpds_one h2
      exact ⟨x, x', rfl, h1, h3⟩
    · cases h

theorem compOpds_cons {l : List Operand} {y : AOpd} {r : List AOpd} (h : compOpds l = some (y :: r)) : ∃ x l', l = x :: l' ∧ compOpd x = some y ∧ compOpds l' = some r := by
  cases l with
  | nil => cases h
  | cons x l =>
    simp only [compOpds] at h
    split at h
    · rename_i a r h1 h2
      cases h
      exact ⟨x, l, rfl, h1, h2⟩
    · cases h

theorem minmax_run (isMax : Bool) (dst : Option Tmp) (args : Array Operand) (argTypes : Array TypeId) (type : TypeId) (pos : String) (after : Array Edge) (guard : Option (Nat × Bool))
    (x : Operand) (l' : List Operand) (y : AOpd) (l : List AOpd) {fr : List AV} {a : Act} {σ σ' : AHeap} {v : AV} (hargs : args.toList = x :: l') (hx : compOpd x = some y) (hl : compOpds l' = some l)
    (hf : FR ρ fr a.tmps) (he : evOp fr σ (.minmax isMax y l) = some (v, σ')) :
    σ' = σ ∧ ∃ u, VR ρ v u ∧ ∀ w, (execOp a.eval ⟨dst, .call ⟨.builtin (if isMax then .max else .min), args, argTypes⟩, type, pos, after, guard⟩).run P w = .ok (.value u) w := by
  have hargs' : args = (x :: l').toArray := Array.ext' hargs
  subst hargs'
  have k1 := opd_rel hx hf
  have k2 := opds_rel hl hf
  simp only [evOp, pure1] at he
  split at he
  · rename_i k n e
    rw [e] at k1
    cases k1 with
    | one k1 =>
      generalize hu' : a.eval x = u at k1
      cases k1
      split at he
      · rename_i s hs
        cases he
        obtain ⟨r, h1, h2⟩ := mms_run (P := P) _ _ _ _ k2 hs
        refine ⟨rfl, r, .one h1, fun w => ?_⟩
        have h3 := h2 w
        cases isMax
        · simp at h3
          simp [execOp, resolve, invoke, builtin, Builtin.min_, hu', h3]
        · simp at h3
          simp [execOp, resolve, invoke, builtin, Builtin.max_, hu', h3]
      · cases he
  · cases he

theorem memless_run [IsProg P] {o : Oper} {aop : AOp} {fr : List AV} {a : Act} {σ σ' : AHeap} {v : AV} (hc : compOp P o.op = some aop) (hm : aop.memless = true)
    (hf : FR ρ fr a.tmps) (hl : LenRel ρ σ.get) (he : evOp fr σ aop = some (v, σ')) :
    σ' = σ ∧ ∃ u, VR ρ v u ∧ ∀ w, (execOp a.eval o).run P w = .ok (.value u) w := by
  obtain ⟨dst, op, type, pos, after, guard⟩ := o
  simp only at hc
  cases op with
  | move x =>
    simp only [compOp] at hc
    split at hc
    · rename_i y hy
      cases hc; cases he
      exact ⟨rfl, _, opd_rel hy hf, fun w => rfl⟩
    · cases hc
  | assign x =>
    simp only [compOp] at hc
    split at hc
    · rename_i y hy
      cases hc; cases he
      exact ⟨rfl, _, opd_rel hy hf, fun w => rfl⟩
    · cases hc
  | pick c x y =>
    simp only [compOp] at hc
    split at hc
    · rename_i c' x' y' h1 h2 h3
      cases hc
      simp only [evOp] at he
      have k1 := opd_rel h1 hf
      split at he
      · rename_i e
        cases he
        rw [e] at k1
        cases k1 with
        | one k1 =>
          have e2 : a.eval c = .bool true := by cases hq : a.eval c <;> rw [hq] at k1 <;> cases k1 <;> rfl
          exact ⟨rfl, _, opd_rel h2 hf, fun w => by simp [execOp, e2, asBool]⟩
      · rename_i e
        cases he
        rw [e] at k1
        cases k1 with
        | one k1 =>
          have e2 : a.eval c = .bool false := by cases hq : a.eval c <;> rw [hq] at k1 <;> cases k1 <;> rfl
          exact ⟨rfl, _, opd_rel h3 hf, fun w => by simp [execOp, e2, asBool]⟩
      · cases he
    · cases hc
  | build t parts =>
    simp only [compOp] at hc
    have main : ∀ z l cs, aop = .build z l → fillA fr z l = some cs → v = .agg cs → σ' = σ →
        (∃ place, compParts place parts.toList = some l ∧ tZero P t = some z ∧ ∀ vs', ∀ i0 v0, P.info? t = some i0 → i0.zero = some v0 → Instr.fill place v0.cells ((parts.map fun (i, x) => (i, a.eval x)).toList) = some vs' →
          P.built t ((parts.map fun (i, x) => (i, a.eval x)).toList) = some vs') →
        σ' = σ ∧ ∃ u, VR ρ v u ∧ ∀ w, (execOp a.eval ⟨dst, .build t parts, type, pos, after, guard⟩).run P w = .ok (.value u) w := by
      rintro z l cs rfl hcs rfl rfl ⟨place, hp, hz, hb⟩
      obtain ⟨i0, v0, hi, hv, hlen, hzr⟩ := tZero_info hz
      obtain ⟨vs', h1, h2⟩ := fill_rel hf parts.toList l z cs v0.cells.toList hp hcs (hzr ρ)
      have h3 := hb vs'.toArray i0 v0 hi hv (by simpa using h1)
      refine ⟨rfl, .agg vs'.toArray, .agg h2, fun w => ?_⟩
      have := run_build (P := P) w t (parts.map fun (i, x) => (i, a.eval x)) vs'.toArray h3
      simp [execOp, this]
    split at hc
    · rename_i fields z hu hz
      split at hc
      · rename_i places hpl
        split at hc
        · rename_i l hparts
          cases hc
          simp only [evOp] at he
          split at he
          · rename_i cs hcs
            cases he
            refine main z l cs rfl hcs rfl rfl ⟨_, hparts, hz, fun vs' i0 v0 hi hv hfi => ?_⟩
            unfold fieldPlaces at hpl
            simp only [Program.built, hi, hu, hv, hpl]
            exact hfi
          · cases he
        · cases hc
      · cases hc
    · rename_i n e z hu hz
      split at hc
      · rename_i k hk
        split at hc
        · rename_i l hparts
          cases hc
          simp only [evOp] at he
          split at he
          · rename_i cs hcs
            cases he
            refine main z l cs rfl hcs rfl rfl ⟨_, hparts, hz, fun vs' i0 v0 hi hv hfi => ?_⟩
            obtain ⟨ie, hie, rfl⟩ := tSize_info hk
            simp only [Program.built, hi, hu, hv, hie]
            exact hfi
          · cases he
        · cases hc
      · cases hc
    · cases hc
  | nilCheck x =>
    simp only [compOp] at hc
    split at hc
    · rename_i y hy
      cases hc
      have k1 := opd_rel hy hf
      simp only [evOp] at he
      split at he
      · rename_i id off e
        cases he
        rw [e] at k1
        cases k1 with
        | one k1 =>
          generalize hu : a.eval x = u at k1
          refine ⟨rfl, u, .one k1, fun w => ?_⟩
          cases k1
          simp [execOp, hu]
      · rename_i f caps e
        cases he
        rw [e] at k1
        cases k1 with
        | one k1 =>
          generalize hu : a.eval x = u at k1
          refine ⟨rfl, u, .one k1, fun w => ?_⟩
          cases k1 <;> simp [execOp, hu]
      · rename_i cs off e
        cases he
        rw [e] at k1
        cases k1 with
        | one k1 =>
          generalize hu : a.eval x = u at k1
          refine ⟨rfl, u, .one k1, fun w => ?_⟩
          cases k1
          simp [execOp, hu]
      · rename_i t g cs e
        cases he
        rw [e] at k1
        cases k1 with
        | one k1 =>
          generalize hu : a.eval x = u at k1
          refine ⟨rfl, u, .one k1, fun w => ?_⟩
          cases k1 <;> simp [execOp, hu]
      · rename_i f rv e
        cases he
        rw [e] at k1
        cases k1 with
        | one k1 =>
          generalize hu : a.eval x = u at k1
          refine ⟨rfl, u, .one k1, fun w => ?_⟩
          cases k1 with
          | meth _ k1 hm =>
            rename_i name t x' y'
            have h2 := hm.2 w
            have hP := IsProg.eq (P := P)
            rw [← hP] at h2
            simp [execOp, hu, h2]
      · cases he
    · cases hc
  | binOp op t x y yt =>
    simp only [compOp] at hc
    split at hc
    · rename_i x' y' hx hy
      obtain ⟨_, h2, r, h3, h4⟩ := compBin_run (X := x) (Y := y) hc (opd_rel hx hf) (opd_rel hy hf) he
      refine ⟨h2, r, h3, fun w => ?_⟩
      have := h4 w
      simp only [execOp, Sem.run_bind] at this ⊢
      rw [this]
      rfl
    · cases hc
  | unOp op t x =>
    simp only [compOp] at hc
    split at hc
    · rename_i y hy
      cases hc
      simp only [evOp, pure1] at he
      split at he
      · rename_i s hs
        cases he
        have k1 := opd_rel hy hf
        unfold evUn at hs
        split at hs
        · rename_i b e
          cases hs
          rw [e] at k1
          cases k1 with
          | one k1 =>
            generalize hu : a.eval x = u at k1
            cases k1
            exact ⟨rfl, .bool (!b), .one (.bool _), fun w => by simp [execOp, hu, Op.unary]⟩
        · rename_i k n e
          cases hs
          rw [e] at k1
          cases k1 with
          | one k1 =>
            generalize hu : a.eval x = u at k1
            cases k1
            exact ⟨rfl, .int k (k.wrap (0 - n)), .one (by rw [wr_eq]; exact .int _ _), fun w => by simp [execOp, hu, Op.unary, Op.intArith]⟩
        · rename_i k n e
          rw [e] at k1
          cases k1 with
          | one k1 =>
            generalize hu : a.eval x = u at k1
            cases k1
            obtain ⟨r, h1, h2⟩ := ibits_run (P := P) (ρ := ρ) hs
            exact ⟨rfl, r, .one h2, fun w => by simp [execOp, hu, Op.unary, h1]⟩
        · cases hs
      · cases he
    · cases hc
  | convert src dst x =>
    simp only [compOp] at hc
    split at hc
    · rename_i y td k hy hs hd
      cases hc
      simp only [evOp] at he
      split at he
      · rename_i k0 n e
        cases he
        have k1 := opd_rel hy hf
        rw [e] at k1
        cases k1 with
        | one k1 =>
          generalize hu : a.eval x = u at k1
          cases k1
          refine ⟨rfl, .int k (k.wrap n), .one (by rw [wr_eq]; exact .int _ _), fun w => ?_⟩
          simp [execOp, hu, convert, run_underlying hs, run_underlying hd, Conv.intToInt]
      · cases he
    · split at hc <;> cases hc
      cases hm
    · split at hc <;> cases hc
      cases hm
    · cases hc
  | makeFunc fn first captured =>
    cases fn with
    | func f =>
      simp only [compOp] at hc
      split at hc
      · rename_i l h0 hl hN
        cases hc
        simp only [evOp] at he
        split at he
        · rename_i cs hcs
          cases he
          have h1 := evFns_rel hl hf hcs
          have h2 : first = #[] := Array.eq_empty_of_size_eq_zero h0
          subst h2
          refine ⟨rfl, .func (.func f) #[] (captured.toList.map a.eval).toArray, .one (.func (blt_lt hN) h1), fun w => ?_⟩
          simp [execOp, Instr.makeFunc, ← List.map_toArray]
        · cases he
      · cases hc
    | _ => simp [compOp] at hc
  | slice t x lo hi mx =>
    simp only [compOp] at hc
    split at hc
    · rename_i x' lo' hi' mx' hx hlo hhi hmx
      have k1 := opd_rel hx hf
      split at hc
      · rename_i hu
        split at hc
        · cases hc
          have hmxn := compOpt_none hmx
          subst hmxn
          exact slstr_run ⟨dst, .slice t x lo hi none, type, pos, after, guard⟩ rfl hu hx hlo hhi hf he
        · cases hc
      · rename_i e0 hu
        split at hc
        · rename_i n hsz hnone
          cases hc
          exact slice_run ⟨dst, .slice t x lo hi mx, type, pos, after, guard⟩ rfl hu hx hlo hhi hmx hnone hsz hf hl he
        · cases hc
      · rename_i k e0 hu
        split at hc
        · rename_i n hsz
          cases hc
          have hmxn := compOpt_none hmx
          subst hmxn
          exact slarr_run ⟨dst, .slice t x lo hi none, type, pos, after, guard⟩ rfl (.inl hu) hx hlo hhi hsz hf hl he
        · cases hc
      · rename_i arr hu
        split at hc
        · rename_i k e0 hu2
          split at hc
          · rename_i n hsz
            cases hc
            have hmxn := compOpt_none hmx
            subst hmxn
            exact slarr_run ⟨dst, .slice t x lo hi none, type, pos, after, guard⟩ rfl (.inr ⟨arr, hu, hu2⟩) hx hlo hhi hsz hf hl he
          · cases hc
        · cases hc
      · cases hc
    · cases hc
  | fieldAddr t x i =>
    simp only [compOp] at hc
    split at hc
    · rename_i y fields hy hu
      split at hc
      · rename_i f hfi
        split at hc
        · rename_i n hn
          cases hc
          simp only [evOp] at he
          split at he
          · rename_i id off e
            cases he
            have k1 := opd_rel hy hf
            rw [e] at k1
            cases k1 with
            | one k1 =>
              generalize hu' : a.eval x = u at k1
              cases k1 with
              | ptr hB =>
                rename_i B
                refine ⟨rfl, .pointer (some ⟨B.b, B.base + (off + f.offset), none⟩), .one (.ptr hB), fun w => ?_⟩
                simp [execOp, Instr.fieldAt, run_underlying hu, hfi, hu', Instr.sureAddr, fieldPlace, tSize_run hn, addr_add, Nat.add_assoc]
          · rename_i cs off e
            cases he
            have k1 := opd_rel hy hf
            rw [e] at k1
            cases k1 with
            | one k1 =>
              generalize hu' : a.eval x = u at k1
              cases k1 with
              | fptr hr hfz =>
                rename_i vs b o'
                refine ⟨rfl, .pointer (some ⟨b, o' + (off + f.offset), none⟩), .one (.fptr hr hfz), fun w => ?_⟩
                simp [execOp, Instr.fieldAt, run_underlying hu, hfi, hu', Instr.sureAddr, fieldPlace, tSize_run hn, addr_add, Nat.add_assoc]
          · cases he
        · cases hc
      · cases hc
    · cases hc
  | field t x i =>
    simp only [compOp] at hc
    split at hc
    · rename_i y fields hy hu
      split at hc
      · rename_i f hfi
        split at hc
        · rename_i g hg
          cases hc
          simp only [evOp] at he
          split at he
          · rename_i cs e
            split at he
            · rename_i v' hp
              cases he
              have k1 := opd_rel hy hf
              rw [e] at k1
              generalize hu' : a.eval x = u at k1
              cases k1 with
              | agg k1 =>
                obtain ⟨r, h1, h2⟩ := part_run (P := P) hg k1 hp
                exact ⟨rfl, r, h1, fun w => by simp [execOp, Instr.field, run_underlying hu, hfi, hu', asAgg, h2]⟩
            · cases he
          · cases he
        · cases hc
      · cases hc
    · cases hc
  | indexAddr t x i =>
    simp only [compOp] at hc
    split at hc
    · rename_i x' i' e0 hx hi hu
      split at hc
      · rename_i n hsz
        cases hc
        have k1 := opd_rel hx hf
        simp only [evOp] at he
        split at he
        · rename_i id off ez len cap j e1 e2
          rw [e1] at k1
          cases k1 with
          | one k1 =>
            generalize hu' : a.eval x = u at k1
            obtain ⟨kk, hj⟩ := asNat_run e2 (opd_rel hi hf)
            split at he
            · rename_i hb
              cases he
              have hb' : ez = n + 1 ∧ j < len := by simpa [Nat.blt_eq] using hb
              obtain ⟨rfl, hjl⟩ := hb'
              cases k1 with
              | slice hB h1 h2 h3 h4 h5 =>
                rename_i c B
                refine ⟨rfl, .pointer (some ⟨B.b, B.base + (off + j * (n + 1)), none⟩), .one (.ptr hB), fun w => ?_⟩
                have hrange : (0 : Int) ≤ j ∧ (j : Int) < len := by omega
                simp [execOp, Instr.indexAt, run_underlying hu, hu', hj, asIntOf, hrange, tSize_run hsz, addr_add, Nat.add_assoc]
                intro h; omega
              | slice0 hB h2 h4 h5 => omega
            · cases he
        · rename_i elems j e1 e2
          rw [e1] at k1
          cases k1 with
          | one k1 =>
            generalize hu' : a.eval x = u at k1
            obtain ⟨kk, hj⟩ := asNat_run e2 (opd_rel hi hf)
            split at he
            · rename_i el hel
              split at he
              · rename_i hlen
                cases he
                have hlen' : el.length = n + 1 := Nat.eq_of_beq_eq_true hlen
                cases k1 with
                | lst hr h0 hE hc hfz =>
                  rename_i vss E b o' c
                  obtain rfl : E = n + 1 := by rw [← hE el (List.mem_of_getElem? hel)]; exact hlen'
                  obtain ⟨vs, hvs, hrel⟩ := hr.get hel
                  have hjl := (List.getElem?_eq_some_iff.1 hel).1
                  refine ⟨rfl, .pointer (some ⟨b, (o' + j * (n + 1)) + 0, none⟩), .one (.fptr hrel (fun i v hi => by rw [Nat.add_assoc]; exact hfz _ v (flattenE_at (hr.lens hE) hvs hi))), fun w => ?_⟩
                  have hrange : (0 : Int) ≤ j ∧ (j : Int) < elems.length := by omega
                  simp [execOp, Instr.indexAt, run_underlying hu, hu', hj, asIntOf, hrange, tSize_run hsz, addr_add, Nat.add_assoc]
                  intro h; omega
                | lst0 => simp at hel
                | lstNil => simp at hel
              · cases he
            · cases he
        · cases he
      · cases hc
    · rename_i x' i' k e0 hx hi hu
      split at hc
      · rename_i n hsz
        cases hc
        have k1 := opd_rel hx hf
        simp only [evOp] at he
        split at he
        · rename_i id off j e1 e2
          rw [e1] at k1
          cases k1 with
          | one k1 =>
            generalize hu' : a.eval x = u at k1
            obtain ⟨kk, hj⟩ := asNat_run e2 (opd_rel hi hf)
            split at he
            · rename_i hb
              cases he
              have hjl : j < k := by simpa [Nat.blt_eq] using hb
              cases k1 with
              | ptr hB =>
                rename_i B
                refine ⟨rfl, .pointer (some ⟨B.b, B.base + (off + j * n), none⟩), .one (.ptr hB), fun w => ?_⟩
                have hrange : (0 : Int) ≤ j ∧ (j : Int) < k := by omega
                simp [execOp, Instr.indexAt, run_underlying hu, hu', hj, asIntOf, hrange, Instr.sureAddr, tSize_run hsz, addr_add, Nat.add_assoc]
                intro h; omega
            · cases he
        · rename_i cs off j e1 e2
          rw [e1] at k1
          cases k1 with
          | one k1 =>
            generalize hu' : a.eval x = u at k1
            obtain ⟨kk, hj⟩ := asNat_run e2 (opd_rel hi hf)
            split at he
            · rename_i hb
              cases he
              have hjl : j < k := by simpa [Nat.blt_eq] using hb
              cases k1 with
              | fptr hr hfz =>
                rename_i vs b o'
                refine ⟨rfl, .pointer (some ⟨b, o' + (off + j * n), none⟩), .one (.fptr hr hfz), fun w => ?_⟩
                have hrange : (0 : Int) ≤ j ∧ (j : Int) < k := by omega
                simp [execOp, Instr.indexAt, run_underlying hu, hu', hj, asIntOf, hrange, Instr.sureAddr, tSize_run hsz, addr_add, Nat.add_assoc]
                intro h; omega
            · cases he
        · cases he
      · cases hc
    · cases hc
  | index t x i =>
    simp only [compOp] at hc
    split at hc
    · rename_i x' i' hx hi hu
      cases hc
      have k1 := opd_rel hx hf
      simp only [evOp] at he
      split at he
      · rename_i s j e1 e2
        rw [e1] at k1
        cases k1 with
        | one k1 =>
          generalize hu' : a.eval x = u at k1
          cases k1
          obtain ⟨kk, hj⟩ := asNat_run e2 (opd_rel hi hf)
          split at he
          · rename_i b hb
            cases he
            refine ⟨rfl, .int .u8 b.toNat, .one (.int _ _), fun w => ?_⟩
            have hrange : (0 : Int) ≤ j := by omega
            simp [execOp, Instr.index, run_underlying hu, hu', hj, asIntOf, hrange, idx_bytes s j b hb]
          · cases he
      · cases he
    · rename_i x' i' k e0 hx hi hu
      split at hc
      · rename_i n g hsz hg
        cases hc
        have k1 := opd_rel hx hf
        simp only [evOp] at he
        split at he
        · rename_i cs j e1 e2
          rw [e1] at k1
          generalize hu' : a.eval x = u at k1
          cases k1 with
          | agg k1 =>
            obtain ⟨kk, hj⟩ := asNat_run e2 (opd_rel hi hf)
            split at he
            · rename_i hb
              have hjl : j < k := by simpa [Nat.blt_eq] using hb
              split at he
              · rename_i v' hp
                cases he
                have hg' : (if g.isSome = true then some n else none) = g := by
                  cases g with
                  | none => rfl
                  | some m =>
                    have := (tAgg_some hg default).2.2
                    rw [hsz] at this
                    cases this
                    rfl
                rw [hg'] at hp
                obtain ⟨r, h1, h2⟩ := part_run (P := P) hg k1 hp
                refine ⟨rfl, r, h1, fun w => ?_⟩
                have hrange : (0 : Int) ≤ j ∧ (j : Int) < k := by omega
                simp [execOp, Instr.index, run_underlying hu, hu', hj, asIntOf, hrange, tSize_run hsz, h2]
                intro h; omega
              · cases he
            · cases he
        · cases he
      · cases hc
    · cases hc
  | extract x i =>
    simp only [compOp] at hc
    split at hc
    · rename_i y hy
      cases hc
      simp only [evOp] at he
      split at he
      · rename_i vs e
        split at he
        · rename_i v' hp
          cases he
          have k1 := opd_rel hy hf
          rw [e] at k1
          generalize hu' : a.eval x = u at k1
          cases k1 with
          | tup k1 =>
            obtain ⟨r, h1, h2⟩ := k1.get hp
            exact ⟨rfl, r, h2, fun w => by simp [execOp, Instr.extract, hu', h1]⟩
        · cases he
      · cases he
    · cases hc
  | call c =>
    obtain ⟨callee, args, argTypes⟩ := c
    simp only [compOp, compCall] at hc
    cases callee with
    | value f =>
      simp only at hc
      split at hc
      · cases hc; cases hm
      · cases hc
    | invoke r m => cases hc
    | builtin b =>
      simp only at hc
      split at hc
      · -- len
        rename_i y t hy ht
        obtain ⟨x, hargs, hx⟩ := compOpds_one hy
        have hargs' : args = #[x] := Array.ext' hargs
        have hat : argTypes = #[t] := Array.ext' ht
        subst hargs'
        subst hat
        have k1 := opd_rel hx hf
        split at hc
        · rename_i hu
          cases hc
          simp only [evOp] at he
          split at he
          · rename_i s e
            cases he
            rw [e] at k1
            cases k1 with
            | one k1 =>
              generalize hu' : a.eval x = u at k1
              cases k1
              refine ⟨rfl, .int .i64 s.length, .one (.int _ _), fun w => ?_⟩
              have hsz : (ByteArray.mk s.toArray).size = s.length := by simp [ByteArray.size]
              simp [execOp, resolve, invoke, builtin, Builtin.len_, run_underlying hu, hu', goInt, hsz]
          · cases he
        · rename_i e0 hu
          cases hc
          simp only [evOp] at he
          split at he
          · rename_i id off ez len cap e
            cases he
            rw [e] at k1
            cases k1 with
            | one k1 =>
              generalize hu' : a.eval x = u at k1
              refine ⟨rfl, .int .i64 len, .one (.int _ _), fun w => ?_⟩
              cases k1 <;> simp [execOp, resolve, invoke, builtin, Builtin.len_, run_underlying hu, hu', goInt]
          · rename_i e
            cases he
            rw [e] at k1
            cases k1 with
            | one k1 =>
              generalize hu' : a.eval x = u at k1
              refine ⟨rfl, .int .i64 0, .one (.int _ _), fun w => ?_⟩
              cases k1 <;> simp [execOp, resolve, invoke, builtin, Builtin.len_, run_underlying hu, hu', goInt]
          · rename_i elems e
            cases he
            rw [e] at k1
            cases k1 with
            | one k1 =>
              generalize hu' : a.eval x = u at k1
              refine ⟨rfl, .int .i64 elems.length, .one (.int _ _), fun w => ?_⟩
              cases k1 <;> simp [execOp, resolve, invoke, builtin, Builtin.len_, run_underlying hu, hu', goInt]
          · rename_i e
            cases he
            rw [e] at k1
            cases k1 with
            | one k1 =>
              generalize hu' : a.eval x = u at k1
              refine ⟨rfl, .int .i64 0, .one (.int _ _), fun w => ?_⟩
              cases k1 <;> simp [execOp, resolve, invoke, builtin, Builtin.len_, run_underlying hu, hu', goInt]
          · cases he
        · rename_i n e0 hu
          cases hc
          cases he
          refine ⟨rfl, .int .i64 n, .one (.int _ _), fun w => ?_⟩
          simp [execOp, resolve, invoke, builtin, Builtin.len_, run_underlying hu, goInt]
        · rename_i arr hu
          split at hc
          · rename_i n e0 hu2
            cases hc
            cases he
            refine ⟨rfl, .int .i64 n, .one (.int _ _), fun w => ?_⟩
            simp [execOp, resolve, invoke, builtin, Builtin.len_, run_underlying hu, run_underlying hu2, goInt]
          · cases hc
        · cases hc
      · -- cap
        rename_i y t hy ht
        obtain ⟨x, hargs, hx⟩ := compOpds_one hy
        have hargs' : args = #[x] := Array.ext' hargs
        have hat : argTypes = #[t] := Array.ext' ht
        subst hargs'
        subst hat
        have k1 := opd_rel hx hf
        split at hc
        · rename_i e0 hu
          cases hc
          simp only [evOp] at he
          split at he
          · rename_i id off ez len c e
            cases he
            rw [e] at k1
            cases k1 with
            | one k1 =>
              generalize hu' : a.eval x = u at k1
              refine ⟨rfl, .int .i64 c, .one (.int _ _), fun w => ?_⟩
              cases k1 with
              | slice hB h1 h2 h3 h4 h5 =>
                rcases h5 with h5 | ⟨h5, _⟩
                · cases h5
                  simp [execOp, resolve, invoke, builtin, Builtin.cap_, run_underlying hu, hu', goInt]
                · cases h5
              | slice0 hB h2 h4 h5 =>
                rcases h5 with h5 | h5 <;> cases h5
                simp [execOp, resolve, invoke, builtin, Builtin.cap_, run_underlying hu, hu', goInt]
          · rename_i e
            cases he
            rw [e] at k1
            cases k1 with
            | one k1 =>
              generalize hu' : a.eval x = u at k1
              refine ⟨rfl, .int .i64 0, .one (.int _ _), fun w => ?_⟩
              cases k1 <;> simp [execOp, resolve, invoke, builtin, Builtin.cap_, run_underlying hu, hu', goInt]
          · rename_i e
            cases he
            rw [e] at k1
            cases k1 with
            | one k1 =>
              generalize hu' : a.eval x = u at k1
              refine ⟨rfl, .int .i64 0, .one (.int _ _), fun w => ?_⟩
              cases k1 <;> simp [execOp, resolve, invoke, builtin, Builtin.cap_, run_underlying hu, hu', goInt]
          · cases he
        · cases hc
      · -- append
        split at hc
        · split at hc
          · split at hc
            · cases hc
            · cases hc; cases hm
          · split at hc
            · cases hc
            · cases hc; cases hm
          · split at hc
            · cases hc
            · cases hc; cases hm
          · cases hc
        · cases hc
      · split at hc
        · split at hc
          · cases hc; cases hm
          · cases hc
        · cases hc
      · -- max
        rename_i y l hy
        cases hc
        obtain ⟨x, l', hargs, hx, hl'⟩ := compOpds_cons hy
        exact minmax_run true dst args argTypes type pos after guard x l' y l hargs hx hl' hf he
      · rename_i y l hy
        cases hc
        obtain ⟨x, l', hargs, hx, hl'⟩ := compOpds_cons hy
        exact minmax_run false dst args argTypes type pos after guard x l' y l hargs hx hl' hf he
      · split at hc
        · split at hc
          · cases hc; cases hm
          · cases hc
        · cases hc
      · cases hc
  | alloc t =>
    simp only [compOp] at hc
    split at hc <;> cases hc
    cases hm
  | box t x =>
    simp only [compOp] at hc
    split at hc <;> cases hc
    cases hm
  | buildSlice t n parts =>
    simp only [compOp] at hc
    split at hc
    · split at hc
      · split at hc <;> cases hc
        cases hm
      · cases hc
    · cases hc
  | load t x =>
    simp only [compOp] at hc
    split at hc <;> cases hc
    cases hm
  | store t x y =>
    simp only [compOp] at hc
    split at hc <;> cases hc
    cases hm
  | makeSlice t l c =>
    simp only [compOp] at hc
    split at hc
    · split at hc
      · split at hc <;> cases hc
        cases hm
      · cases hc
    · cases hc
  | _ => simp [compOp] at hc

end
end Go.Proofs.YtkolhfpofmpijaaDoor.Ab

/- The operations that look into memory, make it, or write it. -/
namespace Go.Proofs.YtkolhfpofmpijaaDoor.Ab
open Go
set_option linter.unusedSectionVars false
variable [LoopP]
set_option linter.unusedSimpArgs false
set_option linter.unusedVariables false

section
variable {P : Program} {ρ : Loc}

/-- The cells of an object, a row of them, are read. -/
theorem Holds.load {w : World} {B : Blk} {cs : List SV} (h : Holds ρ w B cs) {off n : Nat} (hl : off + n ≤ cs.length) :
    ∃ us, SRs ρ ((cs.drop off).take n) us ∧ us.length = n ∧ (loadCells ⟨B.b, B.base + off, none⟩ n).run P w = .ok us.toArray w := by
  obtain ⟨vs, h1, h2⟩ := h
  have hlen := h1.length
  refine ⟨(vs.drop off).take n, (h1.drop off).take n, by simp; omega, ?_⟩
  have hn : ((vs.drop off).take n).length = n := by simp; omega
  have := run_loadCells_list (P := P) w ⟨B.b, B.base + off, none⟩ ((vs.drop off).take n) (fun j v hj => by
    rw [addr_add, Nat.add_assoc]
    rw [List.getElem?_take] at hj
    split at hj
    · rw [List.getElem?_drop] at hj
      exact h2 _ v hj
    · cases hj)
  rwa [hn] at this

theorem loadA_obj {σ : AHeap} {g : Option Nat} {id off : Nat} {v : AV} (h : loadA σ g id off = some v) : ∃ ob, σ.get id = some ob ∧ ob.md ≠ .dead ∧ partA ob.cells g off = some v := by
  unfold loadA at h
  split at h
  · rename_i cs hcs; exact ⟨_, hcs, by simp, h⟩
  · rename_i cs hcs; exact ⟨_, hcs, by simp, h⟩
  · cases h

/-- The cells that nobody writes are there. -/
def FzOk (ρ : Loc) (w : World) : Prop := ∀ b o v, ρ.fz b o = some v → w.cell? ⟨b, o, none⟩ = some v
theorem HR.fzOk {g : Nat → Option AObj} {w : World} (h : HR ρ g w) : FzOk ρ w := fun b o v hv => (h.frz b o v hv).1

theorem load_run {o : Oper} {t : TypeId} {x : Operand} {g : Option Nat} {y : AOpd} {fr : List AV} {a : Act} {σ σ' : AHeap} {v : AV} {w : World}
    (ho : o.op = .load t x) (hg : tAgg P t = some g) (hy : compOpd x = some y) (hf : FR ρ fr a.tmps) (he : evOp fr σ (.load g y) = some (v, σ'))
    (hr : ∀ id off B ob, ev fr y = .one (.ptr id off) → ρ id = some B → σ.get id = some ob → ObjOk ρ w B ob) (hz : FzOk ρ w) :
    σ' = σ ∧ ∃ u, VR ρ v u ∧ (execOp a.eval o).run P w = .ok (.value u) w := by
  have k1 := opd_rel hy hf
  have fin : ∀ (b base off : Nat) (cs : List SV) (v' : AV), (∃ vs : List Value, SRs ρ cs vs ∧ ∀ j v, vs[j]? = some v → w.cell? ⟨b, base + j, none⟩ = some v) →
      a.eval x = .pointer (some ⟨b, base + off, none⟩) → partA cs g off = some v' → ∃ u, VR ρ v' u ∧ (execOp a.eval o).run P w = .ok (.value u) w := by
    intro b base off cs v' hh hu' hp
    cases g with
    | none =>
      simp only [partA] at hp
      split at hp
      · rename_i s hs
        cases hp
        obtain ⟨vs, q1, q2⟩ := hh
        obtain ⟨u, q3, q4⟩ := q1.get hs
        refine ⟨u, .one q4, ?_⟩
        have := q2 off u q3
        simp [execOp, ho, hu', Instr.loadAt, Instr.sureAddr, loadVar, tAgg_none hg, this]
      · cases hp
    | some n =>
      simp only [partA] at hp
      split at hp
      · rename_i hl
        cases hp
        obtain ⟨us, q1, q2, q3⟩ := Holds.load (P := P) (B := ⟨b, base, 0, 0⟩) hh (by simpa using hl)
        refine ⟨.agg us.toArray, .agg q1, ?_⟩
        simp [execOp, ho, hu', Instr.loadAt, Instr.sureAddr, loadVar, (tAgg_some hg w).1, (tAgg_some hg w).2.1, q3]
      · cases hp
  simp only [evOp] at he
  split at he
  · rename_i id off e
    split at he
    · rename_i v' hv
      cases he
      refine ⟨rfl, ?_⟩
      rw [e] at k1
      cases k1 with
      | one k1 =>
        generalize hu' : a.eval x = u at k1
        cases k1 with
        | ptr hB =>
          rename_i B
          obtain ⟨ob, hob, hmd, hp⟩ := loadA_obj hv
          exact fin B.b B.base off ob.cells _ ((hr id off B ob e hB hob).holds hmd) hu' hp
    · cases he
  · rename_i cs off e
    split at he
    · rename_i v' hp
      cases he
      refine ⟨rfl, ?_⟩
      rw [e] at k1
      cases k1 with
      | one k1 =>
        generalize hu' : a.eval x = u at k1
        cases k1 with
        | fptr hrel hfz =>
          rename_i vs b o'
          exact fin b o' off cs _ ⟨vs, hrel, fun j v hj => hz b (o' + j) v (hfz j v hj)⟩ hu' hp
    · cases he
  · cases he

/-! ### rows of zeros -/
def repV (z : List Value) : Nat → List Value
  | 0 => []
  | n + 1 => z ++ repV z n

theorem repeat_rel {zero : List SV} {z : List Value} (h : SRs ρ zero z) : ∀ n, SRs ρ (repeatCells zero n) (repV z n)
  | 0 => .nil
  | n + 1 => h.append (repeat_rel h n)

theorem repV_length (z : List Value) : ∀ n, (repV z n).length = n * z.length
  | 0 => by simp [repV]
  | n + 1 => by simp [repV, repV_length z n, Nat.succ_mul, Nat.add_comm]

theorem repeatCells_length (z : List SV) : ∀ n, (repeatCells z n).length = n * z.length
  | 0 => by simp [repeatCells]
  | n + 1 => by simp [repeatCells, repeatCells_length z n, Nat.succ_mul, Nat.add_comm]

theorem range_rep (z : Array Value) (k : Nat) (hk : z.size = k) : ∀ n, (List.range (n * k)).map (fun i => z[i % k]!) = repV z.toList n
  | 0 => by simp [repV]
  | n + 1 => by
    have e : (n + 1) * k = k + n * k := by rw [Nat.succ_mul, Nat.add_comm]
    rw [e, List.range_add, List.map_append, List.map_map]
    have h1 : (List.range k).map (fun i => z[i % k]!) = z.toList := by
      apply List.ext_getElem
      · simp [hk]
      · intro i h1 h2
        have hi : i < k := by simpa using h1
        simp [Nat.mod_eq_of_lt hi, hk, hi]
    have h2 : (List.range (n * k)).map ((fun i => z[i % k]!) ∘ fun x => k + x) = (List.range (n * k)).map (fun i => z[i % k]!) := by
      apply List.map_congr_left
      intro i _
      simp
    rw [h1, h2, range_rep z k hk n]
    rfl

theorem arr_range_rep (z : Array Value) (k n : Nat) (hk : z.size = k) : ((Array.range (n * k)).map fun i => z[i % k]!) = (repV z.toList n).toArray := by
  apply Array.ext'
  rw [← range_rep z k hk n]
  simp

theorem range0 (f : Nat → Value) : Array.map f (Array.range 0) = #[] := Array.ext' (by simp)

theorem fillA_length {fr : List AV} : ∀ {ps : List (Nat × Nat × AOpd)} {cs cs' : List SV}, fillA fr cs ps = some cs' → cs'.length = cs.length
  | [], cs, cs', h => by cases h; rfl
  | (off, n, x) :: l, cs, cs', h => by
    simp only [fillA] at h
    split at h
    · cases h
    · split at h
      · rename_i hl
        have hl' : (ev fr x).cells.length = n ∧ off + n ≤ cs.length := by simpa using hl
        rw [fillA_length h, splice_length (by omega)]
      · cases h

/-! ### what makes a block -/
def AOp.allocs : AOp → Bool
  | .new _ | .box _ | .bslice .. | .mkslice .. => true
  | _ => false

/-- The answer of an operation that makes one block, and looks into none. -/
def AllocRes (P : Program) (ρ : Loc) (o : Oper) (a : Act) (σ σ' : AHeap) (v : AV) : Prop :=
  ∃ (cs : List SV) (vs : List Value) (t : TypeId), σ' = σ.alloc ⟨cs, .own⟩ ∧ SRs ρ cs vs ∧
    ∀ w, ∃ u, (execOp a.eval o).run P w = .ok (.value u) (w.alloc (.cells vs.toArray t)) ∧
      ∀ ρ' : Loc, ρ' σ.size = some ⟨w.heap.size, 0, vs.length, cs.length⟩ → VR ρ' v u

theorem new_run {o : Oper} {t : TypeId} {z : List SV} {fr : List AV} {a : Act} {σ σ' : AHeap} {v : AV}
    (ho : o.op = .alloc t) (hz : tZero P t = some z) (he : evOp fr σ (.new z) = some (v, σ')) : AllocRes P ρ o a σ σ' v := by
  cases he
  obtain ⟨i, v0, h1, h2, h3, h4⟩ := tZero_info hz
  refine ⟨z, v0.cells.toList, t, rfl, h4 ρ, fun w => ⟨.pointer (some ⟨w.heap.size, 0, none⟩), ?_, fun ρ' hρ => ?_⟩⟩
  · simp [execOp, ho, Instr.alloc, zeroValue, typeInfo, h1, h2, newVar, newRow]
  · have := SR.ptr (off := 0) hρ
    exact .one (by simpa using this)

theorem box_run {o : Oper} {t : TypeId} {x : Operand} {y : AOpd} {fr : List AV} {a : Act} {σ σ' : AHeap} {v : AV}
    (ho : o.op = .box t x) (hy : compOpd x = some y) (hf : FR ρ fr a.tmps) (he : evOp fr σ (.box y) = some (v, σ')) : AllocRes P ρ o a σ σ' v := by
  have k1 := opd_rel hy hf
  simp only [evOp] at he
  split at he
  · cases he
  · rename_i hnt
    cases he
    have hc := k1.cells (fun l e => hnt l e)
    refine ⟨_, (a.eval x).cells.toList, t, rfl, hc, fun w => ⟨.pointer (some ⟨w.heap.size, 0, none⟩), ?_, fun ρ' hρ => ?_⟩⟩
    · simp [execOp, ho, Instr.box, newVar, newRow]
    · have := SR.ptr (off := 0) hρ
      exact .one (by simpa using this)

theorem bslice_run {o : Oper} {t e : TypeId} {n len : Nat} {z : List SV} {parts : Array (Nat × Operand)} {l : List (Nat × Nat × AOpd)} {fr : List AV} {a : Act} {σ σ' : AHeap} {v : AV}
    (ho : o.op = .buildSlice t len parts) (ht : tElem P t = some e) (hs : tSize P e = some (n + 1)) (hz : tZero P e = some z)
    (hp : compParts (fun i => some (i * (n + 1), n + 1)) parts.toList = some l) (hlen : len * (n + 1) ≤ 16777216)
    (hf : FR ρ fr a.tmps) (he : evOp fr σ (.bslice (n + 1) len z l) = some (v, σ')) : AllocRes P ρ o a σ σ' v := by
  simp only [evOp] at he
  split at he
  · rename_i cs hcs
    cases he
    obtain ⟨i, v0, h1, h2, h3, h4⟩ := tZero_info hz
    obtain ⟨i', h1', hsz⟩ := tSize_info hs
    rw [h1] at h1'; cases h1'
    have hzl := (h4 ρ).length
    have hv0 : v0.cells.size = n + 1 := by rw [← hsz, ← h3, hzl]; simp
    obtain ⟨vs', q1, q2⟩ := fill_rel hf parts.toList l _ cs _ hp hcs (repeat_rel (h4 ρ) len)
    have hvl : vs'.length = len * (n + 1) := by
      rw [← q2.length]
      have := fillA_length hcs
      rw [this, repeatCells_length, h3, hsz]
    refine ⟨cs, vs', e, rfl, q2, fun w => ⟨.slice (some ⟨w.heap.size, 0, none⟩) len len, ?_, fun ρ' hρ => ?_⟩⟩
    · have hle : ¬ 2 ^ 24 < len * (n + 1) := by omega
      have hparts : (parts.map fun p => (p.1, a.eval p.2)).toList = parts.toList.map fun p => (p.1, a.eval p.2) := by simp
      by_cases h0 : len * (n + 1) = 0
      · have hl0 : len = 0 := by
          rcases Nat.mul_eq_zero.1 h0 with h | h <;> omega
        subst hl0
        simp only [repV] at q1
        simp [execOp, ho, Instr.buildSlice, run_underlying (tElem_run ht), tSize_run hs, range0, q1, newRow]
      · have hr := arr_range_rep v0.cells (n + 1) len hv0
        have hzv : (zeroValue e).run P w = .ok v0 w := by simp [zeroValue, typeInfo, h1, h2]
        simp [execOp, ho, Instr.buildSlice, run_underlying (tElem_run ht), tSize_run hs, hle, h0, hzv, hv0, hr, q1, newRow]
    · have hsl : SR ρ' (.slice σ.size 0 (n + 1) len (some len)) (.slice (some ⟨w.heap.size, 0 + 0, none⟩) len len) :=
        .slice hρ (Nat.le_refl _) (by show 0 + len * (n + 1) ≤ cs.length; rw [q2.length, hvl]; omega) (by simp only; rw [hvl]; omega) (by omega) (.inl rfl)
      exact .one hsl
  · cases he

theorem small_i64 (n : Nat) (h : n ≤ 4294967296) : IntKind.i64.wrap (n : Int) = n := by
  simp only [IntKind.wrap, IntKind.bits, IntKind.signed]
  simp
  omega

theorem wrap0 : IntKind.i64.wrap 0 = 0 := by decide

theorem mkslice_run {o : Oper} {t e : TypeId} {n b : Nat} {z : List SV} {l c : Operand} {l' c' : AOpd} {fr : List AV} {a : Act} {σ σ' : AHeap} {v : AV}
    (ho : o.op = .makeSlice t l c) (ht : tElem P t = some e) (hs : tSize P e = some (n + 1)) (hb : tBytes P e = some b) (hz : tZero P e = some z)
    (hl : compOpd l = some l') (hc : compOpd c = some c') (hf : FR ρ fr a.tmps) (he : evOp fr σ (.mkslice (n + 1) b z l' c') = some (v, σ')) : AllocRes P ρ o a σ σ' v := by
  simp only [evOp] at he
  split at he
  · rename_i len cap e1 e2
    split at he
    · rename_i hbd
      cases he
      have hbd' : (len ≤ cap ∧ cap ≤ maxElems) ∧ b ≤ maxBytes := by simpa using hbd
      unfold maxElems maxBytes at hbd'
      obtain ⟨kl, hl2⟩ := asNat_run e1 (opd_rel hl hf)
      obtain ⟨kc, hc2⟩ := asNat_run e2 (opd_rel hc hf)
      obtain ⟨i, v0, h1, h2, h3, h4⟩ := tZero_info hz
      obtain ⟨i', h1', hsz⟩ := tSize_info hs
      rw [h1] at h1'; cases h1'
      have hbi : i.bytes = b := by
        unfold tBytes at hb; rw [h1] at hb; simpa using hb
      have hzl := (h4 ρ).length
      have hv0 : v0.cells.size = n + 1 := by rw [← hsz, ← h3, hzl]; simp
      have hvl : (repV v0.cells.toList cap).length = cap * (n + 1) := by rw [repV_length]; simp [hv0]
      have hrl := repeat_rel (h4 ρ) cap
      refine ⟨_, repV v0.cells.toList cap, e, rfl, hrl, fun w => ⟨.slice (some ⟨w.heap.size, 0, none⟩) len cap, ?_, fun ρ' hρ => ?_⟩⟩
      · have w1 := small_i64 len (by omega)
        have w2 := small_i64 cap (by omega)
        have n1 : ¬ ((cap : Int) < 0) := by omega
        have hmul : b * cap ≤ 4096 * 4294967296 := Nat.mul_le_mul (by omega) (by omega)
        have n2 : ¬ ((281474976710656 : Int) < (i.bytes : Int) * (cap : Int)) := by
          rw [hbi]
          have : ((b * cap : Nat) : Int) ≤ ((4096 * 4294967296 : Nat) : Int) := by exact_mod_cast hmul
          simp only [Int.natCast_mul] at this
          omega
        have n3 : ¬ ((len : Int) < 0) := by omega
        have n4 : ¬ ((cap : Int) < (len : Int)) := by omega
        have n4' : ¬ cap < len := by omega
        have hzv : (zeroValue e).run P w = .ok v0 w := by simp [zeroValue, typeInfo, h1, h2]
        by_cases h0 : cap = 0
        · subst h0
          have hl0 : len = 0 := by omega
          subst hl0
          simp [execOp, ho, Instr.makeSlice, run_underlying (tElem_run ht), hl2, hc2, asInt, asIntOf, typeInfo, h1, w1, w2, tSize_run hs, newRow, repV, range0, wrap0]
        · have h00 : ¬ (cap * (n + 1) = 0) := by
            intro h; rcases Nat.mul_eq_zero.1 h with h | h <;> omega
          have hr := arr_range_rep v0.cells (n + 1) cap hv0
          simp [execOp, ho, Instr.makeSlice, run_underlying (tElem_run ht), hl2, hc2, asInt, asIntOf, typeInfo, h1, w1, w2, n1, n2, n3, n4, n4', tSize_run hs, h0, h00, hzv, hv0, hr, newRow]
      · have hsl : SR ρ' (.slice σ.size 0 (n + 1) len (some cap)) (.slice (some ⟨w.heap.size, 0 + 0, none⟩) len cap) := by
          have hm : len * (n + 1) ≤ cap * (n + 1) := Nat.mul_le_mul_right _ hbd'.1.1
          exact .slice hρ hbd'.1.1 (by show 0 + len * (n + 1) ≤ (repeatCells z cap).length; rw [hrl.length, hvl]; omega) (by simp only; rw [hvl]; omega) (by omega) (.inl rfl)
        exact .one hsl
    · cases he
  · cases he

/-! ### what writes -/
theorem writeAt_run {σ σ' : AHeap} {w : World} {id off : Nat} {B : Blk} {ss : List SV} {vs : List Value} (h : HR ρ σ.get w) (hB : ρ id = some B) (hw : writeAt σ id off ss = some σ') (hv : SRs ρ ss vs) :
    ∃ w', (storeCells ⟨B.b, B.base + off, none⟩ vs).run P w = .ok () w' ∧ Post ρ σ w ρ σ' w' := by
  unfold writeAt at hw
  split at hw
  · rename_i cs hcs
    split at hw
    · rename_i hl
      cases hw
      exact Post.write h hB hcs (by simpa using hl) hv
    · cases hw
  · cases hw

/-- What an operation answers that may write. -/
def OpRes (P : Program) (ρ : Loc) (o : Oper) (a : Act) (σ : AHeap) (w : World) (σ' : AHeap) (v : AV) : Prop :=
  ∃ r u w' ρ', (execOp a.eval o).run P w = .ok r w' ∧ (r = .value u ∨ (r = .skip ∧ u = undef)) ∧ Post ρ σ w ρ' σ' w' ∧ VR ρ' v u

theorem store_run {o : Oper} {t : TypeId} {x y : Operand} {x' y' : AOpd} {n : Nat} {fr : List AV} {a : Act} {σ σ' : AHeap} {v : AV} {w : World}
    (ho : o.op = .store t x y) (hn : tSize P t = some n) (hx : compOpd x = some x') (hy : compOpd y = some y') (hf : FR ρ fr a.tmps) (h : HR ρ σ.get w)
    (he : evOp fr σ (.store n x' y') = some (v, σ')) : OpRes P ρ o a σ w σ' v := by
  have k1 := opd_rel hx hf
  have k2 := opd_rel hy hf
  simp only [evOp] at he
  split at he
  · cases he
  · rename_i id off e1 hnt
    split at he
    · rename_i hlen
      split at he
      · rename_i σ1 hw
        cases he
        rw [e1] at k1
        cases k1 with
        | one k1 =>
          generalize hu' : a.eval x = u at k1
          cases k1 with
          | ptr hB =>
            rename_i B
            have hcs := k2.cells (fun l e => hnt l e)
            have hlen' : (ev fr y').cells.length = n := by simpa using hlen
            have hsz : (a.eval y).cells.size = n := by rw [← hlen', hcs.length]; simp
            obtain ⟨w', r1, r2⟩ := writeAt_run (P := P) h hB hw hcs
            exact ⟨.skip, undef, w', ρ, by simp [execOp, ho, hu', Instr.storeAt, Instr.sureAddr, storeVar, tSize_run hn, hsz, r1], .inr ⟨rfl, rfl⟩, r2, VR.undef⟩
      · cases he
    · cases he
  · cases he

end
end Go.Proofs.YtkolhfpofmpijaaDoor.Ab

/- append, copy, clear. -/
namespace Go.Proofs.YtkolhfpofmpijaaDoor.Ab
open Go
set_option linter.unusedSectionVars false
variable [LoopP]
set_option linter.unusedSimpArgs false
set_option linter.unusedVariables false

section
variable {P : Program} {ρ : Loc}

theorem srcLen_run {y : AV} {u : Value} {k : Nat} (h : srcLen y = some k) (hy : VR ρ y u) (w : World) : (Builtin.lenOf u).run P w = .ok k w := by
  unfold srcLen at h
  split at h
  · cases h
    cases hy with
    | one hy => cases hy <;> simp [Builtin.lenOf]
  · cases h
    cases hy with
    | one hy => cases hy; simp [Builtin.lenOf]
  · cases h
    cases hy with
    | one hy => cases hy; simp [Builtin.lenOf, ByteArray.size]
  · cases h
    cases hy with
    | one hy => cases hy <;> simp [Builtin.lenOf]
  · cases h
    cases hy with
    | one hy => cases hy <;> simp [Builtin.lenOf]
  · cases h

theorem bytes_cells (s : List UInt8) : SRs ρ (s.map byteCell) (s.map fun b => Value.int .u8 b.toNat) := by
  induction s with
  | nil => exact .nil
  | cons b s ih => exact .cons (.int _ _) ih

theorem srcCells_run {σ : AHeap} {w : World} {y : AV} {u : Value} {esz k : Nat} {vs : List SV} (h : srcCells σ esz k y = some vs) (hy : VR ρ y u) (hr : HR ρ σ.get w) :
    ∃ us, SRs ρ vs us ∧ us.length = k * esz ∧ ∀ w2 : World, w2.heap = w.heap → (Builtin.firstCells esz k u).run P w2 = .ok us.toArray w2 := by
  unfold srcCells at h
  split at h
  · rename_i id off e len cap
    have body : ∀ ob, σ.get id = some ob → ob.md ≠ .dead → (Nat.beq e esz && Nat.ble k len) = true → off + k * esz ≤ ob.cells.length → vs = (ob.cells.drop off).take (k * esz) →
        ∃ us, SRs ρ vs us ∧ us.length = k * esz ∧ ∀ w2 : World, w2.heap = w.heap → (Builtin.firstCells esz k u).run P w2 = .ok us.toArray w2 := by
      rintro ob hob hmd hb hl rfl
      have hb' : e = esz ∧ k ≤ len := by simpa using hb
      obtain ⟨rfl, hk⟩ := hb'
      cases hy with
      | one hy =>
        cases hy with
        | slice hB h1 h2 h3 h4 h5 =>
          rename_i c B
          obtain ⟨o', k1, k2, k3⟩ := hr.dom id B hB
          rw [hob] at k1; cases k1
          obtain ⟨vs', q1, q2⟩ := k2.holds hmd
          have hlen := q1.length
          refine ⟨(vs'.drop off).take (k * e), (q1.drop off).take _, by simp; omega, fun w2 hw => ?_⟩
          have hn : ((vs'.drop off).take (k * e)).length = k * e := by simp; omega
          have := run_loadCells_list (P := P) w2 ⟨B.b, B.base + off, none⟩ ((vs'.drop off).take (k * e)) (fun j v hj => by
            rw [addr_add, Nat.add_assoc]
            rw [List.getElem?_take] at hj
            split at hj
            · rw [List.getElem?_drop] at hj
              rw [cell_of_heap (w := w) (by rw [hw])]
              exact q2 _ v hj
            · cases hj)
          rw [hn] at this
          simpa [Builtin.firstCells] using this
        | slice0 hB h2 h4 h5 =>
          have hk0 : k = 0 := by omega
          subst hk0
          refine ⟨[], by simp; exact .nil, by simp, fun w2 hw => ?_⟩
          simp [Builtin.firstCells, loadCells, loadCellsFrom]
    split at h
    · rename_i cs hb hcs
      split at h
      · rename_i hl
        cases h
        exact body _ hcs (by simp) hb (by simpa using hl) rfl
      · cases h
    · rename_i cs hb hcs
      split at h
      · rename_i hl
        cases h
        exact body _ hcs (by simp) hb (by simpa using hl) rfl
      · cases h
    · cases h
  · split at h
    · rename_i hk
      cases h
      have hk0 : k = 0 := by simpa using hk
      subst hk0
      cases hy with
      | one hy =>
        cases hy
        exact ⟨[], .nil, by simp, fun w2 _ => by simp [Builtin.firstCells]⟩
    · cases h
  · rename_i s
    split at h
    · rename_i hb
      cases h
      have hb' : esz = 1 ∧ k ≤ s.length := by simpa using hb
      obtain ⟨rfl, hk⟩ := hb'
      cases hy with
      | one hy =>
        cases hy
        refine ⟨_, bytes_cells (s.take k), by simp; omega, fun w2 _ => ?_⟩
        have he : ((ByteArray.mk s.toArray).extract 0 k).data = (s.take k).toArray := by
          apply Array.ext'
          simp
        simp [Builtin.firstCells, he]
    · cases h
  · rename_i elems
    split at h
    · rename_i hb
      cases h
      have hb' : k ≤ elems.length ∧ (elems.take k).flatten.length = k * esz := by simpa using hb
      obtain ⟨hk, hfl⟩ := hb'
      cases hy with
      | one hy =>
        by_cases hk0 : k = 0
        · subst hk0
          refine ⟨[], by simp; exact .nil, by simp, fun w2 hw => ?_⟩
          cases hy <;> simp [Builtin.firstCells, loadCells, loadCellsFrom]
        · cases hy with
          | lst hrel h0 hE hc hfz =>
            rename_i vss E b o c
            have h1 : (elems.take k).flatten.length = k * E := by
              rw [flattenE_len _ (fun x hx => hE x (List.mem_of_mem_take hx)), List.length_take, Nat.min_eq_left hk]
            have hEe : E = esz := Nat.eq_of_mul_eq_mul_left (by omega : 0 < k) (by rw [← h1, hfl])
            subst hEe
            refine ⟨(vss.take k).flatten, (hrel.take k).flatten, by rw [← (hrel.take k).flatten.length, h1], fun w2 hw => ?_⟩
            have hn : (vss.take k).flatten.length = k * E := by rw [← (hrel.take k).flatten.length, h1]
            have := run_loadCells_list (P := P) w2 ⟨b, o, none⟩ (vss.take k).flatten (fun j v hj => by
              rw [addr_add]
              rw [cell_of_heap (w := w) (by rw [hw])]
              refine (hr.frz b (o + j) v (hfz j v ?_)).1
              have := flattenE_part (a := 0) (k := k) (hrel.lens hE) (by simpa using hj)
              simpa using this)
            rw [hn] at this
            simpa [Builtin.firstCells] using this
          | lst0 => simp at hk; omega
          | lstNil => simp at hk; omega
    · cases h
  · split at h
    · rename_i hk
      cases h
      have hk0 : k = 0 := by simpa using hk
      subst hk0
      cases hy with
      | one hy =>
        refine ⟨[], .nil, by simp, fun w2 _ => ?_⟩
        cases hy <;> simp [Builtin.firstCells, loadCells, loadCellsFrom]
    · cases h
  · cases h

theorem growBy_le (m : Nat) : ∀ (r c : Nat), c ≤ m → Builtin.growBy m r c ≤ 2 * m + 768
  | 0, c, h => by simp [Builtin.growBy]; omega
  | r + 1, c, h => by
    simp only [Builtin.growBy]
    split
    · omega
    · by_cases hc : c + (c + 768) / 4 ≤ m
      · exact growBy_le m r _ hc
      · cases r with
        | zero => simp [Builtin.growBy]; omega
        | succ r =>
          simp only [Builtin.growBy]
          rw [if_pos (by omega)]
          omega

theorem nextcap_le (m c : Nat) (h : c < m) : Builtin.nextslicecap m c ≤ 2 * m + 768 := by
  unfold Builtin.nextslicecap
  split
  · omega
  · split
    · omega
    · exact growBy_le m 4 c (by omega)

/-- In place. -/
def InPlace (P : Program) (app : Sem Value) (base : Option Addr) (len c esz k : Nat) (us : List Value) (w : World) : Prop :=
  len + k ≤ c → app.run P w = match base with
    | some a => ((storeCells (a.add (len * esz)) us).run P w).andThen fun _ w' => .ok (.slice base (len + k) c) w'
    | none => .ok (.slice base (len + k) c) w

/-- In a new block. -/
def InNew (P : Program) (app : Sem Value) (e : TypeId) (len c esz bytes k : Nat) (x : Value) (us : List Value) (w : World) : Prop :=
  ¬ len + k ≤ c → Builtin.nextslicecap (len + k) c * bytes ≤ 281474976710656 → len + k ≤ 4294967296 → ∀ old : List Value, (∀ w2 : World, w2.heap = w.heap → (Builtin.firstCells esz len x).run P w2 = .ok old.toArray w2) →
    ∃ (nc : Nat) (rest : List Value), len + k ≤ nc ∧ rest.length = (nc - (len + k)) * esz ∧
      app.run P w = .ok (.slice (some ⟨w.heap.size, 0, none⟩) (len + k) nc) (w.drew.alloc (.cells (old ++ us ++ rest).toArray e))

theorem zeroCells_size (z : Array Value) (n : Nat) : (Builtin.zeroCells z n).toList.length = n * z.size := by
  simp [Builtin.zeroCells]

theorem append_two {t u e : TypeId} {esz bytes k len c : Nat} {z : List SV} {x y : Value} {base : Option Addr} {us : List Value} {w : World} (ty : TypeId)
    (ht : tElem P t = some e) (hs : tSize P e = some (esz + 1)) (hb : tBytes P e = some bytes) (hz : tZero P e = some z) (hu : (∃ e', P.underlying u = some (.slice e')) ∨ P.underlying u = some .string)
    (hx : x = .slice base len c) (hk : ∀ w2 : World, (Builtin.lenOf y).run P w2 = .ok k w2) (hus : ∀ w2 : World, w2.heap = w.heap → (Builtin.firstCells (esz + 1) k y).run P w2 = .ok us.toArray w2) :
    InPlace P (Builtin.append_ #[t, u] ty #[x, y]) base len c (esz + 1) k us w ∧ InNew P (Builtin.append_ #[t, u] ty #[x, y]) e len c (esz + 1) bytes k x us w := by
  obtain ⟨i, v0, h1, h2, h3, h4⟩ := tZero_info hz
  obtain ⟨i', h1', hsz⟩ := tSize_info hs
  rw [h1] at h1'; cases h1'
  have hbi : i.bytes = bytes := by unfold tBytes at hb; rw [h1] at hb; simpa using hb
  have hzl := (h4 ⟨fun _ => none, fun _ _ => none⟩).length
  have hv0 : v0.cells.size = esz + 1 := by rw [← hsz, ← h3, hzl]; simp
  subst hx
  constructor
  · intro hle
    rcases hu with ⟨e', hd⟩ | hd <;> cases base <;> simp [Builtin.append_, run_underlying (tElem_run ht), run_underlying hd, tSize_run hs, hk, hus w rfl, hle]
  · intro hle hcap hsmall old hold
    have h63 : ¬ ((9223372036854775807 : Int) < (len : Int) + (k : Int)) := by omega
    have h48 : ¬ 281474976710656 < Builtin.nextslicecap (len + k) c * i.bytes := by rw [hbi]; omega
    have hzv : ∀ w2 : World, (zeroValue e).run P w2 = .ok v0 w2 := by intro w2; simp [zeroValue, typeInfo, h1, h2]
    have hge := grownCap_ge w (len + k) c e
    refine ⟨grownCap w (len + k) c e, (Builtin.zeroCells v0.cells (grownCap w (len + k) c e - (len + k))).toList, hge, by rw [zeroCells_size, hv0], ?_⟩
    have ho := hold w.drew rfl
    have hn := hus w.drew rfl
    rcases hu with ⟨e', hd⟩ | hd <;>
      simp [Builtin.append_, run_underlying (tElem_run ht), run_underlying hd, typeInfo, h1, tSize_run hs, hk, hle, h63, h48, hzv, Question.forced, ho, hn, newRow, grownCap] <;>
      (congr 2; apply Array.ext'; simp)

theorem append_zeros {t u e : TypeId} {esz bytes k len c : Nat} {ik ik' : IntKind} {z : List SV} {x : Value} {base : Option Addr} {w : World} (ty : TypeId)
    (ht : tElem P t = some e) (hs : tSize P e = some (esz + 1)) (hb : tBytes P e = some bytes) (hz : tZero P e = some z) (hu : P.underlying u = some (.int ik))
    (hx : x = .slice base len c) (hk : k ≤ 4294967296) (hby : k = 0 ∨ bytes ≤ 4096) :
    ∃ us : List Value, (∀ ρ : Loc, SRs ρ (repeatCells z k) us) ∧ InPlace P (Builtin.append_ #[t, u] ty #[x, .int ik' k]) base len c (esz + 1) k us w ∧ InNew P (Builtin.append_ #[t, u] ty #[x, .int ik' k]) e len c (esz + 1) bytes k x us w := by
  obtain ⟨i, v0, h1, h2, h3, h4⟩ := tZero_info hz
  obtain ⟨i', h1', hsz⟩ := tSize_info hs
  rw [h1] at h1'; cases h1'
  have hbi : i.bytes = bytes := by unfold tBytes at hb; rw [h1] at hb; simpa using hb
  have hzl := (h4 ⟨fun _ => none, fun _ _ => none⟩).length
  have hv0 : v0.cells.size = esz + 1 := by rw [← hsz, ← h3, hzl]; simp
  subst hx
  have hzv : ∀ w2 : World, (zeroValue e).run P w2 = .ok v0 w2 := by intro w2; simp [zeroValue, typeInfo, h1, h2]
  have hr := arr_range_rep v0.cells (esz + 1) k hv0
  have hzc : Builtin.zeroCells v0.cells k = (repV v0.cells.toList k).toArray := by
    unfold Builtin.zeroCells
    rw [hv0]
    exact hr
  have w1 := small_i64 k hk
  have n3 : ¬ ((k : Int) < 0) := by omega
  have hmul : k * bytes ≤ 4294967296 * 4096 := by
    rcases hby with rfl | hby
    · simp
    · exact Nat.mul_le_mul (by omega) (by omega)
  have n2 : ¬ ((281474976710656 : Int) < (k : Int) * (i.bytes : Int)) := by
    rw [hbi]
    have : ((k * bytes : Nat) : Int) ≤ ((4294967296 * 4096 : Nat) : Int) := by exact_mod_cast hmul
    simp only [Int.natCast_mul] at this
    omega
  refine ⟨repV v0.cells.toList k, fun ρ => repeat_rel (h4 ρ) k, ?_, ?_⟩
  · intro hle
    by_cases h0 : k = 0
    · subst h0
      have hle' : len ≤ c := by simpa using hle
      cases base <;> simp [Builtin.append_, run_underlying (tElem_run ht), run_underlying hu, tSize_run hs, typeInfo, h1, asInt, asIntOf, wrap0, hle', repV]
    · have h00 : ¬ (k * (esz + 1) = 0) := by intro h; rcases Nat.mul_eq_zero.1 h with h | h <;> omega
      cases base <;> simp [Builtin.append_, run_underlying (tElem_run ht), run_underlying hu, tSize_run hs, typeInfo, h1, asInt, asIntOf, w1, n3, n2, hle, h0, h00, hzv, hzc]
  · intro hle hcap hsmall old hold
    have h63 : ¬ ((9223372036854775807 : Int) < (len : Int) + (k : Int)) := by omega
    have h48 : ¬ 281474976710656 < Builtin.nextslicecap (len + k) c * i.bytes := by rw [hbi]; omega
    have hge := grownCap_ge w (len + k) c e
    refine ⟨grownCap w (len + k) c e, (Builtin.zeroCells v0.cells (grownCap w (len + k) c e - (len + k))).toList, hge, by rw [zeroCells_size, hv0], ?_⟩
    have ho := hold w.drew rfl
    by_cases h0 : k = 0
    · subst h0
      have hle' : ¬ len ≤ c := by simpa using hle
      have h63' : ¬ ((9223372036854775807 : Int) < (len : Int)) := by omega
      have h48' : ¬ 281474976710656 < Builtin.nextslicecap len c * i.bytes := by simpa using h48
      simp [Builtin.append_, run_underlying (tElem_run ht), run_underlying hu, tSize_run hs, typeInfo, h1, asInt, asIntOf, wrap0, hle', repV, h63', h48', hzv, Question.forced, ho, newRow, grownCap]
      (congr 2; apply Array.ext'; simp)
    · have h00 : ¬ (k * (esz + 1) = 0) := by intro h; rcases Nat.mul_eq_zero.1 h with h | h <;> omega
      simp [Builtin.append_, run_underlying (tElem_run ht), run_underlying hu, tSize_run hs, typeInfo, h1, asInt, asIntOf, w1, n3, n2, hle, h0, h00, hzv, hzc, h63, h48, Question.forced, ho, newRow, grownCap]
      (congr 2; apply Array.ext'; simp)

end
end Go.Proofs.YtkolhfpofmpijaaDoor.Ab

/- append, copy, clear: what they answer, and what becomes of memory. -/
namespace Go.Proofs.YtkolhfpofmpijaaDoor.Ab
open Go
set_option linter.unusedSectionVars false
variable [LoopP]
set_option linter.unusedSimpArgs false
set_option linter.unusedVariables false

section
variable {P : Program} {ρ : Loc}

/-- What an append makes: a new block, the old cells, the new ones, and some more. -/
theorem newRes {σ : AHeap} {w : World} {e : TypeId} {esz n nc : Nat} {cs : List SV} {vs rest : List Value} (hr : HR ρ σ.get w) (hv : SRs ρ cs vs) (hcl : cs.length = n * (esz + 1)) (hnc : n ≤ nc)
    (hrest : rest.length = (nc - n) * (esz + 1)) :
    Post ρ σ w (ρ.upd σ.size ⟨w.heap.size, 0, nc * (esz + 1), cs.length⟩) (σ.alloc ⟨cs, .own⟩) (w.drew.alloc (.cells (vs ++ rest).toArray e)) ∧
    VR (ρ.upd σ.size ⟨w.heap.size, 0, nc * (esz + 1), cs.length⟩) (.one (.slice σ.size 0 (esz + 1) n none)) (.slice (some ⟨w.heap.size, 0, none⟩) n nc) := by
  have hvl := hv.length
  have hsz : (vs ++ rest).toArray.size = nc * (esz + 1) := by
    simp only [List.size_toArray, List.length_append, hrest, ← hvl, hcl, ← Nat.add_mul]
    congr 1
    omega
  have hp := Post.alloc (t := e) (fz := (0, 0)) (hr.of_heap (w' := w.drew) rfl) hv (extra := rest) rfl (fun o _ => by omega)
  rw [hsz] at hp
  refine ⟨(Post.of_heap hr (w' := w.drew) rfl rfl rfl rfl).trans hp, .one ?_⟩
  have hm : n * (esz + 1) ≤ nc * (esz + 1) := Nat.mul_le_mul_right _ hnc
  have hB : (ρ.upd σ.size ⟨w.heap.size, 0, nc * (esz + 1), cs.length⟩) σ.size = some ⟨w.heap.size, 0, nc * (esz + 1), cs.length⟩ := by rw [Loc.upd_at, if_pos rfl]
  exact .slice (B := ⟨w.heap.size, 0, nc * (esz + 1), cs.length⟩) hB hnc (by simp only; omega) (by simp only; omega) (by omega) (.inr ⟨rfl, by simp only; omega⟩)

theorem appendA_run {x v : AV} {X : Value} {σ σ' : AHeap} {w : World} {e : TypeId} {esz bytes k : Nat} {vs : List SV} {us : List Value} {app : Sem Value}
    (hx : VR ρ x X) (hr : HR ρ σ.get w) (hv : SRs ρ vs us) (hul : us.length = k * (esz + 1))
    (happ : ∀ base len c, X = .slice base len c → InPlace P app base len c (esz + 1) k us w ∧ InNew P app e len c (esz + 1) bytes k X us w)
    (he : appendA σ (esz + 1) bytes x k vs = some (v, σ')) : ∃ u w' ρ', app.run P w = .ok u w' ∧ Post ρ σ w ρ' σ' w' ∧ VR ρ' v u := by
  have hvl := hv.length
  cases k with
  | zero =>
    have hus : us = [] := List.eq_nil_of_length_eq_zero (by simpa using hul)
    subst hus
    have hsame : x = v ∧ σ = σ' ∧ ((∃ id off e len cap, x = .one (.slice id off e len cap)) ∨ x = .one .nilSlice ∨ (∃ l, x = .one (.lst l)) ∨ x = .one .emp ∨ ∃ l, x = .one (.lstx l)) := by
      simp only [appendA] at he
      split at he
      · cases he; exact ⟨rfl, rfl, .inr (.inl rfl)⟩
      · cases he; exact ⟨rfl, rfl, .inl ⟨_, _, _, _, _, rfl⟩⟩
      · cases he; exact ⟨rfl, rfl, .inr (.inr (.inl ⟨_, rfl⟩))⟩
      · cases he; exact ⟨rfl, rfl, .inr (.inr (.inr (.inl rfl)))⟩
      · cases he; exact ⟨rfl, rfl, .inr (.inr (.inr (.inr ⟨_, rfl⟩)))⟩
      · cases he
    obtain ⟨rfl, rfl, hx2⟩ := hsame
    obtain ⟨base, len, c, hX, hlc⟩ : ∃ base len c, X = .slice base len c ∧ len ≤ c := by
      rcases hx2 with ⟨_, _, _, _, _, rfl⟩ | rfl | ⟨l, rfl⟩ | rfl | ⟨l, rfl⟩ <;>
      · cases hx with
        | one hx => cases hx <;> exact ⟨_, _, _, rfl, by first | assumption | omega | simp⟩
    refine ⟨X, w, ρ, ?_, Post.refl hr, hx⟩
    have := (happ base len c hX).1 (by omega)
    rw [this, hX]
    cases base <;> simp [storeCells]
  | succ k =>
    simp only [appendA, appendK] at he
    have fresh : (X = .slice none 0 0 ∨ ∃ x0, X = .slice (some x0) 0 0) → (match Nat.ble (k + 1) maxElems && Nat.ble bytes maxBytes with
        | true => some (AV.one (.slice σ.size 0 (esz + 1) (k + 1) none), σ.alloc ⟨vs, .own⟩)
        | false => none) = some (v, σ') → ∃ u w' ρ', app.run P w = .ok u w' ∧ Post ρ σ w ρ' σ' w' ∧ VR ρ' v u := by
      intro hX he
      split at he
      · rename_i hb
        cases he
        have hb' : k + 1 ≤ maxElems ∧ bytes ≤ maxBytes := by simpa using hb
        unfold maxElems maxBytes at hb'
        have hcap := nextcap_le (k + 1) 0 (by omega)
        have hmul : Builtin.nextslicecap (k + 1) 0 * bytes ≤ (2 * 4294967296 + 768) * 4096 := Nat.mul_le_mul (by omega) (by omega)
        have key : ∃ (nc : Nat) (rest : List Value), k + 1 ≤ nc ∧ rest.length = (nc - (k + 1)) * (esz + 1) ∧ app.run P w = .ok (.slice (some ⟨w.heap.size, 0, none⟩) (k + 1) nc) (w.drew.alloc (.cells (us ++ rest).toArray e)) := by
          rcases hX with rfl | ⟨x0, rfl⟩
          · obtain ⟨nc, rest, h1, h2, h3⟩ := (happ none 0 0 rfl).2 (by omega) (by simp only [Nat.zero_add]; omega) (by omega) [] (fun w2 _ => by simp [Builtin.firstCells])
            simp only [Nat.zero_add, List.nil_append] at h1 h2 h3
            exact ⟨nc, rest, h1, h2, h3⟩
          · obtain ⟨nc, rest, h1, h2, h3⟩ := (happ (some x0) 0 0 rfl).2 (by omega) (by simp only [Nat.zero_add]; omega) (by omega) [] (fun w2 _ => by simp [Builtin.firstCells, loadCells, loadCellsFrom])
            simp only [Nat.zero_add, List.nil_append] at h1 h2 h3
            exact ⟨nc, rest, h1, h2, h3⟩
        obtain ⟨nc, rest, h1, h2, h3⟩ := key
        obtain ⟨p1, p2⟩ := newRes (e := e) (esz := esz) (n := k + 1) hr hv (by rw [hvl, hul]) h1 h2
        exact ⟨_, _, _, h3, p1, p2⟩
      · cases he
    split at he
    · refine fresh ?_ he
      cases hx with
      | one hx => cases hx; exact .inl rfl
    · refine fresh ?_ he
      cases hx with
      | one hx => cases hx <;> first | exact .inl rfl | exact .inr ⟨_, rfl⟩
    · rename_i id off ez len cap
      split at he
      · rename_i cs md hb hob
        have hb' : (ez = esz + 1 ∧ len + (k + 1) ≤ maxElems) ∧ bytes ≤ maxBytes := by simpa using hb
        obtain ⟨⟨rfl, hb1⟩, hb2⟩ := hb'
        unfold maxElems at hb1
        unfold maxBytes at hb2
        have hmulle : ∀ p q : Nat, p ≤ q → p * (esz + 1) ≤ q * (esz + 1) := fun p q h => Nat.mul_le_mul_right _ h
        have hmuleq : ∀ p q : Nat, p * (esz + 1) ≤ q * (esz + 1) → p ≤ q := fun p q hpq => Nat.le_of_mul_le_mul_right hpq (by omega)
        have hadd : (len + (k + 1)) * (esz + 1) = len * (esz + 1) + (k + 1) * (esz + 1) := Nat.add_mul _ _ _
        -- a new block, out of an object that is there
        have growing : ∀ (B : Blk) (X0 : Addr) (c : Nat), ρ id = some B → md ≠ .dead → X = .slice (some X0) len c → (X0 = ⟨B.b, B.base + off, none⟩ ∨ len = 0) → off + len * (esz + 1) ≤ cs.length → ¬ len + (k + 1) ≤ c →
            ∃ (nc : Nat) (old rest : List Value), len + (k + 1) ≤ nc ∧ rest.length = (nc - (len + (k + 1))) * (esz + 1) ∧ SRs ρ ((cs.drop off).take (len * (esz + 1))) old ∧
              app.run P w = .ok (.slice (some ⟨w.heap.size, 0, none⟩) (len + (k + 1)) nc) (w.drew.alloc (.cells (old ++ us ++ rest).toArray e)) := by
          intro B X0 c hB hmd hX hX0 hl hgt
          obtain ⟨o', k1, k2, k3⟩ := hr.dom id B hB
          rw [hob] at k1; cases k1
          have hcap := nextcap_le (len + (k + 1)) c (by omega)
          have hmul : Builtin.nextslicecap (len + (k + 1)) c * bytes ≤ (2 * 4294967296 + 768) * 4096 := Nat.mul_le_mul (by omega) (by omega)
          obtain ⟨vs', q1, q2⟩ := k2.holds hmd
          have hlen := q1.length
          have hlen2 : (vs'.drop off).length ≥ len * (esz + 1) := by simp; simp at hlen; omega
          have hold : ∀ w2 : World, w2.heap = w.heap → (Builtin.firstCells (esz + 1) len X).run P w2 = .ok ((vs'.drop off).take (len * (esz + 1))).toArray w2 := by
            intro w2 hw
            rw [hX]
            rcases hX0 with rfl | rfl
            · have hn : ((vs'.drop off).take (len * (esz + 1))).length = len * (esz + 1) := by rw [List.length_take]; omega
              have := run_loadCells_list (P := P) w2 ⟨B.b, B.base + off, none⟩ ((vs'.drop off).take (len * (esz + 1))) (fun j v hj => by
                rw [addr_add, Nat.add_assoc]
                rw [List.getElem?_take] at hj
                split at hj
                · rw [List.getElem?_drop] at hj
                  rw [cell_of_heap (w := w) (by rw [hw])]
                  exact q2 _ v hj
                · cases hj)
              rw [hn] at this
              simpa [Builtin.firstCells] using this
            · simp [Builtin.firstCells, loadCells, loadCellsFrom]
          obtain ⟨nc, rest, h1, h2, h3⟩ := (happ (some X0) len c hX).2 hgt (by omega) hb1 _ hold
          exact ⟨nc, _, rest, h1, h2, (q1.drop off).take _, h3⟩
        cases hx with
        | one hx =>
          cases hx with
          | slice hB a1 a2 a3 a4 a5 =>
            rename_i c B
            obtain ⟨o', k1, k2, k3⟩ := hr.dom id B hB
            rw [hob] at k1; cases k1
            have hcl := k2.len
            simp only at hcl
            have inPlace : ∀ σ1, writeAt σ id (off + len * (esz + 1)) vs = some σ1 → len + (k + 1) ≤ c → off + (len + (k + 1)) * (esz + 1) ≤ cs.length → ∀ cap', (cap' = some c ∨ (cap' = none ∧ B.clen ≤ off + c * (esz + 1))) →
                ∃ u w' ρ', app.run P w = .ok u w' ∧ Post ρ σ w ρ' σ1 w' ∧ VR ρ' (.one (.slice id off (esz + 1) (len + (k + 1)) cap')) u := by
              intro σ1 hw hle hfit cap' hcap'
              obtain ⟨w', r1, r2⟩ := writeAt_run (P := P) hr hB hw hv
              refine ⟨_, w', ρ, ?_, r2, .one (.slice hB hle (by omega) a3 a4 hcap')⟩
              rw [(happ _ len c rfl).1 hle]
              simp only [addr_add]
              rw [Nat.add_assoc, r1]
              rfl
            have hvk : vs.length = (k + 1) * (esz + 1) := by rw [hvl, hul]
            split at he
            · rename_i c'
              have hcc : c' = c := by
                rcases a5 with a5 | ⟨a5, _⟩
                · cases a5; rfl
                · cases a5
              subst hcc
              split at he
              · rename_i hle
                split at he
                · rename_i σ1 hw
                  cases he
                  have hfit : off + (len + (k + 1)) * (esz + 1) ≤ cs.length := by
                    unfold writeAt at hw
                    rw [hob] at hw
                    split at hw
                    · rename_i cs' e'
                      cases e'
                      split at hw
                      · rename_i hl
                        have : off + len * (esz + 1) + vs.length ≤ cs.length := by simpa using hl
                        omega
                      · cases hw
                    · cases hw
                  exact inPlace _ hw (by simpa using hle) hfit _ (.inl rfl)
                · cases he
              · rename_i hle
                have hgt : ¬ len + (k + 1) ≤ c' := by
                  intro h; have : Nat.ble (len + (k + 1)) c' = true := by simpa using h
                  rw [this] at hle; cases hle
                have fin : ∀ (hmd : md ≠ .dead), (match Nat.ble (off + len * (esz + 1)) cs.length with
                    | true => some (AV.one (.slice σ.size 0 (esz + 1) (len + (k + 1)) none), σ.alloc ⟨(cs.drop off).take (len * (esz + 1)) ++ vs, .own⟩)
                    | false => none) = some (v, σ') → ∃ u w' ρ', app.run P w = .ok u w' ∧ Post ρ σ w ρ' σ' w' ∧ VR ρ' v u := by
                  intro hmd he
                  split at he
                  · rename_i hl
                    cases he
                    have hl' : off + len * (esz + 1) ≤ cs.length := by simpa using hl
                    obtain ⟨nc, old, rest, h1, h2, h3, h4⟩ := growing B _ c' hB hmd rfl (.inl rfl) hl' hgt
                    have hcl3 : ((cs.drop off).take (len * (esz + 1)) ++ vs).length = (len + (k + 1)) * (esz + 1) := by
                      simp only [List.length_append, List.length_take, List.length_drop, hvk]; omega
                    obtain ⟨p1, p2⟩ := newRes (e := e) (esz := esz) (n := len + (k + 1)) hr (h3.append hv) hcl3 h1 h2
                    exact ⟨_, _, _, h4, p1, p2⟩
                  · cases he
                cases md with
                | own => exact fin (by simp) he
                | ro => exact fin (by simp) he
                | map es => exact fin (by simp) he
                | tag t => exact fin (by simp) he
                | loop => exact fin (by simp) he
                | dead => cases he
            · obtain ⟨_, a6⟩ : (none : Option Nat) = none ∧ B.clen ≤ off + c * (esz + 1) := by
                rcases a5 with a5 | a5
                · cases a5
                · exact a5
              split at he
              · rename_i hl
                split at he
                · rename_i σ1 hw
                  cases he
                  have hl' : off + (len + (k + 1)) * (esz + 1) ≤ cs.length := by simpa using hl
                  exact inPlace _ hw (hmuleq _ _ (by omega)) hl' _ (.inr ⟨rfl, a6⟩)
                · cases he
              · rename_i hl
                split at he
                · rename_i heq
                  cases he
                  have heq' : off + len * (esz + 1) = cs.length := by simpa using heq
                  by_cases hle : len + (k + 1) ≤ c
                  · -- it goes on in the block
                    have hmc := hmulle _ _ hle
                    obtain ⟨w', r1, r2⟩ := Post.grow (P := P) hr hB hob (off := off) (ss := vs) (by omega) (by omega) hv
                    have hcl3 : (cs.drop off ++ vs).length = (len + (k + 1)) * (esz + 1) := by
                      simp only [List.length_append, List.length_drop, hvk]; omega
                    refine ⟨.slice (some ⟨B.b, B.base + off, none⟩) (len + (k + 1)) c, w', _, ?_, r2, .one ?_⟩
                    · rw [(happ _ len c rfl).1 hle]
                      simp only [addr_add]
                      rw [Nat.add_assoc, heq', r1]
                      rfl
                    · have hBn : (ρ.upd σ.size ⟨B.b, B.base + off, B.n, (cs.drop off ++ vs).length⟩) σ.size = some ⟨B.b, B.base + off, B.n, (cs.drop off ++ vs).length⟩ := by rw [Loc.upd_at, if_pos rfl]
                      have := SR.slice (ρ := ρ.upd σ.size ⟨B.b, B.base + off, B.n, (cs.drop off ++ vs).length⟩) (off := 0) (esz := esz + 1) (len := len + (k + 1)) (c := c) (cap := none) hBn hle
                        (by simp only; omega) (by simp only; omega) a4 (.inr ⟨rfl, by simp only; omega⟩)
                      simpa using this
                  · obtain ⟨nc, old, rest, h1, h2, h3, h4⟩ := growing B _ c hB (by simp) rfl (.inl rfl) (by omega) hle
                    have htk : (cs.drop off).take (len * (esz + 1)) = cs.drop off := by
                      apply List.take_of_length_le
                      simp; omega
                    rw [htk] at h3
                    have hcl3 : (cs.drop off ++ vs).length = (len + (k + 1)) * (esz + 1) := by
                      simp only [List.length_append, List.length_drop, hvk]; omega
                    have hkill := Post.kill hr hB hob
                    obtain ⟨p1, p2⟩ := newRes (e := e) (esz := esz) (n := len + (k + 1)) hkill.hr (h3.append hv) hcl3 h1 h2
                    exact ⟨_, _, _, h4, hkill.trans p1, p2⟩
                · cases he
          | slice0 hB a2 a4 a5 =>
            rename_i x0 B
            obtain ⟨o', k1, k2, k3⟩ := hr.dom id B hB
            rw [hob] at k1; cases k1
            have hcl := k2.len
            simp only at hcl
            have hvk : vs.length = (k + 1) * (esz + 1) := by rw [hvl, hul]
            have hpos : 0 < (k + 1) * (esz + 1) := Nat.mul_pos (by omega) (by omega)
            split at he
            · rename_i c'
              have hcc : c' = 0 := by
                rcases a5 with a5 | a5 <;> cases a5
                rfl
              subst hcc
              split at he
              · rename_i hle
                have : 0 + (k + 1) ≤ 0 := Nat.le_of_ble_eq_true hle
                omega
              · rename_i hle
                have fin : ∀ (hmd : md ≠ .dead), (match Nat.ble (off + 0 * (esz + 1)) cs.length with
                    | true => some (AV.one (.slice σ.size 0 (esz + 1) (0 + (k + 1)) none), σ.alloc ⟨(cs.drop off).take (0 * (esz + 1)) ++ vs, .own⟩)
                    | false => none) = some (v, σ') → ∃ u w' ρ', app.run P w = .ok u w' ∧ Post ρ σ w ρ' σ' w' ∧ VR ρ' v u := by
                  intro hmd he
                  split at he
                  · rename_i hl
                    cases he
                    have hl' : off + 0 * (esz + 1) ≤ cs.length := by simpa using hl
                    obtain ⟨nc, old, rest, h1, h2, h3, h4⟩ := growing B _ 0 hB hmd rfl (.inr rfl) hl' (by omega)
                    have hcl3 : ((cs.drop off).take (0 * (esz + 1)) ++ vs).length = (0 + (k + 1)) * (esz + 1) := by
                      simp only [List.length_append, List.length_take, List.length_drop, hvk]; omega
                    obtain ⟨p1, p2⟩ := newRes (e := e) (esz := esz) (n := 0 + (k + 1)) hr (h3.append hv) hcl3 h1 h2
                    exact ⟨_, _, _, h4, p1, p2⟩
                  · cases he
                cases md with
                | own => exact fin (by simp) he
                | ro => exact fin (by simp) he
                | map es => exact fin (by simp) he
                | tag t => exact fin (by simp) he
                | loop => exact fin (by simp) he
                | dead => cases he
            · split at he
              · rename_i hl
                have : off + (0 + (k + 1)) * (esz + 1) ≤ cs.length := by simpa using hl
                omega
              · split at he
                · rename_i heq
                  cases he
                  have heq' : off + 0 * (esz + 1) = cs.length := by simpa using heq
                  obtain ⟨nc, old, rest, h1, h2, h3, h4⟩ := growing B _ 0 hB (by simp) rfl (.inr rfl) (by omega) (by omega)
                  have htk : (cs.drop off).take (0 * (esz + 1)) = cs.drop off := by
                    apply List.take_of_length_le
                    simp; omega
                  rw [htk] at h3
                  have hcl3 : (cs.drop off ++ vs).length = (0 + (k + 1)) * (esz + 1) := by
                    simp only [List.length_append, List.length_drop, hvk]; omega
                  have hkill := Post.kill hr hB hob
                  obtain ⟨p1, p2⟩ := newRes (e := e) (esz := esz) (n := 0 + (k + 1)) hkill.hr (h3.append hv) hcl3 h1 h2
                  exact ⟨_, _, _, h4, hkill.trans p1, p2⟩
                · cases he
      · cases he
    · rename_i elems
      split at he
      · rename_i hb
        cases he
        have hb' : ((elems.length + (k + 1) ≤ maxElems ∧ bytes ≤ maxBytes) ∧ elems.flatten.length = elems.length * (esz + 1)) ∧ 0 < elems.length := by
          simp only [Bool.and_eq_true] at hb
          exact ⟨⟨⟨Nat.le_of_ble_eq_true hb.1.1.1, Nat.le_of_ble_eq_true hb.1.1.2⟩, Nat.eq_of_beq_eq_true hb.1.2⟩, Nat.le_of_ble_eq_true hb.2⟩
        obtain ⟨⟨⟨hb1, hb2⟩, hfl⟩, hpos⟩ := hb'
        unfold maxElems at hb1
        unfold maxBytes at hb2
        cases hx with
        | one hx =>
          cases hx with
          | lstx hrel h0 hE hfz =>
            rename_i vss E b o
            have hEe : E = esz + 1 := by
              have h1 := flattenE_len elems hE
              rw [hfl] at h1
              exact (Nat.eq_of_mul_eq_mul_left hpos h1).symm
            subst hEe
            have hn : vss.flatten.length = elems.length * (esz + 1) := by rw [← hrel.flatten.length, hfl]
            have hcap := nextcap_le (elems.length + (k + 1)) elems.length (by omega)
            have hmul : Builtin.nextslicecap (elems.length + (k + 1)) elems.length * bytes ≤ (2 * 4294967296 + 768) * 4096 := Nat.mul_le_mul (by omega) (by omega)
            have hold : ∀ w2 : World, w2.heap = w.heap → (Builtin.firstCells (esz + 1) elems.length (.slice (some ⟨b, o, none⟩) elems.length elems.length)).run P w2 = .ok vss.flatten.toArray w2 := by
              intro w2 hw
              have := run_loadCells_list (P := P) w2 ⟨b, o, none⟩ vss.flatten (fun j v hj => by
                rw [addr_add, cell_of_heap (w := w) (by rw [hw])]
                exact (hr.frz b (o + j) v (hfz j v hj)).1)
              rw [hn] at this
              simpa [Builtin.firstCells] using this
            obtain ⟨nc, rest, h1, h2, h3⟩ := (happ (some ⟨b, o, none⟩) elems.length elems.length rfl).2 (by omega) (by omega) hb1 _ hold
            have hcl3 : (elems.flatten ++ vs).length = (elems.length + (k + 1)) * (esz + 1) := by
              rw [List.length_append, hfl, hvl, hul]
              exact (Nat.add_mul _ _ _).symm
            obtain ⟨p1, p2⟩ := newRes (e := e) (esz := esz) (n := elems.length + (k + 1)) hr (hrel.flatten.append hv) hcl3 h1 h2
            exact ⟨_, _, _, h3, p1, p2⟩
      · cases he
    · cases he

theorem first0 {y : AV} {Y : Value} {k esz : Nat} (hk : srcLen y = some k) (hy : VR ρ y Y) (w : World) : (Builtin.firstCells (esz + 1) 0 Y).run P w = .ok #[] w := by
  unfold srcLen at hk
  split at hk
  · cases hy with
    | one hy => cases hy <;> simp [Builtin.firstCells, loadCells, loadCellsFrom]
  · cases hy with
    | one hy => cases hy; simp [Builtin.firstCells]
  · cases hy with
    | one hy =>
      cases hy
      simp [Builtin.firstCells]
  · cases hy with
    | one hy => cases hy <;> simp [Builtin.firstCells, loadCells, loadCellsFrom]
  · cases hy with
    | one hy => cases hy <;> simp [Builtin.firstCells, loadCells, loadCellsFrom]
  · cases hk

theorem copy_run {t t2 e : TypeId} {esz : Nat} {X Y : Value} {v : AV} {σ σ' : AHeap} {w : World} {fr : List AV} {x' y' : AOpd} (ty : TypeId)
    (ht : tElem P t = some e) (hs : tSize P e = some (esz + 1)) (hx : VR ρ (ev fr x') X) (hy : VR ρ (ev fr y') Y) (hr : HR ρ σ.get w)
    (he : evOp fr σ (.copy (esz + 1) x' y') = some (v, σ')) :
    ∃ u w' ρ', (Builtin.copy_ #[t, t2] ty #[X, Y]).run P w = .ok u w' ∧ Post ρ σ w ρ' σ' w' ∧ VR ρ' v u := by
  simp only [evOp] at he
  split at he
  · rename_i k id off ez len cap hk e1
    rw [e1] at hx
    have hlen := srcLen_run (P := P) hk hy
    split at he
    · rename_i hez
      have hez' : ez = esz + 1 := by simpa using hez
      subst hez'
      split at he
      · rename_i vs hvs
        split at he
        · rename_i σ1 hw
          cases he
          obtain ⟨us, q1, q2, q3⟩ := srcCells_run (P := P) hvs hy hr
          have hcells := q3 w rfl
          cases hx with
          | one hx =>
            cases hx with
            | slice hB h1 h2 h3 h4 h5 =>
              rename_i c B
              obtain ⟨w', r1, r2⟩ := writeAt_run (P := P) hr hB hw q1
              refine ⟨.int .i64 (min k len : Nat), w', ρ, ?_, r2, .one (.int _ _)⟩
              simp [Builtin.copy_, run_underlying (tElem_run ht), hlen, tSize_run hs, Nat.min_def, goInt]
              simp only [Nat.min_def] at hcells r1 ⊢
              rw [hcells]
              simp [r1]
            | slice0 hB h2 h4 h5 =>
              rename_i x0 B
              have hus : us = [] := List.eq_nil_of_length_eq_zero (by rw [q2]; simp)
              subst hus
              obtain ⟨w', r1, r2⟩ := writeAt_run (P := P) hr hB hw q1
              simp [storeCells] at r1
              subst r1
              refine ⟨.int .i64 (min k 0 : Nat), w, ρ, ?_, r2, .one (.int _ _)⟩
              have hc0 : (Builtin.firstCells (esz + 1) 0 Y).run P w = .ok #[] w := by simpa using hcells
              simp [Builtin.copy_, run_underlying (tElem_run ht), hlen, tSize_run hs, goInt, hc0, storeCells]
        · cases he
      · cases he
    · cases he
  · rename_i k hk e1
    cases he
    rw [e1] at hx
    have hlen := srcLen_run (P := P) hk hy
    cases hx with
    | one hx =>
      cases hx
      have hc0 : (Builtin.firstCells (esz + 1) 0 Y).run P w = .ok #[] w := first0 hk hy w
      refine ⟨.int .i64 0, w, ρ, ?_, Post.refl hr, .one (.int _ _)⟩
      simp [Builtin.copy_, run_underlying (tElem_run ht), hlen, tSize_run hs, goInt, hc0]
  · cases he

theorem clear_run {t e : TypeId} {esz : Nat} {z : List SV} {X : Value} {v : AV} {σ σ' : AHeap} {w : World} {fr : List AV} {x' : AOpd} (ty : TypeId)
    (ht : tElem P t = some e) (hs : tSize P e = some (esz + 1)) (hz : tZero P e = some z) (hx : VR ρ (ev fr x') X) (hr : HR ρ σ.get w)
    (he : evOp fr σ (.clear (esz + 1) z x') = some (v, σ')) :
    ∃ u w' ρ', (Builtin.clear_ #[t] ty #[X]).run P w = .ok u w' ∧ Post ρ σ w ρ' σ' w' ∧ VR ρ' v u := by
  obtain ⟨i, v0, h1, h2, h3, h4⟩ := tZero_info hz
  obtain ⟨i', h1', hsz⟩ := tSize_info hs
  rw [h1] at h1'; cases h1'
  have hzl := (h4 ⟨fun _ => none, fun _ _ => none⟩).length
  have hv0 : v0.cells.size = esz + 1 := by rw [← hsz, ← h3, hzl]; simp
  have hzv : ∀ w2 : World, (zeroValue e).run P w2 = .ok v0 w2 := by intro w2; simp [zeroValue, typeInfo, h1, h2]
  simp only [evOp] at he
  split at he
  · rename_i e1
    cases he
    rw [e1] at hx
    cases hx with
    | one hx =>
      cases hx
      exact ⟨.tuple #[], w, ρ, by simp [Builtin.clear_, run_underlying (tElem_run ht)], Post.refl hr, VR.undef⟩
  · rename_i id off ez len cap e1
    rw [e1] at hx
    split at he
    · rename_i hez
      have hez' : ez = esz + 1 := by simpa using hez
      subst hez'
      split at he
      · rename_i hl0
        cases he
        have hl0' : len = 0 := by simpa using hl0
        subst hl0'
        cases hx with
        | one hx =>
          cases hx <;> exact ⟨.tuple #[], w, ρ, by simp [Builtin.clear_, run_underlying (tElem_run ht)], Post.refl hr, VR.undef⟩
      · rename_i hl0
        have hl0' : len ≠ 0 := by intro h; subst h; simp at hl0
        split at he
        · rename_i σ1 hw
          cases he
          cases hx with
          | one hx =>
            cases hx with
            | slice hB a1 a2 a3 a4 a5 =>
              rename_i c B
              obtain ⟨w', r1, r2⟩ := writeAt_run (P := P) hr hB hw (repeat_rel (h4 ρ) len)
              have hr2 := arr_range_rep v0.cells (esz + 1) len hv0
              have hzc : Builtin.zeroCells v0.cells len = (repV v0.cells.toList len).toArray := by
                unfold Builtin.zeroCells
                rw [hv0]
                exact hr2
              obtain ⟨m, rfl⟩ : ∃ m, len = m + 1 := ⟨len - 1, by omega⟩
              refine ⟨.tuple #[], w', ρ, ?_, r2, VR.undef⟩
              simp [Builtin.clear_, run_underlying (tElem_run ht), hzv, hzc, r1]
            | slice0 hB a2 a4 a5 => exact absurd rfl hl0'
        · cases he
    · cases he
  · cases he

/-! ### strings and bytes -/
theorem unbytes_spec : ∀ {cs : List SV} {us : List Value} {s : List UInt8}, SRs ρ cs us → unbytes cs = some s → ∃ ns : List Int, us = ns.map (Value.int .u8) ∧ s = ns.map fun n => UInt8.ofNat n.toNat
  | [], us, s, h, hu => by
    cases h
    cases hu
    exact ⟨[], rfl, rfl⟩
  | c :: cs, us, s, h, hu => by
    cases h with
    | cons h t =>
      cases c with
      | int k n =>
        cases k <;> simp only [unbytes] at hu <;> try (cases hu; done)
        split at hu
        · rename_i r hr
          cases hu
          cases h
          obtain ⟨ns, h1, h2⟩ := unbytes_spec t hr
          exact ⟨n :: ns, by rw [h1]; rfl, by rw [h2]; rfl⟩
        · cases hu
      | _ => simp [unbytes] at hu

theorem bstr_run {o : Oper} {src dst e : TypeId} {x : Operand} {x' : AOpd} {fr : List AV} {a : Act} {σ σ' : AHeap} {v : AV} {w : World}
    (ho : o.op = .convert src dst x) (hs : P.underlying src = some (.slice e)) (hd : P.underlying dst = some .string) (he8 : P.underlying e = some (.int .u8)) (hx : compOpd x = some x') (hf : FR ρ fr a.tmps) (hr : HR ρ σ.get w)
    (he : evOp fr σ (.bstr x') = some (v, σ')) : OpRes P ρ o a σ w σ' v := by
  have k1 := opd_rel hx hf
  simp only [evOp] at he
  split at he
  · rename_i k hns hk
    split at he
    · rename_i cs hcs
      split at he
      · rename_i s hsb
        cases he
        have hlen := srcLen_run (P := P) hk k1
        obtain ⟨us, q1, q2, q3⟩ := srcCells_run (P := P) hcs k1 hr
        obtain ⟨ns, rfl, rfl⟩ := unbytes_spec q1 hsb
        have hcells := q3 w rfl
        have hX : ∃ A c, a.eval x = .slice A k c := by
          unfold srcLen at hk
          split at hk
          · rename_i h; cases hk; rw [h] at k1; generalize a.eval x = X at k1; cases k1 with
            | one k1 => cases k1 <;> exact ⟨_, _, rfl⟩
          · rename_i h; cases hk; rw [h] at k1; generalize a.eval x = X at k1; cases k1 with
            | one k1 => cases k1 <;> exact ⟨_, _, rfl⟩
          · rename_i h; rw [h] at hns; cases hns
          · rename_i h; cases hk; rw [h] at k1; generalize a.eval x = X at k1; cases k1 with
            | one k1 => cases k1 <;> exact ⟨_, _, rfl⟩
          · rename_i h; cases hk; rw [h] at k1; generalize a.eval x = X at k1; cases k1 with
            | one k1 => cases k1 <;> exact ⟨_, _, rfl⟩
          · cases hk
        obtain ⟨A, c, hX⟩ := hX
        rw [hX] at hcells
        refine ⟨_, .string ⟨(ns.map fun n => UInt8.ofNat n.toNat).toArray⟩, w, ρ, ?_, .inl rfl, Post.refl hr, .one (.str _)⟩
        have hconv : (convert src dst (a.eval x)).run P w = .ok (.string ⟨(ns.map fun n => UInt8.ofNat n.toNat).toArray⟩) w := by
          rw [hX]
          cases A with
          | none =>
            have h0 : ns = [] := by
              have : (#[] : Array Value) = (ns.map (Value.int .u8)).toArray := by
                have h := hcells
                simp only [Builtin.firstCells, Sem.run_pure, Result.ok.injEq] at h
                exact h.1
              have h2 := congrArg Array.size this
              simp at h2
              exact List.eq_nil_of_length_eq_zero h2.symm
            subst h0
            exact run_convert_bytes_nil w src e hs he8 k c dst hd
          | some A =>
            rw [run_convert_bytes_string w src dst e _ k c hs he8 hd]
            have hl : (loadCells A k).run P w = .ok (ns.map (Value.int .u8)).toArray w := by simpa [Builtin.firstCells] using hcells
            rw [run_bytesToString w A k c ns hl, foldl_push_bytes]
            simp [ByteArray.empty, ByteArray.emptyWithCapacity]
            rfl
        simp [execOp, ho, hconv]
      · cases he
    · cases he
  · cases he

theorem freeze_alloc (w : World) (arr : Array Value) (e : TypeId) (n : Nat) : (w.alloc (.cells arr e)).freeze ⟨w.heap.size, n, none⟩ 1 = w.alloc (.cells arr e (n, n + 1)) := by
  unfold World.freeze
  rw [if_neg (by omega)]
  unfold World.alloc
  simp only [World.mk.injEq, and_true, true_and]
  apply Array.ext (by simp)
  intro i h1 h2
  simp only [Array.getElem_modify, Array.getElem_push]
  by_cases hi : i = w.heap.size
  · subst hi; simp
  · have h3 : i < w.heap.size := by simp at h1; omega
    have h4 : ¬ w.heap.size = i := fun e => hi e.symm
    simp [h3, h4]

theorem sbytes_run {o : Oper} {src dst e : TypeId} {x : Operand} {x' : AOpd} {fr : List AV} {a : Act} {σ σ' : AHeap} {v : AV} {w : World}
    (ho : o.op = .convert src dst x) (hs : P.underlying src = some .string) (hd : P.underlying dst = some (.slice e)) (he8 : P.underlying e = some (.int .u8)) (hx : compOpd x = some x') (hf : FR ρ fr a.tmps) (hr : HR ρ σ.get w)
    (he : evOp fr σ (.sbytes x') = some (v, σ')) : OpRes P ρ o a σ w σ' v := by
  have k1 := opd_rel hx hf
  simp only [evOp] at he
  split at he
  · rename_i s e1
    cases he
    rw [e1] at k1
    cases k1 with
    | one k1 =>
      generalize hu' : a.eval x = u at k1
      cases k1
      have hge := grownCap_ge w s.length 0 e
      obtain ⟨arr, harr⟩ : ∃ arr, arr = (s.map (fun b => Value.int .u8 b.toNat) ++ List.replicate (grownCap w s.length 0 e - s.length) (Value.int .u8 0)).toArray := ⟨_, rfl⟩
      have hasz : arr.size = grownCap w s.length 0 e := by rw [harr]; simp; omega
      have hp := Post.alloc (t := e) (fz := (arr.size, arr.size + 1)) (hr.of_heap (w' := w.drew) rfl) (bytes_cells (ρ := ρ) s) (extra := List.replicate (grownCap w s.length 0 e - s.length) (Value.int .u8 0)) harr (fun o ho => by simp only; omega)
      refine ⟨_, .slice (some ⟨w.heap.size, 0, none⟩) s.length (grownCap w s.length 0 e), _, _, ?_, .inl rfl, (Post.of_heap hr (w' := w.drew) rfl rfl rfl rfl).trans hp, .one ?_⟩
      · have hsz : (ByteArray.mk s.toArray).size = s.length := by simp [ByteArray.size]
        have hfz := freeze_alloc w.drew arr e arr.size
        have hsh : (w.drew.alloc (.cells arr e)).shape? w.heap.size = some (e, arr.size) := by
          have : (w.drew.alloc (.cells arr e)).heap[w.heap.size]? = some (.cells arr e) := by
            show (w.heap.push _)[w.heap.size]? = _
            simp
          simp only [World.shape?, this]
        have hcl : (s.map (fun b => Value.int .u8 b.toNat)).toArray ++ Array.replicate (grownCap w s.length 0 e - s.length) (Value.int .u8 0) = arr := by
          rw [harr]
          apply Array.ext'
          simp
        have hdw : (w.drew).heap.size = w.heap.size := rfl
        simp only [execOp, ho, convert, Sem.run_bind, run_underlying hs, run_underlying hd, Result.andThen_ok, hu', run_underlying he8, Conv.stringToBytes]
        simp only [Sem.run_pure, Sem.run_bind, run_choose, Question.forced, Bool.false_eq_true, if_false, Result.andThen_ok, hsz]
        have hg : (Question.appendCap s.length 0 e).cut (w.tape w.drawn (.appendCap s.length 0 e)) = grownCap w s.length 0 e := rfl
        have hmap : (ByteArray.mk s.toArray).data.map (fun b => Value.int .u8 b.toNat) = (s.map fun b => Value.int .u8 b.toNat).toArray := by
          apply Array.ext'
          simp
        rw [hg, hmap, hcl]
        have hrow : (newRow e arr).run P { heap := w.heap, tape := w.tape, drawn := w.drawn + 1, os := w.os, output := w.output } = .ok ⟨w.heap.size, 0, none⟩ (w.drew.alloc (.cells arr e)) := rfl
        have hmark : (markStringish ⟨w.heap.size, 0, none⟩).run P (w.drew.alloc (.cells arr e)) = .ok () (w.drew.alloc (.cells arr e (arr.size, arr.size + 1))) := by
          simp only [markStringish, Sem.run_bind, run_shape, hsh, Result.andThen_ok, run_freeze]
          rw [← hfz, hdw]
        simp only [hrow, Result.andThen_ok, hmark]
      · have hB : (ρ.upd σ.size ⟨w.drew.heap.size, 0, arr.size, (s.map byteCell).length⟩) σ.size = some ⟨w.drew.heap.size, 0, arr.size, (s.map byteCell).length⟩ := by rw [Loc.upd_at, if_pos rfl]
        exact .slice hB hge (by simp) (by simp only; omega) (by omega) (.inr ⟨rfl, by simp; omega⟩)
  · cases he

end
end Go.Proofs.YtkolhfpofmpijaaDoor.Ab
