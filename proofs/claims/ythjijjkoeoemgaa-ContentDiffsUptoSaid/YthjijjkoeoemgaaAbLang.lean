/- The abstract machine: values, heap, operations with their sizes resolved, and an evaluator that asks no tape: no order, no capacity. -/
import Derived.Calls
import Derived.Orders
import Derived.KernelRfl
import Derived.Laws.Cells
import Derived.Laws.CopyRow
import Derived.Laws.AppendOwn
namespace Go.Proofs.Ythjijjkoeoemgaa.Ab
open Go

/-- One cell's value. -/
inductive SV where
  | bool (b : Bool)
  | int (k : IntKind) (n : Int)
  | str (s : List UInt8)
  | ptr (id off : Nat)
  | nilPtr
  | slice (id off esz len : Nat) (cap : Option Nat)
  | nilSlice
  | func (f : Nat) (caps : List SV)
  | nilFunc
  | iface (t : Nat) (agg : Bool) (cells : List SV)
  | nilIface

inductive AV where
  | one (s : SV)
  | agg (cells : List SV)
  | tup (vs : List AV)

def AV.cells : AV → List SV
  | .one s => [s]
  | .agg cs => cs
  | .tup _ => []

/-- own: written by whoever holds it; ro: read alone; dead: its memory may have been taken by an append. -/
inductive Md where
  | own | ro | dead

structure AObj where
  cells : List SV
  md : Md

/-! ### a finite map from numbers, that the kernel reduces fast -/
inductive PT (α : Type) where
  | leaf
  | node (l : PT α) (v : Option α) (r : PT α)

def PT.get {α : Type} : PT α → Nat → Option α
  | .leaf, _ => none
  | .node l v r, n => match n with
    | 0 => v
    | n + 1 => match Nat.beq (n % 2) 0 with
      | true => l.get (n / 2)
      | false => r.get (n / 2)

def PT.setF {α : Type} : Nat → PT α → Nat → α → PT α
  | 0, t, _, _ => t
  | f + 1, t, n, a =>
    match t with
    | .leaf => match n with
      | 0 => .node .leaf (some a) .leaf
      | n + 1 => match Nat.beq (n % 2) 0 with
        | true => .node (PT.setF f .leaf (n / 2) a) none .leaf
        | false => .node .leaf none (PT.setF f .leaf (n / 2) a)
    | .node l v r => match n with
      | 0 => .node l (some a) r
      | n + 1 => match Nat.beq (n % 2) 0 with
        | true => .node (PT.setF f l (n / 2) a) v r
        | false => .node l v (PT.setF f r (n / 2) a)

def PT.set {α : Type} (t : PT α) (n : Nat) (a : α) : PT α := PT.setF (n + 1) t n a

theorem PT.get_leaf {α : Type} (n : Nat) : (PT.leaf : PT α).get n = none := rfl

theorem PT.get_setF {α : Type} (a : α) : ∀ (f : Nat) (t : PT α) (n m : Nat), n < f → (PT.setF f t n a).get m = if m = n then some a else t.get m := by
  intro f
  induction f with
  | zero => intro t n m h; omega
  | succ f ih =>
    intro t n m h
    cases t with
    | leaf =>
      cases n with
      | zero =>
        cases m with
        | zero => simp [PT.setF, PT.get]
        | succ m => cases hb : Nat.beq (m % 2) 0 <;> simp [PT.setF, PT.get, hb]
      | succ n =>
        have hn : n / 2 < f := by omega
        cases hbn : Nat.beq (n % 2) 0
        · cases m with
          | zero => simp [PT.setF, PT.get, hbn]
          | succ m =>
            cases hbm : Nat.beq (m % 2) 0
            · simp only [PT.setF, hbn, PT.get, hbm, ih _ _ _ hn]
              have h1 : n % 2 ≠ 0 := fun e => by simp [e] at hbn
              have h2 : m % 2 ≠ 0 := fun e => by simp [e] at hbm
              by_cases e : m / 2 = n / 2
              · rw [if_pos e, if_pos (by omega)]
              · rw [if_neg e, if_neg (by omega)]
            · have h1 : n % 2 ≠ 0 := fun e => by simp [e] at hbn
              have h2 : m % 2 = 0 := by simpa using hbm
              simp only [PT.setF, hbn, PT.get, hbm]
              rw [if_neg (by omega)]
        · cases m with
          | zero => simp [PT.setF, PT.get, hbn]
          | succ m =>
            cases hbm : Nat.beq (m % 2) 0
            · have h1 : n % 2 = 0 := by simpa using hbn
              have h2 : m % 2 ≠ 0 := fun e => by simp [e] at hbm
              simp only [PT.setF, hbn, PT.get, hbm]
              rw [if_neg (by omega)]
            · simp only [PT.setF, hbn, PT.get, hbm, ih _ _ _ hn]
              have h1 : n % 2 = 0 := by simpa using hbn
              have h2 : m % 2 = 0 := by simpa using hbm
              by_cases e : m / 2 = n / 2
              · rw [if_pos e, if_pos (by omega)]
              · rw [if_neg e, if_neg (by omega)]
    | node l v r =>
      cases n with
      | zero =>
        cases m with
        | zero => simp [PT.setF, PT.get]
        | succ m => cases hb : Nat.beq (m % 2) 0 <;> simp [PT.setF, PT.get, hb]
      | succ n =>
        have hn : n / 2 < f := by omega
        cases hbn : Nat.beq (n % 2) 0
        · cases m with
          | zero => simp [PT.setF, PT.get, hbn]
          | succ m =>
            cases hbm : Nat.beq (m % 2) 0
            · simp only [PT.setF, hbn, PT.get, hbm, ih _ _ _ hn]
              have h1 : n % 2 ≠ 0 := fun e => by simp [e] at hbn
              have h2 : m % 2 ≠ 0 := fun e => by simp [e] at hbm
              by_cases e : m / 2 = n / 2
              · rw [if_pos e, if_pos (by omega)]
              · rw [if_neg e, if_neg (by omega)]
            · have h1 : n % 2 ≠ 0 := fun e => by simp [e] at hbn
              have h2 : m % 2 = 0 := by simpa using hbm
              simp only [PT.setF, hbn, PT.get, hbm]
              rw [if_neg (by omega)]
        · cases m with
          | zero => simp [PT.setF, PT.get, hbn]
          | succ m =>
            cases hbm : Nat.beq (m % 2) 0
            · have h1 : n % 2 = 0 := by simpa using hbn
              have h2 : m % 2 ≠ 0 := fun e => by simp [e] at hbm
              simp only [PT.setF, hbn, PT.get, hbm]
              rw [if_neg (by omega)]
            · simp only [PT.setF, hbn, PT.get, hbm, ih _ _ _ hn]
              have h1 : n % 2 = 0 := by simpa using hbn
              have h2 : m % 2 = 0 := by simpa using hbm
              by_cases e : m / 2 = n / 2
              · rw [if_pos e, if_pos (by omega)]
              · rw [if_neg e, if_neg (by omega)]

theorem PT.get_set {α : Type} (t : PT α) (n m : Nat) (a : α) : (t.set n a).get m = if m = n then some a else t.get m :=
  PT.get_setF a (n + 1) t n m (by omega)

/-! ### the heap -/
structure AHeap where
  size : Nat
  mem : PT AObj

def AHeap.get (σ : AHeap) (id : Nat) : Option AObj := match Nat.blt id σ.size with
  | true => σ.mem.get id
  | false => none

def AHeap.alloc (σ : AHeap) (o : AObj) : AHeap := ⟨σ.size + 1, σ.mem.set σ.size o⟩

def AHeap.put (σ : AHeap) (id : Nat) (o : AObj) : AHeap := ⟨σ.size, σ.mem.set id o⟩

theorem AHeap.get_lt {σ : AHeap} {id : Nat} {o : AObj} (h : σ.get id = some o) : id < σ.size := by
  unfold AHeap.get at h
  cases hb : Nat.blt id σ.size with
  | false => rw [hb] at h; simp at h
  | true => simpa [Nat.blt_eq] using hb

theorem AHeap.get_ge {σ : AHeap} {id : Nat} (h : σ.size ≤ id) : σ.get id = none := by
  cases hg : σ.get id with
  | none => rfl
  | some o => exact absurd (AHeap.get_lt hg) (by omega)

theorem AHeap.get_alloc (σ : AHeap) (o : AObj) (id : Nat) : (σ.alloc o).get id = if id = σ.size then some o else σ.get id := by
  unfold AHeap.get AHeap.alloc
  simp only [PT.get_set]
  by_cases h1 : id < σ.size
  · have : Nat.blt id σ.size = true := by simpa [Nat.blt_eq] using h1
    have h2 : Nat.blt id (σ.size + 1) = true := by simp [Nat.blt_eq]; omega
    simp [this, h2]
  · by_cases h2 : id = σ.size
    · subst h2
      have : Nat.blt σ.size (σ.size + 1) = true := by simp [Nat.blt_eq]
      simp [this]
    · have h3 : Nat.blt id σ.size = false := by
        cases hb : Nat.blt id σ.size with
        | false => rfl
        | true => exact absurd (by simpa [Nat.blt_eq] using hb) h1
      have h4 : Nat.blt id (σ.size + 1) = false := by
        cases hb : Nat.blt id (σ.size + 1) with
        | false => rfl
        | true => have : id < σ.size + 1 := by simpa [Nat.blt_eq] using hb
                  omega
      simp [h3, h4, h2]

theorem AHeap.get_put (σ : AHeap) (o : AObj) (i id : Nat) (h : i < σ.size) : (σ.put i o).get id = if id = i then some o else σ.get id := by
  unfold AHeap.get AHeap.put
  simp only [PT.get_set]
  cases hb : Nat.blt id σ.size with
  | true => rfl
  | false =>
    by_cases e : id = i
    · subst e
      have : Nat.blt id σ.size = true := by simpa [Nat.blt_eq] using h
      rw [this] at hb; cases hb
    · simp [e]

theorem AHeap.size_alloc (σ : AHeap) (o : AObj) : (σ.alloc o).size = σ.size + 1 := rfl
theorem AHeap.size_put (σ : AHeap) (i : Nat) (o : AObj) : (σ.put i o).size = σ.size := rfl

/-! ### the operations -/
inductive AOpd where
  | tmp (t : Nat)
  | const (v : AV)

/-- At what kind of type a '==' is asked. -/
inductive EK where
  | bool | int | str | ptr | slice | func

inductive AOp where
  | mov (x : AOpd)
  | pick (c a b : AOpd)
  | new (cells : List SV)
  | box (x : AOpd)
  | load (agg : Option Nat) (x : AOpd)
  | store (n : Nat) (a x : AOpd)
  | nilck (x : AOpd)
  | bin (op : BinOp) (x y : AOpd)
  | eqv (neg : Bool) (k : EK) (x y : AOpd)
  | eqvS (neg : Bool) (n : Nat) (offs : List (Nat × EK)) (x y : AOpd)
  | un (op : UnOp) (x : AOpd)
  | conv (k : IntKind) (x : AOpd)
  | build (zero : List SV) (parts : List (Nat × Nat × AOpd))
  | bslice (esz : Nat) (len : Nat) (zero : List SV) (parts : List (Nat × Nat × AOpd))
  | mkfn (f : Nat) (caps : List AOpd)
  | mkslice (esz bytes : Nat) (zero : List SV) (len cap : AOpd)
  | slice (esz : Nat) (x : AOpd) (lo hi mx : Option AOpd)
  | slstr (x : AOpd) (lo hi : Option AOpd)
  | slarr (n esz : Nat) (x : AOpd) (lo hi : Option AOpd)
  | faddr (off : Nat) (x : AOpd)
  | field (off : Nat) (agg : Option Nat) (x : AOpd)
  | iaddr (esz : Nat) (x i : AOpd)
  | iaddrA (n esz : Nat) (x i : AOpd)
  | idxS (x i : AOpd)
  | idxA (n esz : Nat) (agg : Bool) (x i : AOpd)
  | extract (x : AOpd) (i : Nat)
  | len (x : AOpd)
  | lenS (x : AOpd)
  | cap (x : AOpd)
  | append (esz bytes : Nat) (zero : List SV) (x y : AOpd)
  | appendZ (esz bytes : Nat) (zero : List SV) (x n : AOpd)
  | copy (esz : Nat) (x y : AOpd)
  | minmax (isMax : Bool) (x : AOpd) (rest : List AOpd)
  | clear (esz : Nat) (zero : List SV) (x : AOpd)
  | call (f : AOpd) (args : List AOpd)

structure AOper where
  dst : Option Nat
  op : AOp
  guard : Option (Nat × Bool)

inductive ACode where
  | skip
  | region (ops : List AOper)
  | draw (ops : List AOper) (pairs : List (Nat × Nat))
  | seq (a b : ACode)
  | cond (c : AOpd) (thn els : ACode)
  | block (id : Nat) (body : ACode)
  | loop (body : ACode)
  | exit (id : Nat)
  | ret

/-- Where a result lies: a slot, or the cell to which a slot points. -/
inductive AResult where
  | tmp (t : Nat)
  | cell (t : Nat) (agg : Option Nat)

structure AFunc where
  ntmps : Nat
  results : List AResult
  body : ACode

/-! ### the evaluator -/
def undefA : AV := .tup []

def getSlot : List AV → Nat → AV
  | [], _ => undefA
  | v :: _, 0 => v
  | _ :: l, n + 1 => getSlot l n

def setSlot : List AV → Nat → AV → List AV
  | [], _, _ => []
  | _ :: l, 0, x => x :: l
  | v :: l, n + 1, x => v :: setSlot l n x

def putDst (fr : List AV) (d : Option Nat) (v : AV) : List AV := match d with
  | some d => setSlot fr d v
  | none => fr

def ev (fr : List AV) : AOpd → AV
  | .tmp t => getSlot fr t
  | .const v => v

def evs (fr : List AV) : List AOpd → List AV
  | [] => []
  | x :: l => ev fr x :: evs fr l

/-- The number within its kind, without a division where it is one already. -/
def wr (k : IntKind) (n : Int) : Int := match k with
  | .i64 => if -9223372036854775808 ≤ n ∧ n ≤ 9223372036854775807 then n else IntKind.i64.wrap n
  | .u64 => if 0 ≤ n ∧ n ≤ 18446744073709551615 then n else IntKind.u64.wrap n
  | .u8 => if 0 ≤ n ∧ n ≤ 255 then n else IntKind.u8.wrap n
  | .i32 => if -2147483648 ≤ n ∧ n ≤ 2147483647 then n else IntKind.i32.wrap n
  | .u32 => if 0 ≤ n ∧ n ≤ 4294967295 then n else IntKind.u32.wrap n
  | k => k.wrap n

def bits2 (k : IntKind) : Int := match k with
  | .i8 | .u8 => 256
  | .i16 | .u16 => 65536
  | .i32 | .u32 => 4294967296
  | .i64 | .u64 => 18446744073709551616

def ibits (op : BinOp) (k : IntKind) (x y : Int) : Option SV :=
  let a := (x % bits2 k).toNat
  let b := (y % bits2 k).toNat
  match op with
  | .and => some (.int k (wr k (Nat.land a b)))
  | .or => some (.int k (wr k (Nat.lor a b)))
  | .xor => some (.int k (wr k (Nat.xor a b)))
  | _ => none

def ibin (op : BinOp) (k : IntKind) (a b : Int) : Option SV :=
  match op with
  | .add => some (.int k (wr k (a + b)))
  | .sub => some (.int k (wr k (a - b)))
  | .mul => some (.int k (wr k (a * b)))
  | .quo => if b = 0 then none else some (.int k (wr k (a.tdiv b)))
  | .rem => if b = 0 then none else some (.int k (a.tmod b))
  | .and | .or | .xor => ibits op k a b
  | .eql => some (.bool (decide (a = b)))
  | .neq => some (.bool (!decide (a = b)))
  | .lss => some (.bool (decide (a < b)))
  | .leq => some (.bool (decide (a ≤ b)))
  | .gtr => some (.bool (decide (b < a)))
  | .geq => some (.bool (decide (b ≤ a)))
  | _ => none

def shiftBin (op : BinOp) (k : IntKind) (a y : Int) : Option SV :=
  if y < 0 then none else
  let n := min y.toNat k.bits
  match op with
  | .shl => some (.int k (wr k (a * (Nat.pow 2 n : Nat))))
  | .shr => some (.int k (a.fdiv (Nat.pow 2 n : Nat)))
  | _ => none

def beqL : List UInt8 → List UInt8 → Bool
  | [], [] => true
  | a :: x, b :: y => match Nat.beq a.toNat b.toNat with
    | true => beqL x y
    | false => false
  | _, _ => false

def ltL : List UInt8 → List UInt8 → Bool
  | _, [] => false
  | [], _ :: _ => true
  | a :: x, b :: y => match Nat.blt a.toNat b.toNat with
    | true => true
    | false => match Nat.beq a.toNat b.toNat with
      | true => ltL x y
      | false => false

def maxStr : Nat := 1099511627776

def sbin (op : BinOp) (a b : List UInt8) : Option SV :=
  match op with
  | .add => match Nat.ble (a.length + b.length) maxStr with
    | true => some (.str (a ++ b))
    | false => none
  | .eql => some (.bool (beqL a b))
  | .neq => some (.bool (!beqL a b))
  | .lss => some (.bool (ltL a b))
  | .leq => some (.bool (ltL a b || beqL a b))
  | .gtr => some (.bool (!(ltL a b || beqL a b)))
  | .geq => some (.bool (!ltL a b))
  | _ => none

def evBin (op : BinOp) (x y : AV) : Option SV :=
  match x, y with
  | .one (.int k a), .one (.int k' b) =>
    match op with
    | .shl | .shr => shiftBin op k a b
    | _ => match decide (k = k') with
      | true => ibin op k a b
      | false => none
  | .one (.str a), .one (.str b) => sbin op a b
  | _, _ => none

/-- '==' of one cell with one; 'none' where it is not told here. -/
def eqS : EK → SV → SV → Option Bool
  | .bool, .bool a, .bool b => some (a == b)
  | .int, .int k a, .int k' b => match decide (k = k') with
    | true => some (decide (a = b))
    | false => none
  | .str, .str a, .str b => some (beqL a b)
  | .ptr, .nilPtr, .nilPtr => some true
  | .ptr, .nilPtr, .ptr _ _ => some false
  | .ptr, .ptr _ _, .nilPtr => some false
  | .slice, .nilSlice, .nilSlice => some true
  | .slice, .nilSlice, .slice .. => some false
  | .slice, .slice .., .nilSlice => some false
  | .func, .nilFunc, .nilFunc => some true
  | .func, .nilFunc, .func _ _ => some false
  | .func, .func _ _, .nilFunc => some false
  | _, _, _ => none

def eqOffs (xs ys : List SV) : List (Nat × EK) → Option Bool
  | [] => some true
  | (o, k) :: l => match xs[o]?, ys[o]? with
    | some a, some b => match eqS k a b with
      | some true => eqOffs xs ys l
      | some false => some false
      | none => none
    | _, _ => none

def evEq (k : EK) (x y : AV) : Option Bool :=
  match x, y with
  | .one a, .one b => eqS k a b
  | _, _ => none

def evEqS (n : Nat) (offs : List (Nat × EK)) (x y : AV) : Option Bool :=
  match x, y with
  | .agg xs, .agg ys => match Nat.beq xs.length n && Nat.beq ys.length n with
    | true => eqOffs xs ys offs
    | false => none
  | _, _ => none

def evUn (op : UnOp) (x : AV) : Option SV :=
  match op, x with
  | .not, .one (.bool b) => some (.bool (!b))
  | .neg, .one (.int k n) => some (.int k (wr k (0 - n)))
  | .xor, .one (.int k n) => ibits .xor k (if k.signed then -1 else k.max) n
  | _, _ => none

/-- A row of cells with some in the place of others. -/
def splice (cs : List SV) (off : Nat) (vs : List SV) : List SV := cs.take off ++ vs ++ cs.drop (off + vs.length)

def fillA (fr : List AV) (cells : List SV) : List (Nat × Nat × AOpd) → Option (List SV)
  | [] => some cells
  | (off, size, x) :: rest => match ev fr x with
    | .tup _ => none
    | v => match Nat.beq v.cells.length size && Nat.ble (off + size) cells.length with
      | true => fillA fr (splice cells off v.cells) rest
      | false => none

def evFns (fr : List AV) : List AOpd → Option (List SV)
  | [] => some []
  | x :: l => match ev fr x, evFns fr l with
    | .one s, some r => some (s :: r)
    | _, _ => none

def asNat (x : AV) : Option Nat := match x with
  | .one (.int _ n) => if 0 ≤ n then some n.toNat else none
  | _ => none

def optNat (fr : List AV) (x : Option AOpd) (d : Nat) : Option Nat := match x with
  | none => some d
  | some x => asNat (ev fr x)

def repeatCells (zero : List SV) : Nat → List SV
  | 0 => []
  | n + 1 => zero ++ repeatCells zero n

/-- What a slice or a string gives to append and copy: its cells (k elements of them). -/
def srcLen : AV → Option Nat
  | .one (.slice _ _ _ len _) => some len
  | .one .nilSlice => some 0
  | .one (.str s) => some s.length
  | _ => none

def byteCell (b : UInt8) : SV := .int .u8 b.toNat

def srcCells (σ : AHeap) (esz k : Nat) : AV → Option (List SV)
  | .one (.slice id off e len _) => match Nat.beq e esz && Nat.ble k len, σ.get id with
    | true, some ⟨cs, .own⟩ | true, some ⟨cs, .ro⟩ => match Nat.ble (off + k * esz) cs.length with
      | true => some ((cs.drop off).take (k * esz))
      | false => none
    | _, _ => none
  | .one .nilSlice => match Nat.beq k 0 with
    | true => some []
    | false => none
  | .one (.str s) => match Nat.beq esz 1 && Nat.ble k s.length with
    | true => some ((s.take k).map byteCell)
    | false => none
  | _ => none

def writeAt (σ : AHeap) (id off : Nat) (vs : List SV) : Option AHeap :=
  match σ.get id with
  | some ⟨cs, .own⟩ => match Nat.ble (off + vs.length) cs.length with
    | true => some (σ.put id ⟨splice cs off vs, .own⟩)
    | false => none
  | _ => none

def maxElems : Nat := 4294967296
def maxBytes : Nat := 4096

/-- append of the cells vs (k + 1 elements) to x. -/
def appendK (σ : AHeap) (esz bytes : Nat) (x : AV) (k : Nat) (vs : List SV) : Option (AV × AHeap) :=
  match x with
  | .one .nilSlice => match Nat.ble k maxElems && Nat.ble bytes maxBytes with
    | true => some (.one (.slice σ.size 0 esz k none), σ.alloc ⟨vs, .own⟩)
    | false => none
  | .one (.slice id off e len cap) =>
    match Nat.beq e esz && Nat.ble (len + k) maxElems && Nat.ble bytes maxBytes, σ.get id with
    | true, some ⟨cs, md⟩ =>
      match cap with
      | some c => match Nat.ble (len + k) c with
        | true => match writeAt σ id (off + len * esz) vs with
          | some σ' => some (.one (.slice id off esz (len + k) (some c)), σ')
          | none => none
        | false => match md with
          | .dead => none
          | _ => match Nat.ble (off + len * esz) cs.length with
            | true => some (.one (.slice σ.size 0 esz (len + k) none), σ.alloc ⟨(cs.drop off).take (len * esz) ++ vs, .own⟩)
            | false => none
      | none => match Nat.ble (off + (len + k) * esz) cs.length with
        | true => match writeAt σ id (off + len * esz) vs with
          | some σ' => some (.one (.slice id off esz (len + k) none), σ')
          | none => none
        | false => match Nat.beq (off + len * esz) cs.length, md with
          | true, .own => some (.one (.slice σ.size 0 esz (len + k) none), (σ.put id ⟨cs, .dead⟩).alloc ⟨cs.drop off ++ vs, .own⟩)
          | _, _ => none
    | _, _ => none
  | _ => none

/-- append of the cells vs (k elements) to x: none of them: x as it is. -/
def appendA (σ : AHeap) (esz bytes : Nat) (x : AV) (k : Nat) (vs : List SV) : Option (AV × AHeap) :=
  match k with
  | 0 => match x with
    | .one .nilSlice => some (x, σ)
    | .one (.slice ..) => some (x, σ)
    | _ => none
  | k + 1 => appendK σ esz bytes x (k + 1) vs

def partA (cs : List SV) (agg : Option Nat) (off : Nat) : Option AV :=
  match agg with
  | none => match cs[off]? with
    | some s => some (.one s)
    | none => none
  | some n => match Nat.ble (off + n) cs.length with
    | true => some (.agg ((cs.drop off).take n))
    | false => none

def loadA (σ : AHeap) (agg : Option Nat) (id off : Nat) : Option AV :=
  match σ.get id with
  | some ⟨cs, .own⟩ | some ⟨cs, .ro⟩ => partA cs agg off
  | _ => none

def mm (isMax : Bool) (x y : Int) : Int := match isMax with
  | true => if x < y then y else x
  | false => if y < x then y else x

def mms (isMax : Bool) (k : IntKind) (x : Int) : List AV → Option SV
  | [] => some (.int k x)
  | .one (.int _ y) :: l => mms isMax k (mm isMax x y) l
  | _ => none

/-- Where a slice begins that is cut at l out of one of capacity m: at its end it stays where it was. -/
def atCut (m l off esz : Nat) : Nat := match Nat.beq m l with
  | true => off
  | false => off + l * esz

def pure1 (σ : AHeap) (r : Option SV) : Option (AV × AHeap) := match r with
  | some s => some (.one s, σ)
  | none => none

def evOp (fr : List AV) (σ : AHeap) : AOp → Option (AV × AHeap)
  | .mov x => some (ev fr x, σ)
  | .pick c a b => match ev fr c with
    | .one (.bool true) => some (ev fr a, σ)
    | .one (.bool false) => some (ev fr b, σ)
    | _ => none
  | .new cells => some (.one (.ptr σ.size 0), σ.alloc ⟨cells, .own⟩)
  | .box x => match ev fr x with
    | .tup _ => none
    | v => some (.one (.ptr σ.size 0), σ.alloc ⟨v.cells, .own⟩)
  | .load agg x => match ev fr x with
    | .one (.ptr id off) => match loadA σ agg id off with
      | some v => some (v, σ)
      | none => none
    | _ => none
  | .store n a x => match ev fr a, ev fr x with
    | _, .tup _ => none
    | .one (.ptr id off), v => match Nat.beq v.cells.length n with
      | true => match writeAt σ id off v.cells with
        | some σ' => some (undefA, σ')
        | none => none
      | false => none
    | _, _ => none
  | .nilck x => match ev fr x with
    | .one (.ptr id off) => some (.one (.ptr id off), σ)
    | .one (.func f caps) => some (.one (.func f caps), σ)
    | _ => none
  | .bin op x y => pure1 σ (evBin op (ev fr x) (ev fr y))
  | .eqv neg k x y => match evEq k (ev fr x) (ev fr y) with
    | some b => some (.one (.bool (if neg then !b else b)), σ)
    | none => none
  | .eqvS neg n offs x y => match evEqS n offs (ev fr x) (ev fr y) with
    | some b => some (.one (.bool (if neg then !b else b)), σ)
    | none => none
  | .un op x => pure1 σ (evUn op (ev fr x))
  | .conv k x => match ev fr x with
    | .one (.int _ n) => some (.one (.int k (wr k n)), σ)
    | _ => none
  | .build zero parts => match fillA fr zero parts with
    | some cs => some (.agg cs, σ)
    | none => none
  | .bslice esz len zero parts => match fillA fr (repeatCells zero len) parts with
    | some cs => some (.one (.slice σ.size 0 esz len (some len)), σ.alloc ⟨cs, .own⟩)
    | none => none
  | .mkfn f caps => match evFns fr caps with
    | some cs => some (.one (.func f cs), σ)
    | none => none
  | .mkslice esz bytes zero l c => match asNat (ev fr l), asNat (ev fr c) with
    | some l, some c => match Nat.ble l c && Nat.ble c maxElems && Nat.ble bytes maxBytes with
      | true => some (.one (.slice σ.size 0 esz l (some c)), σ.alloc ⟨repeatCells zero c, .own⟩)
      | false => none
    | _, _ => none
  | .slice esz x lo hi mx => match ev fr x with
    | .one .nilSlice => match optNat fr lo 0, optNat fr hi 0, optNat fr mx 0 with
      | some 0, some 0, some 0 => some (.one .nilSlice, σ)
      | _, _, _ => none
    | .one (.slice id off e len cap) => match Nat.beq e esz, σ.get id with
      | true, some o => match optNat fr lo 0, optNat fr hi len with
        | some l, some h =>
          match Nat.ble l h && Nat.ble (off + h * esz) o.cells.length with
          | true => match mx with
            | none => match cap with
              | some c => match Nat.ble h c with
                | true => some (.one (.slice id (atCut c l off esz) esz (h - l) (some (c - l))), σ)
                | false => none
              | none => some (.one (.slice id (off + l * esz) esz (h - l) none), σ)
            | some mx => match asNat (ev fr mx) with
              | some m => match Nat.ble h m && (match cap with
                  | some c => Nat.ble m c
                  | none => Nat.ble (off + m * esz) o.cells.length) with
                | true => some (.one (.slice id (atCut m l off esz) esz (h - l) (some (m - l))), σ)
                | false => none
              | none => none
          | false => none
        | _, _ => none
      | _, _ => none
    | _ => none
  | .slstr x lo hi => match ev fr x with
    | .one (.str s) => match optNat fr lo 0, optNat fr hi s.length with
      | some l, some h => match Nat.ble l h && Nat.ble h s.length with
        | true => some (.one (.str ((s.drop l).take (h - l))), σ)
        | false => none
      | _, _ => none
    | _ => none
  | .slarr n esz x lo hi => match ev fr x with
    | .one (.ptr id off) => match optNat fr lo 0, optNat fr hi n, σ.get id with
      | some l, some h, some o => match Nat.ble l h && Nat.ble h n && Nat.ble (off + n * esz) o.cells.length with
        | true => some (.one (.slice id (atCut n l off esz) esz (h - l) (some (n - l))), σ)
        | false => none
      | _, _, _ => none
    | _ => none
  | .faddr off x => match ev fr x with
    | .one (.ptr id o) => some (.one (.ptr id (o + off)), σ)
    | _ => none
  | .field off agg x => match ev fr x with
    | .agg cs => match partA cs agg off with
      | some v => some (v, σ)
      | none => none
    | _ => none
  | .iaddr esz x i => match ev fr x, asNat (ev fr i) with
    | .one (.slice id off e len _), some i => match Nat.beq e esz && Nat.blt i len with
      | true => some (.one (.ptr id (off + i * esz)), σ)
      | false => none
    | _, _ => none
  | .iaddrA n esz x i => match ev fr x, asNat (ev fr i) with
    | .one (.ptr id off), some i => match Nat.blt i n with
      | true => some (.one (.ptr id (off + i * esz)), σ)
      | false => none
    | _, _ => none
  | .idxS x i => match ev fr x, asNat (ev fr i) with
    | .one (.str s), some i => match s[i]? with
      | some b => some (.one (.int .u8 b.toNat), σ)
      | none => none
    | _, _ => none
  | .idxA n esz agg x i => match ev fr x, asNat (ev fr i) with
    | .agg cs, some i => match Nat.blt i n with
      | true => match partA cs (if agg then some esz else none) (i * esz) with
        | some v => some (v, σ)
        | none => none
      | false => none
    | _, _ => none
  | .extract x i => match ev fr x with
    | .tup vs => match vs[i]? with
      | some v => some (v, σ)
      | none => none
    | _ => none
  | .len x => match ev fr x with
    | .one (.slice _ _ _ len _) => some (.one (.int .i64 len), σ)
    | .one .nilSlice => some (.one (.int .i64 0), σ)
    | _ => none
  | .lenS x => match ev fr x with
    | .one (.str s) => some (.one (.int .i64 s.length), σ)
    | _ => none
  | .cap x => match ev fr x with
    | .one (.slice _ _ _ _ (some c)) => some (.one (.int .i64 c), σ)
    | .one .nilSlice => some (.one (.int .i64 0), σ)
    | _ => none
  | .append esz bytes _ x y => match srcLen (ev fr y) with
    | some k => match srcCells σ esz k (ev fr y) with
      | some vs => appendA σ esz bytes (ev fr x) k vs
      | none => none
    | none => none
  | .appendZ esz bytes zero x n => match asNat (ev fr n) with
    | some k => match Nat.ble k maxElems with
      | true => appendA σ esz bytes (ev fr x) k (repeatCells zero k)
      | false => none
    | none => none
  | .copy esz x y => match srcLen (ev fr y), ev fr x with
    | some k, .one (.slice id off e len _) => match Nat.beq e esz with
      | true => match srcCells σ esz (min k len) (ev fr y) with
        | some vs => match writeAt σ id off vs with
          | some σ' => some (.one (.int .i64 (min k len : Nat)), σ')
          | none => none
        | none => none
      | false => none
    | some _, .one .nilSlice => some (.one (.int .i64 0), σ)
    | _, _ => none
  | .minmax isMax x rest => match ev fr x with
    | .one (.int k n) => pure1 σ (mms isMax k n (evs fr rest))
    | _ => none
  | .clear esz zero x => match ev fr x with
    | .one .nilSlice => some (.tup [], σ)
    | .one (.slice id off e len _) => match Nat.beq e esz with
      | true => match Nat.beq len 0 with
        | true => some (.tup [], σ)
        | false => match writeAt σ id off (repeatCells zero len) with
          | some σ' => some (.tup [], σ')
          | none => none
      | false => none
    | _ => none
  | .call _ _ => none

abbrev CallF := Nat → List AV → AHeap → Option (AV × AHeap)

/-- One operation, a call among them. -/
def evStep (call : CallF) (fr : List AV) (σ : AHeap) (o : AOp) : Option (AV × AHeap) :=
  match o with
  | .call f args => match ev fr f with
    | .one (.func f caps) => call f (evs fr args ++ caps.map AV.one) σ
    | _ => none
  | o => evOp fr σ o

def wantedA (fr : List AV) (g : Option (Nat × Bool)) : Bool := match g with
  | none => true
  | some (s, want) => match getSlot fr s with
    | .one (.bool b) => b == want
    | _ => false

def evOper (call : CallF) (fr : List AV) (σ : AHeap) (o : AOper) : Option (List AV × AHeap) :=
  match wantedA fr o.guard with
  | true => match evStep call fr σ o.op with
    | some (v, σ') => some (putDst fr o.dst v, σ')
    | none => none
  | false => some (putDst fr o.dst undefA, σ)

def evOps (call : CallF) : List AOper → List AV → AHeap → Option (List AV × AHeap)
  | [], fr, σ => some (fr, σ)
  | o :: l, fr, σ => match evOper call fr σ o with
    | some (fr', σ') => evOps call l fr' σ'
    | none => none

inductive AX where
  | normal
  | exit (id : Nat)
  | ret

abbrev Out := Option (AX × List AV × AHeap)

def evLoop (body : List AV → AHeap → Out) : Nat → List AV → AHeap → Out
  | 0, _, _ => none
  | k + 1, fr, σ => match body fr σ with
    | some (.normal, fr', σ') => evLoop body k fr' σ'
    | r => r

end Go.Proofs.Ythjijjkoeoemgaa.Ab
