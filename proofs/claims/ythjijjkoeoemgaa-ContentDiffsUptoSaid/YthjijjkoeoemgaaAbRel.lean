/- How the abstract machine's values and heap stand to the model's: the relation, and what an operation may do to it. -/
import Derived.Test.YthjijjkoeoemgaaAbLang
namespace Go.Proofs.Ythjijjkoeoemgaa.Ab
open Go

/-- Where an abstract object lies: the block, the first cell, the block's size, how many cells the object has. -/
structure Blk where
  b : Nat
  base : Nat
  n : Nat
  clen : Nat

abbrev Loc := Nat → Option Blk

mutual
inductive SR (ρ : Loc) : SV → Value → Prop where
  | bool (b : Bool) : SR ρ (.bool b) (.bool b)
  | int (k : IntKind) (n : Int) : SR ρ (.int k n) (.int k n)
  | str (s : List UInt8) : SR ρ (.str s) (.string ⟨s.toArray⟩)
  | ptr {id off : Nat} {B : Blk} (h : ρ id = some B) : SR ρ (.ptr id off) (.pointer (some ⟨B.b, B.base + off, none⟩))
  | nilPtr : SR ρ .nilPtr (.pointer none)
  | slice {id off esz len c : Nat} {cap : Option Nat} {B : Blk} (h : ρ id = some B) (h1 : len ≤ c) (h2 : off + len * esz ≤ B.clen)
      (h3 : B.base + off + c * esz ≤ B.n) (h4 : 0 < esz) (h5 : cap = some c ∨ (cap = none ∧ B.clen ≤ off + c * esz)) :
      SR ρ (.slice id off esz len cap) (.slice (some ⟨B.b, B.base + off, none⟩) len c)
  | slice0 {id off esz : Nat} {x : Addr} {cap : Option Nat} {B : Blk} (h : ρ id = some B) (h2 : off = B.clen) (h4 : 0 < esz) (h5 : cap = none ∨ cap = some 0) : SR ρ (.slice id off esz 0 cap) (.slice (some x) 0 0)
  | nilSlice : SR ρ .nilSlice (.slice none 0 0)
  | func {f : Nat} {caps : List SV} {vs : List Value} (h : SRs ρ caps vs) : SR ρ (.func f caps) (.func (.func f) #[] vs.toArray)
  | nilFunc : SR ρ .nilFunc .nilFunc
  | iface1 {t : Nat} {s : SV} {v : Value} (h : SR ρ s v) : SR ρ (.iface t false [s]) (.iface t v)
  | ifaceA {t : Nat} {cs : List SV} {vs : List Value} (h : SRs ρ cs vs) : SR ρ (.iface t true cs) (.iface t (.agg vs.toArray))
  | nilIface : SR ρ .nilIface .nilIface
inductive SRs (ρ : Loc) : List SV → List Value → Prop where
  | nil : SRs ρ [] []
  | cons {s : SV} {v : Value} {l : List SV} {vs : List Value} (h : SR ρ s v) (t : SRs ρ l vs) : SRs ρ (s :: l) (v :: vs)
end

mutual
inductive VR (ρ : Loc) : AV → Value → Prop where
  | one {s : SV} {v : Value} (h : SR ρ s v) : VR ρ (.one s) v
  | agg {cs : List SV} {vs : List Value} (h : SRs ρ cs vs) : VR ρ (.agg cs) (.agg vs.toArray)
  | tup {l : List AV} {vs : List Value} (h : VRs ρ l vs) : VR ρ (.tup l) (.tuple vs.toArray)
inductive VRs (ρ : Loc) : List AV → List Value → Prop where
  | nil : VRs ρ [] []
  | cons {s : AV} {v : Value} {l : List AV} {vs : List Value} (h : VR ρ s v) (t : VRs ρ l vs) : VRs ρ (s :: l) (v :: vs)
end

/-! ### lists that are related -/
section
variable {ρ : Loc}

theorem SRs.length {l : List SV} {vs : List Value} (h : SRs ρ l vs) : l.length = vs.length := by
  induction l generalizing vs with
  | nil => cases h; rfl
  | cons s l ih => cases h with | cons h t => simp [ih t]

theorem SRs.get {l : List SV} {vs : List Value} (h : SRs ρ l vs) {j : Nat} {s : SV} (hs : l[j]? = some s) : ∃ v, vs[j]? = some v ∧ SR ρ s v := by
  induction l generalizing vs j with
  | nil => simp at hs
  | cons a l ih =>
    cases h with
    | cons h t =>
      cases j with
      | zero => simp at hs; subst hs; exact ⟨_, rfl, h⟩
      | succ j => simp at hs; exact ih t hs

theorem SRs.append {l m : List SV} {vs us : List Value} (h : SRs ρ l vs) (k : SRs ρ m us) : SRs ρ (l ++ m) (vs ++ us) := by
  induction l generalizing vs with
  | nil => cases h; exact k
  | cons s l ih => cases h with | cons h t => exact .cons h (ih t)

theorem SRs.take {l : List SV} {vs : List Value} (n : Nat) (h : SRs ρ l vs) : SRs ρ (l.take n) (vs.take n) := by
  induction n generalizing l vs with
  | zero => simp; exact .nil
  | succ n ih =>
    cases h with
    | nil => simp; exact .nil
    | cons h t => exact .cons h (ih t)

theorem SRs.drop {l : List SV} {vs : List Value} (n : Nat) (h : SRs ρ l vs) : SRs ρ (l.drop n) (vs.drop n) := by
  induction n generalizing l vs with
  | zero => simpa using h
  | succ n ih =>
    cases h with
    | nil => simp; exact .nil
    | cons h t => exact ih t

theorem SR.oneCell {s : SV} {v : Value} (h : SR ρ s v) : v.oneCell' = true := by cases h <;> rfl

theorem SR.cells {s : SV} {v : Value} (h : SR ρ s v) : v.cells = #[v] := by cases h <;> rfl

theorem SRs.oneCell {l : List SV} {vs : List Value} (h : SRs ρ l vs) : ∀ v ∈ vs, v.oneCell' = true := by
  induction l generalizing vs with
  | nil => cases h; simp
  | cons s l ih =>
    cases h with
    | cons h t =>
      intro v hv
      cases hv with
      | head => exact h.oneCell
      | tail _ hm => exact ih t v hm

theorem VR.cells {v : AV} {u : Value} (h : VR ρ v u) (hn : ∀ l, v ≠ .tup l) : SRs ρ v.cells u.cells.toList := by
  cases h with
  | one h => rw [h.cells]; exact .cons h .nil
  | agg h => simpa [AV.cells, Value.cells] using h
  | tup h => exact absurd rfl (hn _)

theorem VRs.get {l : List AV} {vs : List Value} (h : VRs ρ l vs) {j : Nat} {s : AV} (hs : l[j]? = some s) : ∃ v, vs[j]? = some v ∧ VR ρ s v := by
  induction l generalizing vs j with
  | nil => simp at hs
  | cons a l ih =>
    cases h with
    | cons h t =>
      cases j with
      | zero => simp at hs; subst hs; exact ⟨_, rfl, h⟩
      | succ j => simp at hs; exact ih t hs

theorem VRs.length {l : List AV} {vs : List Value} (h : VRs ρ l vs) : l.length = vs.length := by
  induction l generalizing vs with
  | nil => cases h; rfl
  | cons s l ih => cases h with | cons h t => simp [ih t]

theorem VRs.append {l m : List AV} {vs us : List Value} (h : VRs ρ l vs) (k : VRs ρ m us) : VRs ρ (l ++ m) (vs ++ us) := by
  induction l generalizing vs with
  | nil => cases h; exact k
  | cons s l ih => cases h with | cons h t => exact .cons h (ih t)

theorem SRs.toVRs {l : List SV} {vs : List Value} (h : SRs ρ l vs) : VRs ρ (l.map AV.one) vs := by
  induction l generalizing vs with
  | nil => cases h; exact .nil
  | cons s l ih => cases h with | cons h t => exact .cons (.one h) (ih t)

end

/-! ### more places -/
def Loc.le (ρ ρ' : Loc) : Prop := ∀ id B, ρ id = some B → ρ' id = some B

theorem Loc.le.refl (ρ : Loc) : ρ.le ρ := fun _ _ h => h
theorem Loc.le.trans {a b c : Loc} (h : a.le b) (k : b.le c) : a.le c := fun id B x => k id B (h id B x)

mutual
theorem SR.mono {ρ ρ' : Loc} (hl : ρ.le ρ') : ∀ {s : SV} {v : Value}, SR ρ s v → SR ρ' s v
  | _, _, .bool b => .bool b
  | _, _, .int k n => .int k n
  | _, _, .str s => .str s
  | _, _, .ptr h => .ptr (hl _ _ h)
  | _, _, .nilPtr => .nilPtr
  | _, _, .slice h h1 h2 h3 h4 h5 => .slice (hl _ _ h) h1 h2 h3 h4 h5
  | _, _, .slice0 h h2 h4 h5 => .slice0 (hl _ _ h) h2 h4 h5
  | _, _, .nilSlice => .nilSlice
  | _, _, .func h => .func (SRs.mono hl h)
  | _, _, .nilFunc => .nilFunc
  | _, _, .iface1 h => .iface1 (SR.mono hl h)
  | _, _, .ifaceA h => .ifaceA (SRs.mono hl h)
  | _, _, .nilIface => .nilIface
theorem SRs.mono {ρ ρ' : Loc} (hl : ρ.le ρ') : ∀ {l : List SV} {vs : List Value}, SRs ρ l vs → SRs ρ' l vs
  | _, _, .nil => .nil
  | _, _, .cons h t => .cons (SR.mono hl h) (SRs.mono hl t)
end
mutual
theorem VR.mono {ρ ρ' : Loc} (hl : ρ.le ρ') : ∀ {s : AV} {v : Value}, VR ρ s v → VR ρ' s v
  | _, _, .one h => .one (h.mono hl)
  | _, _, .agg h => .agg (h.mono hl)
  | _, _, .tup h => .tup (VRs.mono hl h)
theorem VRs.mono {ρ ρ' : Loc} (hl : ρ.le ρ') : ∀ {l : List AV} {vs : List Value}, VRs ρ l vs → VRs ρ' l vs
  | _, _, .nil => .nil
  | _, _, .cons h t => .cons (VR.mono hl h) (VRs.mono hl t)
end

/-! ### the places cut off at a number: what a value names must lie below it -/
def Loc.cut (ρ : Loc) (n : Nat) : Loc := fun id => if id < n then ρ id else none

theorem Loc.cut_le (ρ : Loc) (n : Nat) : (ρ.cut n).le ρ := by
  intro id B h
  unfold Loc.cut at h
  split at h
  · exact h
  · cases h

/-- All that a value names lies in ρ. -/
def Loc.dom (ρ : Loc) (n : Nat) : Prop := ∀ id B, ρ id = some B → id < n

mutual
theorem SR.cut {ρ τ : Loc} {n : Nat} (hd : τ.dom n) : ∀ {s : SV} {v u : Value}, SR ρ s v → SR τ s u → SR (ρ.cut n) s v
  | _, _, _, .bool b, _ => .bool b
  | _, _, _, .int k n, _ => .int k n
  | _, _, _, .str s, _ => .str s
  | _, _, _, .ptr h, .ptr k => .ptr (by unfold Loc.cut; rw [if_pos (hd _ _ k)]; exact h)
  | _, _, _, .nilPtr, _ => .nilPtr
  | _, _, _, .slice h h1 h2 h3 h4 h5, .slice k _ _ _ _ _ => .slice (by unfold Loc.cut; rw [if_pos (hd _ _ k)]; exact h) h1 h2 h3 h4 h5
  | _, _, _, .slice h h1 h2 h3 h4 h5, .slice0 k _ _ _ => .slice (by unfold Loc.cut; rw [if_pos (hd _ _ k)]; exact h) h1 h2 h3 h4 h5
  | _, _, _, .slice0 h h2 h4 h5, .slice k _ _ _ _ _ => .slice0 (by unfold Loc.cut; rw [if_pos (hd _ _ k)]; exact h) h2 h4 h5
  | _, _, _, .slice0 h h2 h4 h5, .slice0 k _ _ _ => .slice0 (by unfold Loc.cut; rw [if_pos (hd _ _ k)]; exact h) h2 h4 h5
  | _, _, _, .nilSlice, _ => .nilSlice
  | _, _, _, .func h, .func k => .func (SRs.cut hd h k)
  | _, _, _, .nilFunc, _ => .nilFunc
  | _, _, _, .iface1 h, .iface1 k => .iface1 (SR.cut hd h k)
  | _, _, _, .ifaceA h, .ifaceA k => .ifaceA (SRs.cut hd h k)
  | _, _, _, .nilIface, _ => .nilIface
theorem SRs.cut {ρ τ : Loc} {n : Nat} (hd : τ.dom n) : ∀ {l : List SV} {vs us : List Value}, SRs ρ l vs → SRs τ l us → SRs (ρ.cut n) l vs
  | _, _, _, .nil, _ => .nil
  | _, _, _, .cons h t, .cons k u => .cons (SR.cut hd h k) (SRs.cut hd t u)
end
mutual
theorem VR.cut {ρ τ : Loc} {n : Nat} (hd : τ.dom n) : ∀ {s : AV} {v u : Value}, VR ρ s v → VR τ s u → VR (ρ.cut n) s v
  | _, _, _, .one h, .one k => .one (h.cut hd k)
  | _, _, _, .agg h, .agg k => .agg (h.cut hd k)
  | _, _, _, .tup h, .tup k => .tup (VRs.cut hd h k)
theorem VRs.cut {ρ τ : Loc} {n : Nat} (hd : τ.dom n) : ∀ {l : List AV} {vs us : List Value}, VRs ρ l vs → VRs τ l us → VRs (ρ.cut n) l vs
  | _, _, _, .nil, _ => .nil
  | _, _, _, .cons h t, .cons k u => .cons (VR.cut hd h k) (VRs.cut hd t u)
end

/-! ### the heap's relation -/
def Own (w : World) (B : Blk) : Prop :=
  ∃ cur t fz, w.heap[B.b]? = some (.cells cur t fz) ∧ cur.size = B.n ∧ ∀ o, o < B.n → ¬ (fz.1 ≤ o ∧ o < fz.2)

def Holds (ρ : Loc) (w : World) (B : Blk) (cs : List SV) : Prop :=
  ∃ vs : List Value, SRs ρ cs vs ∧ ∀ j v, vs[j]? = some v → w.cell? ⟨B.b, B.base + j, none⟩ = some v

structure ObjOk (ρ : Loc) (w : World) (B : Blk) (o : AObj) : Prop where
  len : o.cells.length = B.clen
  fit : B.base + B.clen ≤ B.n
  holds : o.md ≠ .dead → Holds ρ w B o.cells
  own : o.md = .own → Own w B

structure HR (ρ : Loc) (g : Nat → Option AObj) (w : World) : Prop where
  dom : ∀ id B, ρ id = some B → ∃ o, g id = some o ∧ ObjOk ρ w B o ∧ B.b < w.heap.size
  excl : ∀ i j B B' o o', ρ i = some B → ρ j = some B' → g i = some o → g j = some o' → i ≠ j → o.md = .own → o'.md ≠ .dead → B.b ≠ B'.b

/-- The block b is written by nobody but through ρ's own objects. -/
def Owned (ρ : Loc) (g : Nat → Option AObj) (b : Nat) : Prop := ∃ id B o, ρ id = some B ∧ g id = some o ∧ o.md = .own ∧ B.b = b

structure Post (ρ : Loc) (σ : AHeap) (w : World) (ρ' : Loc) (σ' : AHeap) (w' : World) : Prop where
  le : ρ.le ρ'
  size : σ.size ≤ σ'.size
  new : ∀ id, σ.size ≤ id → id < σ'.size → ∃ B, ρ' id = some B
  old : ∀ id, id < σ.size → ρ' id = ρ id
  dom : ∀ id B, ρ' id = some B → id < σ'.size
  same : ∀ id, id < σ.size → ρ id = none → σ'.get id = σ.get id
  md : ∀ id B o', ρ id = some B → σ'.get id = some o' → o'.md = .own → ∃ o, σ.get id = some o ∧ o.md = .own
  md' : ∀ id B o, ρ id = some B → σ.get id = some o → o.md = .dead → ∃ o', σ'.get id = some o' ∧ o'.md = .dead
  hr : HR ρ' σ'.get w'
  hsize : w.heap.size ≤ w'.heap.size
  frame : ∀ b, b < w.heap.size → ¬ Owned ρ σ.get b → w'.heap[b]? = w.heap[b]?
  fresh : ∀ id B, σ.size ≤ id → ρ' id = some B → w.heap.size ≤ B.b ∨ Owned ρ σ.get B.b
  os : w'.os = w.os
  tape : w'.tape = w.tape
  output : w'.output = w.output

/-- ρ names objects that are there alone. -/
theorem HR.lt {ρ : Loc} {σ : AHeap} {w : World} (h : HR ρ σ.get w) {id : Nat} {B : Blk} (hB : ρ id = some B) : id < σ.size := by
  obtain ⟨o, ho, _⟩ := h.dom id B hB
  exact AHeap.get_lt ho

theorem Post.refl {ρ : Loc} {σ : AHeap} {w : World} (h : HR ρ σ.get w) : Post ρ σ w ρ σ w where
  le := .refl ρ
  size := Nat.le_refl _
  new := fun id h1 h2 => absurd h2 (by omega)
  old := fun _ _ => rfl
  dom := fun id B hB => h.lt hB
  same := fun _ _ _ => rfl
  md := fun id B o' _ h2 h3 => ⟨o', h2, h3⟩
  md' := fun id B o' _ h2 h3 => ⟨o', h2, h3⟩
  hr := h
  hsize := Nat.le_refl _
  frame := fun _ _ _ => rfl
  fresh := fun id B h1 h2 => absurd (h.lt h2) (by omega)
  os := rfl
  tape := rfl
  output := rfl

theorem Post.owned {ρ ρ' : Loc} {σ σ' : AHeap} {w w' : World} (h : Post ρ σ w ρ' σ' w') {b : Nat} (hb : b < w.heap.size) (ho : Owned ρ' σ'.get b) : Owned ρ σ.get b := by
  obtain ⟨id, B, o, h1, h2, h3, h4⟩ := ho
  by_cases hlt : id < σ.size
  · rw [h.old id hlt] at h1
    obtain ⟨o1, k1, k2⟩ := h.md id B o h1 h2 h3
    exact ⟨id, B, o1, h1, k1, k2, h4⟩
  · rcases h.fresh id B (by omega) h1 with k | k
    · omega
    · rwa [h4] at k

theorem Post.trans {ρ ρ1 ρ2 : Loc} {σ σ1 σ2 : AHeap} {w w1 w2 : World} (h : Post ρ σ w ρ1 σ1 w1) (k : Post ρ1 σ1 w1 ρ2 σ2 w2) : Post ρ σ w ρ2 σ2 w2 where
  le := h.le.trans k.le
  size := Nat.le_trans h.size k.size
  new := fun id h1 h2 => by
    by_cases hlt : id < σ1.size
    · obtain ⟨B, hB⟩ := h.new id h1 hlt
      exact ⟨B, k.le _ _ hB⟩
    · exact k.new id (by omega) h2
  old := fun id hid => by rw [k.old id (by have := h.size; omega), h.old id hid]
  dom := k.dom
  same := fun id h1 h2 => by
    rw [k.same id (by have := h.size; omega) (by rw [h.old id h1]; exact h2), h.same id h1 h2]
  md := fun id B o' h1 h2 h3 => by
    obtain ⟨o1, k1, k2⟩ := k.md id B o' (h.le _ _ h1) h2 h3
    exact h.md id B o1 h1 k1 k2
  md' := fun id B o h1 h2 h3 => by
    obtain ⟨o1, k1, k2⟩ := h.md' id B o h1 h2 h3
    exact k.md' id B o1 (h.le _ _ h1) k1 k2
  hr := k.hr
  hsize := Nat.le_trans h.hsize k.hsize
  frame := fun b h1 h2 => by
    rw [k.frame b (by have := h.hsize; omega) (fun ho => h2 (h.owned h1 ho)), h.frame b h1 h2]
  fresh := fun id B h1 h2 => by
    by_cases hlt : id < σ1.size
    · rw [k.old id hlt] at h2
      exact h.fresh id B h1 h2
    · rcases k.fresh id B (by omega) h2 with q | q
      · exact .inl (Nat.le_trans h.hsize q)
      · by_cases hb : B.b < w.heap.size
        · exact .inr (h.owned hb q)
        · exact .inl (by omega)
  os := k.os.trans h.os
  tape := k.tape.trans h.tape
  output := k.output.trans h.output

/-! ### the frame's relation -/
structure FR (ρ : Loc) (fr : List AV) (tmps : Array Value) : Prop where
  len : fr.length = tmps.size
  at_ : ∀ t, VR ρ (getSlot fr t) (tmps.getD t undef)

theorem VR.undef {ρ : Loc} : VR ρ undefA undef := by
  show VR ρ (.tup []) (.tuple #[])
  have := VR.tup (ρ := ρ) VRs.nil
  simpa using this

theorem FR.mono {ρ ρ' : Loc} (hl : ρ.le ρ') {fr : List AV} {tmps : Array Value} (h : FR ρ fr tmps) : FR ρ' fr tmps :=
  ⟨h.len, fun t => (h.at_ t).mono hl⟩

theorem getSlot_eq : ∀ (fr : List AV) (t : Nat), getSlot fr t = (fr[t]?).getD undefA
  | [], t => by simp [getSlot]
  | v :: _, 0 => by simp [getSlot]
  | _ :: l, n + 1 => by simp [getSlot, getSlot_eq l n]

theorem setSlot_eq : ∀ (fr : List AV) (t : Nat) (x : AV), setSlot fr t x = fr.set t x
  | [], t, x => by simp [setSlot]
  | v :: _, 0, x => by simp [setSlot]
  | _ :: l, n + 1, x => by simp [setSlot, setSlot_eq l n]

theorem FR.put {ρ : Loc} {fr : List AV} {a : Act} (h : FR ρ fr a.tmps) (d : Option Nat) {v : AV} {u : Value} (hv : VR ρ v u) :
    FR ρ (putDst fr d v) (a.put d u).tmps := by
  cases d with
  | none => exact h
  | some d =>
    refine ⟨by simp [putDst, setSlot_eq, Act.put, h.len], fun t => ?_⟩
    simp only [putDst, Act.put, getSlot_eq, setSlot_eq, Array.getD_eq_getD_getElem?, List.getElem?_set, Array.getElem?_setIfInBounds]
    by_cases e : d = t
    · subst e
      simp only [if_true]
      by_cases hlt : d < fr.length
      · have : d < a.tmps.size := by rw [← h.len]; exact hlt
        simp [hlt, this, hv]
      · have : ¬ d < a.tmps.size := by rw [← h.len]; exact hlt
        simp [hlt, this]
        exact VR.undef
    · simp only [e, if_false]
      have := h.at_ t
      simpa [getSlot_eq, Array.getD_eq_getD_getElem?] using this

end Go.Proofs.Ythjijjkoeoemgaa.Ab
