/- Arguments, read out of a world, as the abstract machine's own: every slice is an object that is read alone. -/
import Derived.Test.YthjijjkoeoemgaaAbRow
import Derived.Test.YthjijjkoeoemgaaRows
namespace Go.Proofs.Ythjijjkoeoemgaa.Ab
open Go Go.RowKit Go.ChangeShapes Go.WideShapes Go.ChangeAt
set_option linter.unusedSimpArgs false
set_option linter.unusedVariables false

/-! ### the types that are read -/
def aggT (P : Program) (t : TypeId) : Bool := match P.underlying t with
  | some (.struct _) | some (.array _ _) => true
  | _ => false

def offsOk (P : Program) : Nat → List Field → Option Nat
  | a, [] => some a
  | a, f :: l => match Nat.beq f.offset a with
    | true => offsOk P (a + P.cellsOf f.type) l
    | false => none

def plainTy (P : Program) (T : List TypeId) (t : TypeId) : Bool := match P.underlying t with
  | some .bool | some (.int _) | some .string => true
  | some (.slice e) => T.contains e && Nat.ble 1 (P.cellsOf e)
  | some (.struct fs) => (match offsOk P 0 fs.toList with | some n => Nat.beq n (P.cellsOf t) | none => false) && fs.toList.all fun f => T.contains f.type
  | some (.array n e) => T.contains e && Nat.beq (P.cellsOf t) (n * P.cellsOf e)
  | _ => false

def plainTs (P : Program) (T : List TypeId) : Bool := T.all (plainTy P T)

/-! ### what is there to be read, in the abstract heap -/
mutual
inductive Rd (P : Program) (g : Nat → Option AObj) : TypeId → List SV → Nat → Prop where
  | bool {t : TypeId} (ht : P.underlying t = some .bool) (b : Bool) : Rd P g t [.bool b] 1
  | int {t : TypeId} {k : IntKind} (ht : P.underlying t = some (.int k)) (n : Int) (h : (Lit.int k n).wf = true) : Rd P g t [.int k n] 1
  | str {t : TypeId} (ht : P.underlying t = some .string) (s : List UInt8) : Rd P g t [.str s] (s.length + 1)
  | nilSlice {t e : TypeId} (ht : P.underlying t = some (.slice e)) : Rd P g t [.nilSlice] 1
  | slice {t e : TypeId} (ht : P.underlying t = some (.slice e)) (id len b : Nat) (cap : Option Nat) (cells : List SV) (h : g id = some ⟨cells, .ro⟩) (hl : RdL P g e cells len b) :
      Rd P g t [.slice id 0 (P.cellsOf e) len cap] (b + 1)
  | struct {t : TypeId} {fs : Array Field} (ht : P.underlying t = some (.struct fs)) (cells : List SV) (b : Nat) (h : RdF P g (fs.toList.map (·.type)) cells b) : Rd P g t cells (b + 1)
  | array {t e : TypeId} {n : Nat} (ht : P.underlying t = some (.array n e)) (cells : List SV) (b : Nat) (h : RdL P g e cells n b) : Rd P g t cells (b + 1)
/-- So many of one type, one behind the other. -/
inductive RdL (P : Program) (g : Nat → Option AObj) : TypeId → List SV → Nat → Nat → Prop where
  | nil {e : TypeId} : RdL P g e [] 0 0
  | cons {e : TypeId} {ss l : List SV} {b n bs : Nat} (h : Rd P g e ss b) (t : RdL P g e l n bs) : RdL P g e (ss ++ l) (n + 1) (b + bs)
/-- One of each type, one behind the other. -/
inductive RdF (P : Program) (g : Nat → Option AObj) : List TypeId → List SV → Nat → Prop where
  | nil : RdF P g [] [] 0
  | cons {e : TypeId} {es : List TypeId} {ss l : List SV} {b bs : Nat} (h : Rd P g e ss b) (t : RdF P g es l bs) : RdF P g (e :: es) (ss ++ l) (b + bs)
end

def gLe (g g' : Nat → Option AObj) : Prop := ∀ id o, g id = some o → g' id = some o

mutual
theorem Rd.mono {P : Program} {g g' : Nat → Option AObj} (hl : gLe g g') : ∀ {t : TypeId} {ss : List SV} {b : Nat}, Rd P g t ss b → Rd P g' t ss b
  | _, _, _, .bool ht b => .bool ht b
  | _, _, _, .int ht n h => .int ht n h
  | _, _, _, .str ht s => .str ht s
  | _, _, _, .nilSlice ht => .nilSlice ht
  | _, _, _, .slice ht id len b cap cells h k => .slice ht id len b cap cells (hl _ _ h) (RdL.mono hl k)
  | _, _, _, .struct ht cells b h => .struct ht cells b (RdF.mono hl h)
  | _, _, _, .array ht cells b h => .array ht cells b (RdL.mono hl h)
theorem RdL.mono {P : Program} {g g' : Nat → Option AObj} (hl : gLe g g') : ∀ {t : TypeId} {ss : List SV} {n b : Nat}, RdL P g t ss n b → RdL P g' t ss n b
  | _, _, _, _, .nil => .nil
  | _, _, _, _, .cons h t => .cons (Rd.mono hl h) (RdL.mono hl t)
theorem RdF.mono {P : Program} {g g' : Nat → Option AObj} (hl : gLe g g') : ∀ {ts : List TypeId} {ss : List SV} {b : Nat}, RdF P g ts ss b → RdF P g' ts ss b
  | _, _, _, .nil => .nil
  | _, _, _, .cons h t => .cons (Rd.mono hl h) (RdF.mono hl t)
end

/-! ### the state of an import -/
structure In (w : World) (ρ : Loc) (σ : AHeap) : Prop where
  hr : HR ρ σ.get w
  ro : ∀ id o, σ.get id = some o → o.md = .ro
  all : ∀ id, id < σ.size → ∃ B, ρ id = some B

theorem In.noOwn {w : World} {ρ : Loc} {σ : AHeap} (h : In w ρ σ) (b : Nat) : ¬ Owned ρ σ.get b := by
  rintro ⟨id, B, o, h1, h2, h3, h4⟩
  rw [h.ro id o h2] at h3
  cases h3

theorem In.empty (w : World) : In w noLoc emptyH where
  hr := HR.empty w
  ro := fun id o h => by rw [emptyH_get] at h; cases h
  all := fun id h => absurd h (Nat.not_lt_zero _)

structure Ext (ρ : Loc) (σ : AHeap) (ρ' : Loc) (σ' : AHeap) : Prop where
  le : ρ.le ρ'
  get : gLe σ.get σ'.get

theorem Ext.refl (ρ : Loc) (σ : AHeap) : Ext ρ σ ρ σ := ⟨.refl ρ, fun _ _ h => h⟩
theorem Ext.trans {ρ ρ1 ρ2 : Loc} {σ σ1 σ2 : AHeap} (h : Ext ρ σ ρ1 σ1) (k : Ext ρ1 σ1 ρ2 σ2) : Ext ρ σ ρ2 σ2 := ⟨h.le.trans k.le, fun id o x => k.get id o (h.get id o x)⟩

theorem ObjOk.le {ρ ρ' : Loc} (hl : ρ.le ρ') {w : World} {B : Blk} {o : AObj} (h : ObjOk ρ w B o) : ObjOk ρ' w B o where
  len := h.len
  fit := h.fit
  holds := fun hd => by
    obtain ⟨vs, h1, h2⟩ := h.holds hd
    exact ⟨vs, h1.mono hl, h2⟩
  own := h.own

/-- One object more. -/
theorem In.more {w : World} {ρ : Loc} {σ : AHeap} (h : In w ρ σ) (B : Blk) (cells : List SV) (vs : List Value) (hv : SRs ρ cells vs) (hlen : cells.length = B.clen) (hfit : B.base + B.clen ≤ B.n)
    (hc : ∀ j v, vs[j]? = some v → w.cell? ⟨B.b, B.base + j, none⟩ = some v) (hb : B.b < w.heap.size) :
    ∃ ρ', In w ρ' (σ.alloc ⟨cells, .ro⟩) ∧ Ext ρ σ ρ' (σ.alloc ⟨cells, .ro⟩) ∧ ρ' σ.size = some B := by
  refine ⟨fun id => if id = σ.size then some B else ρ id, ?_, ?_, by simp⟩
  · have hle : ρ.le (fun id => if id = σ.size then some B else ρ id) := by
      intro id B' hB'
      have := h.hr.lt hB'
      show (if id = σ.size then some B else ρ id) = some B'
      rw [if_neg (by omega)]
      exact hB'
    refine ⟨⟨fun id B' hB' => ?_, fun i j B1 B2 o o' h1 h2 h3 h4 h5 h6 h7 => ?_⟩, fun id o ho => ?_, fun id hid => ?_⟩
    · have hB' : (if id = σ.size then some B else ρ id) = some B' := hB'
      split at hB'
      · rename_i e
        cases hB'
        subst e
        refine ⟨⟨cells, .ro⟩, by rw [AHeap.get_alloc, if_pos rfl], ⟨hlen, hfit, fun _ => ⟨vs, hv.mono hle, hc⟩, fun e => by cases e⟩, hb⟩
      · rename_i e
        obtain ⟨o, k1, k2, k3⟩ := h.hr.dom id B' hB'
        exact ⟨o, by rw [AHeap.get_alloc, if_neg e]; exact k1, k2.le hle, k3⟩
    · rw [AHeap.get_alloc] at h3
      split at h3
      · cases h3; cases h6
      · rw [h.ro i o h3] at h6; cases h6
    · rw [AHeap.get_alloc] at ho
      split at ho
      · cases ho; rfl
      · exact h.ro id o ho
    · show ∃ B', (if id = σ.size then some B else ρ id) = some B'
      split
      · exact ⟨_, rfl⟩
      · rename_i e
        exact h.all id (by rw [AHeap.size_alloc] at hid; omega)
  · refine ⟨fun id B' hB' => ?_, fun id o ho => ?_⟩
    · have := h.hr.lt hB'
      show (if id = σ.size then some B else ρ id) = some B'
      rw [if_neg (by omega)]
      exact hB'
    · have := AHeap.get_lt ho
      rw [AHeap.get_alloc, if_neg (by omega)]
      exact ho

/-! ### the import -/
section
variable {P : Program} {H : Type} {enc : TypeId × Value → H} {w : World}

/-- Whoever holds a slice holds memory. -/
def Some1 (w : World) (cs : List Value) : Prop := ∀ a l c, Value.slice (some a) l c ∈ cs → 0 < w.heap.size

theorem heap_pos {a : Addr} {v : Value} (h : w.cell? a = some v) : 0 < w.heap.size := by
  unfold World.cell? at h
  split at h
  · rename_i hb
    have := (Array.getElem?_eq_some_iff.1 hb).1
    omega
  · cases h

theorem heap_lt {a : Addr} {v : Value} (h : w.cell? a = some v) : a.block < w.heap.size ∧ a.spot = none := by
  unfold World.cell? at h
  split at h
  · rename_i hb
    have := (Array.getElem?_eq_some_iff.1 hb).1
    refine ⟨this, ?_⟩
    split at h
    · cases h
    · rename_i e
      simpa using e
  · cases h

def Got (P : Program) (w : World) (ρ : Loc) (σ : AHeap) (t : TypeId) (cs : List Value) (m : Nat) : Prop :=
  ∃ ρ' σ' ss b, Ext ρ σ ρ' σ' ∧ In w ρ' σ' ∧ SRs ρ' ss cs ∧ Rd P σ'.get t ss b ∧ b ≤ m

theorem imports_list {n : Nat} {e : TypeId}
    (ih : ∀ cs x, DataW.trod enc P w 0 (fun _ => true) true n e cs = some x → Some1 w cs → ∀ ρ σ, In w ρ σ → Got P w ρ σ e cs (Rows.uptoBulk x.1)) :
    ∀ (css : List (List Value)) (xs : List (DataW H × List MemPlace)), css.length = xs.length → (∀ (i : Nat) (cs : List Value) (x : DataW H × List MemPlace), css[i]? = some cs → xs[i]? = some x → DataW.trod enc P w 0 (fun _ => true) true n e cs = some x) →
      Some1 w css.flatten → ∀ ρ σ, In w ρ σ → ∃ ρ' σ' ss b, Ext ρ σ ρ' σ' ∧ In w ρ' σ' ∧ SRs ρ' ss css.flatten ∧ RdL P σ'.get e ss css.length b ∧ b ≤ Rows.uptoBulkAll (xs.map (·.1))
  | [], xs, hl, _, _, ρ, σ, hin => by
    refine ⟨ρ, σ, [], 0, .refl ρ σ, hin, .nil, .nil, Nat.zero_le _⟩
  | cs :: css, [], hl, _, _, ρ, σ, hin => by simp at hl
  | cs :: css, x :: xs, hl, h, hs, ρ, σ, hin => by
    obtain ⟨ρ1, σ1, ss1, b1, e1, i1, s1, r1, l1⟩ := ih cs x (h 0 cs x rfl rfl) (fun a l c hm => hs a l c (by simp [hm])) ρ σ hin
    obtain ⟨ρ2, σ2, ss2, b2, e2, i2, s2, r2, l2⟩ := imports_list ih css xs (by simpa using hl) (fun i cs' x' h1 h2 => h (i + 1) cs' x' (by simpa using h1) (by simpa using h2))
      (fun a l c hm => hs a l c (by simp only [List.flatten_cons, List.mem_append]; exact .inr hm)) ρ1 σ1 i1
    refine ⟨ρ2, σ2, ss1 ++ ss2, b1 + b2, e1.trans e2, i2, ?_, .cons (r1.mono e2.get) r2, ?_⟩
    · rw [List.flatten_cons]
      exact (s1.mono e2.le).append s2
    · simp only [List.map_cons, Rows.uptoBulkAll]
      omega

theorem imports_fields {n : Nat} {T : List TypeId}
    (ih : ∀ t ∈ T, ∀ cs x, DataW.trod enc P w 0 (fun _ => true) true n t cs = some x → Some1 w cs → ∀ ρ σ, In w ρ σ → Got P w ρ σ t cs (Rows.uptoBulk x.1)) (cs : List Value) (hs : Some1 w cs) :
    ∀ (fs : List Field) (xs : List (DataW H × List MemPlace)) (o : Nat), fs.length = xs.length → (∀ (i : Nat) (f : Field) (x : DataW H × List MemPlace), fs[i]? = some f → xs[i]? = some x → DataW.trod enc P w 0 (fun _ => true) true n f.type ((cs.drop f.offset).take (P.cellsOf f.type)) = some x) →
      (∀ f ∈ fs, f.type ∈ T) → offsOk P o fs = some cs.length → o ≤ cs.length → ∀ ρ σ, In w ρ σ →
        ∃ ρ' σ' ss b, Ext ρ σ ρ' σ' ∧ In w ρ' σ' ∧ SRs ρ' ss (cs.drop o) ∧ RdF P σ'.get (fs.map (·.type)) ss b ∧ b ≤ Rows.uptoBulkAll (xs.map (·.1))
  | [], xs, o, hl, _, _, ho, _, ρ, σ, hin => by
    unfold offsOk at ho
    cases ho
    exact ⟨ρ, σ, [], 0, .refl ρ σ, hin, by simp; exact .nil, .nil, Nat.zero_le _⟩
  | f :: fs, [], _, hl, _, _, _, _, ρ, σ, hin => by simp at hl
  | f :: fs, x :: xs, o, hl, h, hT, ho, hle, ρ, σ, hin => by
    unfold offsOk at ho
    split at ho
    · rename_i e
      obtain rfl : f.offset = o := Nat.eq_of_beq_eq_true e
      have hle2 : f.offset + P.cellsOf f.type ≤ cs.length := by
        have key : ∀ (l : List Field) (a : Nat) (m : Nat), offsOk P a l = some m → a ≤ m := by
          intro l
          induction l with
          | nil => intro a m hm; unfold offsOk at hm; cases hm; exact Nat.le_refl _
          | cons g l ihl =>
            intro a m hm
            unfold offsOk at hm
            split at hm
            · have := ihl _ _ hm; omega
            · cases hm
        exact key _ _ _ ho
      obtain ⟨ρ1, σ1, ss1, b1, e1, i1, s1, r1, l1⟩ := ih f.type (hT f (by simp)) _ x (h 0 f x rfl rfl) (fun a l c hm => hs a l c (List.mem_of_mem_drop (List.mem_of_mem_take hm))) ρ σ hin
      obtain ⟨ρ2, σ2, ss2, b2, e2, i2, s2, r2, l2⟩ := imports_fields ih cs hs fs xs (f.offset + P.cellsOf f.type) (by simpa using hl) (fun i g y h1 h2 => h (i + 1) g y (by simpa using h1) (by simpa using h2))
        (fun g hg => hT g (by simp [hg])) ho hle2 ρ1 σ1 i1
      refine ⟨ρ2, σ2, ss1 ++ ss2, b1 + b2, e1.trans e2, i2, ?_, .cons (r1.mono e2.get) r2, ?_⟩
      · have : cs.drop f.offset = (cs.drop f.offset).take (P.cellsOf f.type) ++ cs.drop (f.offset + P.cellsOf f.type) := by
          rw [← List.drop_drop, List.take_append_drop]
        rw [this]
        exact (s1.mono e2.le).append s2
      · simp only [List.map_cons, Rows.uptoBulkAll]
        omega
    · cases ho

theorem flat_len {α : Type} {c : Nat} : ∀ (l : List (List α)), (∀ x ∈ l, x.length = c) → l.flatten.length = l.length * c
  | [], _ => by simp
  | y :: l, hy => by
    simp only [List.flatten_cons, List.length_append, List.length_cons, hy y (by simp), flat_len l (fun z hz => hy z (by simp [hz])), Nat.succ_mul]
    omega

theorem pieces {α : Type} (c : Nat) : ∀ (n : Nat) (l : List α), l.length = n * c → ((List.range n).map fun i => (l.drop (i * c)).take c).flatten = l
  | 0, l, h => by
    have : l = [] := List.eq_nil_of_length_eq_zero (by simpa using h)
    simp [this]
  | n + 1, l, h => by
    rw [List.range_succ_eq_map, List.map_cons, List.flatten_cons, List.map_map]
    have h2 : (List.drop c l).length = n * c := by
      rw [List.length_drop, h, Nat.succ_mul]; omega
    have ih := pieces c n (l.drop c) h2
    have : (List.range n).map ((fun i => (l.drop (i * c)).take c) ∘ Nat.succ) = (List.range n).map fun i => ((l.drop c).drop (i * c)).take c := by
      apply List.map_congr_left
      intro i _
      simp only [Function.comp, List.drop_drop]
      rw [Nat.succ_mul, Nat.add_comm]
    rw [this, ih]
    simp

theorem imports {T : List TypeId} (hT : plainTs P T = true) : ∀ (n : Nat) (t : TypeId), t ∈ T → ∀ (cs : List Value) (x : DataW H × List MemPlace), DataW.trod enc P w 0 (fun _ => true) true n t cs = some x → Some1 w cs →
    ∀ ρ σ, In w ρ σ → Got P w ρ σ t cs (Rows.uptoBulk x.1)
  | 0, t, _, cs, x, h, _, _, _, _ => by simp [DataW.trod] at h
  | n + 1, t, ht, cs, x, h, hs, ρ, σ, hin => by
    have hp : plainTy P T t = true := List.all_eq_true.1 hT t ht
    unfold plainTy at hp
    split at hp
    · rename_i hu
      obtain ⟨b, rfl, rfl⟩ := DataW.trod_bool hu h
      exact ⟨ρ, σ, [.bool b], 1, .refl ρ σ, hin, .cons (.bool b) .nil, .bool hu b, by simp [Rows.uptoBulk]⟩
    · rename_i k hu
      obtain ⟨m, rfl, rfl, hw⟩ := DataW.trod_int hu h
      exact ⟨ρ, σ, [.int k m], 1, .refl ρ σ, hin, .cons (.int k m) .nil, .int hu m hw, by simp [Rows.uptoBulk]⟩
    · rename_i hu
      obtain ⟨s, rfl, rfl, hw⟩ := DataW.trod_string hu h
      refine ⟨ρ, σ, [.str s.data.toList], s.data.toList.length + 1, .refl ρ σ, hin, .cons ?_ .nil, .str hu _, by simp [Rows.uptoBulk]⟩
      have := SR.str (ρ := ρ) s.data.toList
      simpa using this
    · rename_i e hu
      simp only [Bool.and_eq_true] at hp
      have he : e ∈ T := by simpa using hp.1
      have hc : 0 < P.cellsOf e := Nat.le_of_ble_eq_true hp.2
      rcases DataW.trod_slice hu h with ⟨rfl, rfl⟩ | ⟨a, len, cap, elems, rest, m, hm, rfl, rfl, hb, hl, hmx, hlen, hel, hsp, hns⟩
      · exact ⟨ρ, σ, [.nilSlice], 1, .refl ρ σ, hin, .cons .nilSlice .nil, .nilSlice hu, by simp [Rows.uptoBulk]⟩
      · obtain rfl : n = m := by omega
        have hpos : 0 < w.heap.size := hs a len cap (by simp)
        obtain ⟨hrl, hr⟩ := hsp rfl
        -- the cells of every element
        have each : ∀ i, i < len → ∃ cs' y, w.cells? 0 (a.add (i * P.cellsOf e)) (P.cellsOf e) = some cs' ∧ elems[i]? = some y ∧ DataW.trod enc P w 0 (fun _ => true) true n e cs' = some y := by
          intro i hi
          have h1 := hel i hi
          have h2 : elems[i]? = some (elems[i]'(by omega)) := List.getElem?_eq_getElem (by omega)
          rw [h2, Option.bind_eq_some_iff] at h1
          obtain ⟨cs', h3, h4⟩ := h1
          exact ⟨cs', _, h3, h2, h4⟩
        let css : List (List Value) := (List.range len).map fun i => (w.cells? 0 (a.add (i * P.cellsOf e)) (P.cellsOf e)).getD []
        have hcl : css.length = len := by simp [css]
        have hcss : ∀ i cs', css[i]? = some cs' → i < len ∧ w.cells? 0 (a.add (i * P.cellsOf e)) (P.cellsOf e) = some cs' := by
          intro i cs' hi
          have hlt : i < len := by rw [← hcl]; exact (List.getElem?_eq_some_iff.1 hi).1
          obtain ⟨cs2, y, k1, _⟩ := each i hlt
          have : css[i]? = some cs2 := by simp [css, hlt, k1]
          rw [this] at hi
          cases hi
          exact ⟨hlt, k1⟩
        obtain ⟨ρ1, σ1, ss, b, e1, i1, s1, r1, l1⟩ := imports_list (n := n) (e := e) (fun cs' y hy hs' => imports hT n e he cs' y hy hs') css elems (by omega)
          (fun i cs' y h1 h2 => by
            obtain ⟨h3, h4⟩ := hcss i cs' h1
            obtain ⟨cs2, y2, k1, k2, k3⟩ := each i h3
            rw [h4] at k1; cases k1
            rw [h2] at k2; cases k2
            exact k3) (fun _ _ _ _ => hpos) ρ σ hin
        have hfl : ∀ k, k ≤ len → ∀ j v, ((css.take k).flatten)[j]? = some v → w.cell? (a.add j) = some v := by
          intro k
          induction k with
          | zero => intro _ j v hv; simp at hv
          | succ k ihk =>
            intro hk j v hv
            have hck : css[k]? = some (css[k]'(by omega)) := List.getElem?_eq_getElem (by omega)
            obtain ⟨_, hcell⟩ := hcss k _ hck
            obtain ⟨_, hl2, hg⟩ := World.cells?_some hcell
            have hlk : ((css.take k).flatten).length = k * P.cellsOf e := by
              rw [flat_len (c := P.cellsOf e) (css.take k) (fun y hy => by
                obtain ⟨i, hi⟩ := List.getElem?_of_mem (List.mem_of_mem_take hy)
                exact (World.cells?_some (hcss i y hi).2).2.1), List.length_take]
              rw [Nat.min_eq_left (by omega)]
            rw [List.take_add_one, hck] at hv
            simp only [Option.toList_some, List.flatten_append, List.flatten_cons, List.flatten_nil, List.append_nil] at hv
            by_cases hj : j < k * P.cellsOf e
            · rw [List.getElem?_append_left (by omega)] at hv
              exact ihk (by omega) j v hv
            · rw [List.getElem?_append_right (by omega), hlk] at hv
              have hj2 : j - k * P.cellsOf e < P.cellsOf e := by
                have := (List.getElem?_eq_some_iff.1 hv).1
                omega
              have := hg (j - k * P.cellsOf e) hj2
              rw [hv] at this
              have ea : (a.add (k * P.cellsOf e)).add (j - k * P.cellsOf e) = a.add j := by
                unfold Addr.add
                by_cases z1 : k * P.cellsOf e = 0
                · rw [if_pos z1, z1]; simp
                · rw [if_neg z1]
                  by_cases z2 : j - k * P.cellsOf e = 0
                  · rw [if_pos z2, if_neg (by omega)]
                    have : j = k * P.cellsOf e := by omega
                    rw [this]
                  · rw [if_neg z2, if_neg (by omega)]
                    simp only [Addr.mk.injEq, true_and, and_true]
                    omega
              rw [ea] at this
              exact this
        have hflat : ∀ j v, css.flatten[j]? = some v → w.cell? (a.add j) = some v := by
          have := hfl len (Nat.le_refl _)
          rwa [List.take_of_length_le (by omega)] at this
        have hsl : ss.length = css.flatten.length := s1.length
        have hssl : ss.length = len * P.cellsOf e := by
          rw [hsl]
          rw [flat_len (c := P.cellsOf e) css (fun y hy => by
            obtain ⟨i, hi⟩ := List.getElem?_of_mem hy
            exact (World.cells?_some (hcss i y hi).2).2.1), hcl]
        rw [hcl] at r1
        by_cases hc0 : cap = 0
        · -- nothing there at all
          subst hc0
          obtain rfl : len = 0 := by omega
          have hss0 : ss = [] := List.eq_nil_of_length_eq_zero (by rw [hssl]; simp)
          subst hss0
          obtain ⟨ρ2, i2, e2, hB⟩ := i1.more ⟨0, 0, 0, 0⟩ [] [] .nil rfl (Nat.le_refl _) (fun j v hv => by simp at hv) hpos
          refine ⟨ρ2, _, [.slice σ1.size 0 (P.cellsOf e) 0 none], b + 1, e1.trans e2, i2, .cons (.slice0 hB rfl hc (.inl rfl)) .nil, .slice hu _ _ _ _ [] (by rw [AHeap.get_alloc, if_pos rfl]) (r1.mono e2.get), ?_⟩
          simp only [Rows.uptoBulk]; omega
        · have hsp : a.block < w.heap.size ∧ a.spot = none := by
            by_cases hl0 : len = 0
            · have h1 := hr 0 (by omega)
              have h2 : rest[0]? = some (rest[0]'(by omega)) := List.getElem?_eq_getElem (by omega)
              rw [h2, Option.bind_eq_some_iff] at h1
              obtain ⟨cs', h3, _⟩ := h1
              obtain ⟨_, h4, h5⟩ := World.cells?_some h3
              have h6 := h5 0 hc
              have h7 : cs'[0]? = some (cs'[0]'(by omega)) := List.getElem?_eq_getElem (by omega)
              rw [h7] at h6
              have : (a.add ((len + 0) * P.cellsOf e)).add 0 = a := by subst hl0; simp [Addr.add]
              rw [this] at h6
              exact heap_lt h6
            · obtain ⟨cs', y, h3, _⟩ := each 0 (by omega)
              obtain ⟨_, h4, h5⟩ := World.cells?_some h3
              have h6 := h5 0 hc
              have h7 : cs'[0]? = some (cs'[0]'(by omega)) := List.getElem?_eq_getElem (by omega)
              rw [h7] at h6
              have : (a.add (0 * P.cellsOf e)).add 0 = a := by simp [Addr.add]
              rw [this] at h6
              exact heap_lt h6
          obtain ⟨ab, ao, asp⟩ := a
          obtain ⟨hab, hasp⟩ := hsp
          simp only at hab hasp
          subst hasp
          have hle : len * P.cellsOf e ≤ cap * P.cellsOf e := Nat.mul_le_mul_right _ hl
          obtain ⟨ρ2, i2, e2, hB⟩ := i1.more ⟨ab, ao, ao + cap * P.cellsOf e, len * P.cellsOf e⟩ ss css.flatten s1 hssl (by simp only; omega)
            (fun j v hv => by rw [← addr_add]; exact hflat j v hv) hab
          refine ⟨ρ2, _, [.slice σ1.size 0 (P.cellsOf e) len none], b + 1, e1.trans e2, i2, .cons ?_ .nil, .slice hu _ _ _ _ ss (by rw [AHeap.get_alloc, if_pos rfl]) (r1.mono e2.get), ?_⟩
          · exact .slice (B := ⟨ab, ao, ao + cap * P.cellsOf e, len * P.cellsOf e⟩) hB hl (by simp only; omega) (by simp only; omega) hc (.inr ⟨rfl, by simp only; omega⟩)
          · simp only [Rows.uptoBulk]; omega
    · rename_i fs hu
      simp only [Bool.and_eq_true] at hp
      obtain ⟨xs, m, hm, rfl, hl, hxl, hx⟩ := DataW.trod_struct hu h
      obtain rfl : n = m := by omega
      have ho : offsOk P 0 fs.toList = some cs.length := by
        have := hp.1
        split at this
        · rename_i k hk
          rw [hk, hl, Nat.eq_of_beq_eq_true this]
        · cases this
      have hT2 : ∀ f ∈ fs.toList, f.type ∈ T := by
        intro f hf
        have := List.all_eq_true.1 hp.2 f hf
        simpa using this
      obtain ⟨ρ1, σ1, ss, b, e1, i1, s1, r1, l1⟩ := imports_fields (n := n) (T := T) (fun t' ht' cs' y hy hs' => imports hT n t' ht' cs' y hy hs') cs hs fs.toList xs 0 (by simpa using hxl.symm)
        (fun i f y h1 h2 => by rw [hx i f (by simpa using h1)]; exact h2) hT2 ho (Nat.zero_le _) ρ σ hin
      exact ⟨ρ1, σ1, ss, b + 1, e1, i1, by simpa using s1, .struct hu ss b r1, by simp only [Rows.uptoBulk]; omega⟩
    · rename_i k e hu
      simp only [Bool.and_eq_true] at hp
      have he : e ∈ T := by simpa using hp.1
      obtain ⟨xs, m, hm, rfl, hl, hxl, hx⟩ := DataW.trod_array hu h
      obtain rfl : n = m := by omega
      have hck : cs.length = k * P.cellsOf e := by rw [hl]; exact Nat.eq_of_beq_eq_true hp.2
      have hfl := pieces (P.cellsOf e) k cs hck
      obtain ⟨ρ1, σ1, ss, b, e1, i1, s1, r1, l1⟩ := imports_list (n := n) (e := e) (fun cs' y hy hs' => imports hT n e he cs' y hy hs') ((List.range k).map fun i => (cs.drop (i * P.cellsOf e)).take (P.cellsOf e)) xs (by simp [hxl])
        (fun i cs' y h1 h2 => by
          have hlt : i < k := by
            have := (List.getElem?_eq_some_iff.1 h1).1
            simpa using this
          have h3 := hx i hlt
          simp [hlt] at h1
          rw [← h1, h3]; exact h2) (by rw [hfl]; exact hs) ρ σ hin
      rw [hfl] at s1
      refine ⟨ρ1, σ1, ss, b + 1, e1, i1, s1, .array hu ss b (by simpa using r1), by simp only [Rows.uptoBulk]; omega⟩
    · cases hp

theorem shape_pos {r : Nat} {x : TypeId × Nat} (h : w.shape? r = some x) : 0 < w.heap.size := by
  unfold World.shape? at h
  split at h
  · rename_i hb
    have := (Array.getElem?_eq_some_iff.1 hb).1
    omega
  · cases h

theorem cellWide_pos {r : Reach} {base : Nat} {u : TypeId} {a : Addr} {l c : Nat} (h : Cell.okWide P w r base u (.slice (some a) l c)) : 0 < w.heap.size := by
  unfold Cell.okWide at h
  split at h <;> try (rename_i e1 e2; cases e2)
  unfold Cell.ok at h
  split at h
  all_goals first
    | exact h.elim
    | (rename_i e1 e2; cases e2; done)
    | (rename_i e1 e2; cases e2
       obtain ⟨_, _, _, _, row, cells, h4, _⟩ := h
       exact shape_pos h4)
    | (obtain ⟨_, _, _, _, row, cells, h4, _⟩ := h
       exact shape_pos h4)
    | trace_state

theorem some1_of_ok {r : Reach} {base : Nat} {t : TypeId} {v : Value} (h : Value.okWide P w r base t v) : Some1 w v.cells.toList := by
  intro a l c hm
  unfold Value.okWide at h
  split at h
  · obtain ⟨cs, rfl, _, ts, _, _, h3⟩ := h
    have hm : Value.slice (some a) l c ∈ cs.toList := hm
    obtain ⟨i, hi⟩ := List.getElem?_of_mem hm
    obtain ⟨u, _, h4⟩ := h3 i (.slice (some a) l c) (by simpa using hi)
    exact cellWide_pos h4
  · obtain ⟨cs, rfl, _, ts, _, _, h3⟩ := h
    have hm : Value.slice (some a) l c ∈ cs.toList := hm
    obtain ⟨i, hi⟩ := List.getElem?_of_mem hm
    obtain ⟨u, _, h4⟩ := h3 i (.slice (some a) l c) (by simpa using hi)
    exact cellWide_pos h4
  · cases v with
    | slice a' l' c' =>
      have hm : Value.slice (some a) l c ∈ [Value.slice a' l' c'] := hm
      simp at hm
      obtain ⟨rfl, rfl, rfl⟩ := hm
      exact cellWide_pos h
    | agg cs =>
      exfalso
      unfold Cell.okWide at h
      split at h <;> try (rename_i e1 e2; cases e2)
      unfold Cell.ok at h
      split at h <;> first | exact h | (rename_i e1 e2; cases e2)
    | _ =>
      have hm : Value.slice (some a) l c ∈ [_] := hm
      simp at hm

/-- The arguments. -/
inductive RdA (P : Program) (g : Nat → Option AObj) : List TypeId → List AV → Nat → Prop where
  | nil : RdA P g [] [] 0
  | one {t : TypeId} {ts : List TypeId} {s : SV} {l : List AV} {b bs : Nat} (ha : aggT P t = false) (h : Rd P g t [s] b) (k : RdA P g ts l bs) : RdA P g (t :: ts) (.one s :: l) (b + bs)
  | agg {t : TypeId} {ts : List TypeId} {ss : List SV} {l : List AV} {b bs : Nat} (ha : aggT P t = true) (h : Rd P g t ss b) (k : RdA P g ts l bs) : RdA P g (t :: ts) (.agg ss :: l) (b + bs)

theorem imports_args {T : List TypeId} (hT : plainTs P T = true) {base : Nat} : ∀ (ts : List TypeId) (vs : List Value) (ds : List (DataW H)) (ps : List MemPlace), (∀ t ∈ ts, t ∈ T) →
    DataW.TrodAll enc P w 0 (fun _ => true) true ts vs ds ps → (∀ (j : Nat) (t : TypeId) (v : Value), ts[j]? = some t → vs[j]? = some v → Value.okWide P w .any base t v) →
    ∀ ρ σ, In w ρ σ → ∃ ρ' σ' avs b, Ext ρ σ ρ' σ' ∧ In w ρ' σ' ∧ VRs ρ' avs vs ∧ RdA P σ'.get ts avs b ∧ b ≤ Rows.uptoBulkAll ds
  | [], [], [], ps, _, _, _, ρ, σ, hin => ⟨ρ, σ, [], 0, .refl ρ σ, hin, .nil, .nil, Nat.zero_le _⟩
  | t :: ts, v :: vs, d :: ds, ps, hts, h, hok, ρ, σ, hin => by
    obtain ⟨p, q, ⟨n, h1⟩, h2, _⟩ := h
    have ht : t ∈ T := hts t (by simp)
    have hv := hok 0 t v rfl rfl
    obtain ⟨ρ1, σ1, ss, b1, e1, i1, s1, r1, l1⟩ := imports hT n t ht v.cells.toList (d, p) h1 (some1_of_ok hv) ρ σ hin
    obtain ⟨ρ2, σ2, avs, b2, e2, i2, s2, r2, l2⟩ := imports_args hT ts vs ds q (fun t' ht' => hts t' (by simp [ht'])) h2 (fun j t' v' k1 k2 => hok (j + 1) t' v' (by simpa using k1) (by simpa using k2)) ρ1 σ1 i1
    have hbulk : b1 + b2 ≤ Rows.uptoBulkAll (d :: ds) := by
      simp only [Rows.uptoBulkAll]
      simp only at l1
      omega
    have hp : plainTy P T t = true := List.all_eq_true.1 hT t ht
    cases ha : aggT P t with
    | true =>
      have hagg : ∃ cs, v = .agg cs := by
        unfold aggT at ha
        unfold Value.okWide at hv
        split at ha
        · rename_i e; rw [e] at hv; obtain ⟨cs, rfl, _⟩ := hv; exact ⟨cs, rfl⟩
        · rename_i e; rw [e] at hv; obtain ⟨cs, rfl, _⟩ := hv; exact ⟨cs, rfl⟩
        · cases ha
      obtain ⟨cs, rfl⟩ := hagg
      have hs : SRs ρ2 ss cs.toList := s1.mono e2.le
      refine ⟨ρ2, σ2, .agg ss :: avs, b1 + b2, e1.trans e2, i2, .cons ?_ s2, .agg ha (r1.mono e2.get) r2, hbulk⟩
      have := VR.agg hs
      simpa using this
    | false =>
      have hone : v.cells = #[v] := by
        cases v with
        | agg cs =>
          exfalso
          unfold plainTy at hp
          unfold aggT at ha
          unfold Value.okWide at hv
          split at hp
          all_goals first
            | (cases hp; done)
            | (rename_i e; rw [e] at hv ha; first | (cases ha; done) | (simp only [Cell.okWide, e, Cell.ok] at hv; done))
        | _ => rfl
      rw [hone] at s1
      have hs : ∃ s, ss = [s] ∧ SR ρ1 s v := by
        cases s1 with
        | cons h1 h2 => cases h2; exact ⟨_, rfl, h1⟩
      obtain ⟨s, rfl, hs⟩ := hs
      exact ⟨ρ2, σ2, .one s :: avs, b1 + b2, e1.trans e2, i2, .cons (.one (hs.mono e2.le)) s2, .one ha (r1.mono e2.get) r2, hbulk⟩
  | [], [], _ :: _, _, _, h, _, _, _, _ => h.elim
  | [], _ :: _, _, _, _, h, _, _, _, _ => h.elim
  | _ :: _, [], _, _, _, h, _, _, _, _ => h.elim
  | _ :: _, _ :: _, [], _, _, h, _, _, _, _ => h.elim
end
end Go.Proofs.Ythjijjkoeoemgaa.Ab
