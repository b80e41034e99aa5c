/- A region whose order is open: whatever the order, it ends where the text's order ends. -/
import Derived.Test.YthjijjkoeoemgaaAbDraw1
namespace Go.Proofs.Ythjijjkoeoemgaa.Ab
open Go
set_option linter.unusedSimpArgs false
set_option linter.unusedVariables false

/-- The run in the text's order, and what is known of it. -/
structure Tr (P : Program) (call : CallF) (ops : Array Oper) (n : Nat) (F : Nat → List AV) (H : Nat → AHeap) (V : Nat → AV) (ao : Nat → AOper) (lk : Nat → List Nat)
    (ρ0 : Loc) (w0 : World) (pairs : List (Nat × Nat)) : Prop where
  hn : ops.size = n
  comp : ∀ i, i < n → ∃ o, ops[i]? = some o ∧ compOper P ops o = some (ao i) ∧ (∀ t ∈ (ao i).slots, t ∈ lk i) ∧ (∀ t ∈ o.looksAt ops, t ∈ lk i)
  edge : ∀ i o, ops[i]? = some o → ∀ e ∈ o.after.toList, binding e = true → e.on < i
  unord : ∀ i j, i < j → j < n → Prec ops j i ∨ unordOk pairs i j (ao i, lk i) (ao j, lk j) = true
  step : ∀ i, i < n → (wantedA (F i) (ao i).guard = true ∧ evStep call (F i) (H i) (ao i).op = some (V i, H (i + 1))) ∨ (wantedA (F i) (ao i).guard = false ∧ V i = undefA ∧ H (i + 1) = H i)
  frame : ∀ i, i < n → F (i + 1) = putDst (F i) (ao i).dst (V i)
  canon : ∀ j, j ≤ n → ∃ τ wc tm, Post ρ0 (H 0) w0 τ (H j) wc ∧ FR τ (F j) tm
  prs : ∀ i j, (i, j) ∈ pairs → i < n → j < n → wantedA (F j) (ao j).guard = true → ∀ agg x id off, (ao j).op = .load agg x → ev (F j) x = .one (.ptr id off) → (H (i + 1)).get id = (H i).get id

def Lst (listed : Array Bool) (i : Nat) : Prop := listed.getD i false = true

structure DI (ops : Array Oper) (n : Nat) (F : Nat → List AV) (H : Nat → AHeap) (V : Nat → AV) (ao : Nat → AOper)
    (ρ0 : Loc) (w0 : World) (listed : Array Bool) (a : Act) (w : World) (ρ : Loc) (g : Nat → Option AObj) (k : Nat) : Prop where
  lsz : listed.size = n
  closed : Closed ops (Lst listed)
  mem : ∀ i, i < n → (ao i).op.memAny = true → (Lst listed i ↔ i < k)
  kn : k ≤ n
  hr : HR ρ g w
  born : ∀ id B, ρ id = some B → ∃ b, b ≤ n ∧ id < (H b).size ∧ (b = 0 ∨ ∃ m, b = m + 1 ∧ Lst listed m ∧ (H m).size ≤ id) ∧ g id = (H (max k b)).get id
  le0 : ρ0.le ρ
  own : ∀ m, m < n → Lst listed m → ∀ id, (H m).size ≤ id → id < (H (m + 1)).size → ∃ B, ρ id = some B
  tsz : a.tmps.size = (F 0).length
  defers : a.defers = []
  temps : ∀ t, t < (F 0).length → ∃ x, VR ρ x (a.tmps.getD t undef) ∧ ((x = getSlot (F 0) t ∧ ∀ m, m < n → Lst listed m → (ao m).dst ≠ some t) ∨
    ∃ m, m < n ∧ Lst listed m ∧ (ao m).dst = some t ∧ x = V m ∧ ∀ m', m < m' → m' < n → Lst listed m' → (ao m').dst ≠ some t)
  hsize : w0.heap.size ≤ w.heap.size
  frame : ∀ b, b < w0.heap.size → ¬ Owned ρ0 (H 0).get b → w.heap[b]? = w0.heap[b]?
  fresh : ∀ id B, (H 0).size ≤ id → ρ id = some B → w0.heap.size ≤ B.b ∨ Owned ρ0 (H 0).get B.b
  owned : ∀ b, b < w0.heap.size → Owned ρ g b → Owned ρ0 (H 0).get b
  old : ∀ id, id < (H 0).size → ρ id = ρ0 id
  quiet : ∀ j, j < n → ¬ Lst listed j → ∀ e, e < n → j < e → Lst listed e → (ao e).op.memAny = true → ∀ id, (H j).size ≤ id → id < (H (j + 1)).size → (H (e + 1)).get id = (H e).get id
  os : w.os = w0.os
  tape : w.tape = w0.tape
  output : w.output = w0.output

section
variable {P : Program} {call : CallF} {ops : Array Oper} {n : Nat} {F : Nat → List AV} {H : Nat → AHeap} {V : Nat → AV} {ao : Nat → AOper} {lk : Nat → List Nat}
  {ρ0 : Loc} {w0 : World} {pairs : List (Nat × Nat)}

theorem clash_false {d : Option Nat} {l : List Nat} (h : clash d l = false) : ∀ t, d = some t → t ∉ l := by
  rintro t rfl ht
  unfold clash at h
  simp at h
  exact h ht

theorem unordOk_spec {i j : Nat} {a b : DRow} (h : unordOk pairs i j a b = true) :
    (∀ t, a.1.dst = some t → t ∉ b.2) ∧ (∀ t, b.1.dst = some t → t ∉ a.2) ∧ (∀ t, a.1.dst = some t → b.1.dst ≠ some t) ∧
    ¬ (a.1.op.memAny = true ∧ b.1.op.memAny = true) ∧ (a.1.op.memAny = true → b.1.op.isLoad = true → (i, j) ∈ pairs) ∧ (a.1.op.isLoad = true → b.1.op.memAny = true → (j, i) ∈ pairs) := by
  unfold unordOk at h
  simp only [Bool.and_eq_true, Bool.not_eq_true', Bool.or_eq_true] at h
  obtain ⟨⟨⟨⟨⟨h1, h2⟩, h3⟩, h4⟩, h5⟩, h6⟩ := h
  refine ⟨clash_false h1, clash_false h2, fun t ht e => clash_false h3 t ht (by simp [e]), ?_, ?_, ?_⟩
  · rintro ⟨k1, k2⟩; rw [k1, k2] at h4; cases h4
  · intro k1 k2
    rcases h5 with h5 | h5
    · rw [k1, k2] at h5; cases h5
    · simpa using h5
  · intro k1 k2
    rcases h6 with h6 | h6
    · rw [k1, k2] at h6; cases h6
    · simpa using h6

theorem Tr.mono1 (tr : Tr P call ops n F H V ao lk ρ0 w0 pairs) (hcall : CallOk P call) {j : Nat} (hj : j < n) : (H j).size ≤ (H (j + 1)).size := by
  obtain ⟨τ, wc, tm, hp, hf⟩ := tr.canon j (by omega)
  rcases tr.step j hj with ⟨_, h⟩ | ⟨_, _, h⟩
  · obtain ⟨o, _, hc, _, _⟩ := tr.comp j hj
    obtain ⟨_, hcop, _⟩ := wanted_rel (a := ⟨tm, []⟩) hc hf
    obtain ⟨u, w', ρ', hp2, _⟩ := step_exists hcall (a := ⟨tm, []⟩) hcop hf hp.hr h
    exact hp2.size
  · rw [h]; exact Nat.le_refl _

theorem Tr.mono (tr : Tr P call ops n F H V ao lk ρ0 w0 pairs) (hcall : CallOk P call) : ∀ (d i : Nat), i + d ≤ n → (H i).size ≤ (H (i + d)).size
  | 0, i, _ => Nat.le_refl _
  | d + 1, i, h => Nat.le_trans (Tr.mono tr hcall d i (by omega)) (by have := tr.mono1 hcall (j := i + d) (by omega); rwa [Nat.add_assoc] at this)

theorem Tr.le (tr : Tr P call ops n F H V ao lk ρ0 w0 pairs) (hcall : CallOk P call) {i j : Nat} (h : i ≤ j) (hj : j ≤ n) : (H i).size ≤ (H j).size := by
  have := tr.mono hcall (j - i) i (by omega)
  rwa [show i + (j - i) = j by omega] at this

theorem Tr.stay (tr : Tr P call ops n F H V ao lk ρ0 w0 pairs) {j : Nat} (hj : j < n) (hm : (ao j).op.memAny = false) {id : Nat} (hid : id < (H j).size) : (H (j + 1)).get id = (H j).get id := by
  obtain ⟨τ, wc, tm, hp, hf⟩ := tr.canon j (by omega)
  rcases tr.step j hj with ⟨_, h⟩ | ⟨_, _, h⟩
  · obtain ⟨o, _, hc, _, _⟩ := tr.comp j hj
    obtain ⟨_, hcop, _⟩ := wanted_rel (a := ⟨tm, []⟩) hc hf
    exact step_still (a := ⟨tm, []⟩) hcop hm hf hp.hr.lenRel h id hid
  · rw [h]

theorem Tr.chain (tr : Tr P call ops n F H V ao lk ρ0 w0 pairs) (hcall : CallOk P call) {id : Nat} : ∀ (d lo : Nat), lo + d ≤ n → id < (H lo).size →
    (∀ e, lo ≤ e → e < lo + d → (ao e).op.memAny = true → (H (e + 1)).get id = (H e).get id) → (H (lo + d)).get id = (H lo).get id
  | 0, lo, _, _, _ => rfl
  | d + 1, lo, h, hid, hm => by
    have ih := Tr.chain tr hcall d lo (by omega) hid (fun e h1 h2 => hm e h1 (by omega))
    rw [← ih, ← Nat.add_assoc]
    cases hq : (ao (lo + d)).op.memAny with
    | true => exact hm (lo + d) (by omega) (by omega) hq
    | false => exact tr.stay (by omega) hq (Nat.lt_of_lt_of_le hid (tr.mono hcall d lo (by omega)))

theorem Tr.chain' (tr : Tr P call ops n F H V ao lk ρ0 w0 pairs) (hcall : CallOk P call) {id lo hi : Nat} (h : lo ≤ hi) (hn : hi ≤ n) (hid : id < (H lo).size)
    (hm : ∀ e, lo ≤ e → e < hi → (ao e).op.memAny = true → (H (e + 1)).get id = (H e).get id) : (H hi).get id = (H lo).get id := by
  have := tr.chain hcall (id := id) (hi - lo) lo (by omega) hid (fun e h1 h2 => hm e h1 (by omega))
  rwa [show lo + (hi - lo) = hi by omega] at this

/-- What a slot holds in the text's order. -/
theorem Tr.slot0 (tr : Tr P call ops n F H V ao lk ρ0 w0 pairs) {t : Nat} : ∀ (j : Nat), j ≤ n → (∀ m, m < j → (ao m).dst ≠ some t) → getSlot (F j) t = getSlot (F 0) t
  | 0, _, _ => rfl
  | j + 1, h, hm => by
    rw [tr.frame j (by omega)]
    have ih := Tr.slot0 tr j (by omega) (fun m hm' => hm m (by omega))
    have hd := hm j (by omega)
    cases hq : (ao j).dst with
    | none => exact ih
    | some d =>
      simp only [putDst, getSlot_eq, setSlot_eq]
      rw [List.getElem?_set_ne (fun e => hd (by rw [hq, e])), ← getSlot_eq]
      rw [ih, getSlot_eq]

theorem Tr.flen (tr : Tr P call ops n F H V ao lk ρ0 w0 pairs) : ∀ (j : Nat), j ≤ n → (F j).length = (F 0).length
  | 0, _ => rfl
  | j + 1, h => by
    rw [tr.frame j (by omega), ← Tr.flen tr j (by omega)]
    cases (ao j).dst <;> simp [putDst, setSlot_eq]

theorem Tr.slotV (tr : Tr P call ops n F H V ao lk ρ0 w0 pairs) {t m : Nat} (ht : t < (F 0).length) (hm : m < n) (hd : (ao m).dst = some t) : ∀ (d : Nat), m + 1 + d ≤ n → (∀ m', m < m' → m' < m + 1 + d → (ao m').dst ≠ some t) →
    getSlot (F (m + 1 + d)) t = V m
  | 0, h, _ => by
    simp only [Nat.add_zero]
    rw [tr.frame m hm, hd]
    simp only [putDst, getSlot_eq, setSlot_eq]
    rw [List.getElem?_set_self (by rw [tr.flen m (by omega)]; exact ht)]
    rfl
  | d + 1, h, hno => by
    rw [← Nat.add_assoc, tr.frame (m + 1 + d) (by omega)]
    have ih := Tr.slotV tr ht hm hd d (by omega) (fun m' h1 h2 => hno m' h1 (by omega))
    have hdd := hno (m + 1 + d) (by omega) (by omega)
    cases hq : (ao (m + 1 + d)).dst with
    | none => exact ih
    | some d' =>
      simp only [putDst, getSlot_eq, setSlot_eq]
      rw [List.getElem?_set_ne (fun e => hdd (by rw [hq, e])), ← getSlot_eq]
      exact ih

theorem Lst.lt {listed : Array Bool} {i : Nat} (h : Lst listed i) : i < listed.size := by
  unfold Lst at h
  rcases Nat.lt_or_ge i listed.size with q | q
  · exact q
  · simp [q] at h

theorem Lst.set {listed : Array Bool} {i j : Nat} (hi : i < listed.size) : Lst (listed.setIfInBounds i true) j ↔ Lst listed j ∨ j = i := by
  unfold Lst
  simp only [Array.getD_eq_getD_getElem?, Array.getElem?_setIfInBounds]
  by_cases e : i = j
  · subst e; simp [hi]
  · simp only [e, if_false]
    constructor
    · exact .inl
    · rintro (h | h)
      · exact h
      · exact absurd h.symm e

/-- The slots at which a ready operation looks hold what they hold in the text's order. -/
theorem DI.looked {listed : Array Bool} {a : Act} {w : World} {ρ : Loc} {g : Nat → Option AObj} {k : Nat} (tr : Tr P call ops n F H V ao lk ρ0 w0 pairs)
    (d : DI ops n F H V ao ρ0 w0 listed a w ρ g k) {i : Nat} {o : Oper} (hi : i < n) (ho : ops[i]? = some o) (hun : ¬ Lst listed i) (hready : ∀ e ∈ o.after.toList, binding e = true → Lst listed e.on)
    {t : Nat} (ht : t ∈ lk i) : VR ρ (getSlot (F i) t) (a.tmps.getD t undef) := by
  by_cases hlt : t < (F 0).length
  · obtain ⟨x, hx, hcase⟩ := d.temps t hlt
    have before : ∀ m, m < i → (ao m).dst = some t → Lst listed m := by
      intro m hm hd
      rcases tr.unord m i hm hi with h | h
      · exact d.closed.ready ho hready h
      · exact absurd ht ((unordOk_spec h).1 t hd)
    have after : ∀ m, i < m → m < n → (ao m).dst = some t → ¬ Lst listed m := by
      intro m hm hmn hd hl
      rcases tr.unord i m hm hmn with h | h
      · exact hun (d.closed.prec m i (by rw [tr.hn]; exact hmn) h hl)
      · exact absurd ht ((unordOk_spec h).2.1 t hd)
    rcases hcase with ⟨rfl, hno⟩ | ⟨m, hm, hl, hd, rfl, hlast⟩
    · rw [tr.slot0 i (by omega) (fun m hm hd => hno m (by omega) (before m hm hd) hd)]
      exact hx
    · have hmi : m < i := by
        rcases Nat.lt_trichotomy m i with h | h | h
        · exact h
        · subst h; exact absurd hl hun
        · exact absurd hl (after m h hm hd)
      have := tr.slotV hlt hm hd (i - (m + 1)) (by omega) (fun m' h1 h2 hd' => hlast m' h1 (by omega) (before m' (by omega) hd') hd')
      rw [show m + 1 + (i - (m + 1)) = i by omega] at this
      rw [this]
      exact hx
  · have h1 : getSlot (F i) t = undefA := by
      rw [getSlot_eq, List.getElem?_eq_none (by rw [tr.flen i (by omega)]; omega)]
      rfl
    have h2 : a.tmps.getD t undef = undef := by
      have : a.tmps.size ≤ t := by rw [d.tsz]; omega
      simp [this]
    rw [h1, h2]
    exact VR.undef

/-- Of an operation that is not listed no object is there. -/
theorem DI.absent {listed : Array Bool} {a : Act} {w : World} {ρ : Loc} {g : Nat → Option AObj} {k : Nat} (tr : Tr P call ops n F H V ao lk ρ0 w0 pairs) (hcall : CallOk P call)
    (d : DI ops n F H V ao ρ0 w0 listed a w ρ g k) {i : Nat} (hi : i < n) (hun : ¬ Lst listed i) {id : Nat} (h1 : (H i).size ≤ id) (h2 : id < (H (i + 1)).size) : ρ id = none := by
  cases hq : ρ id with
  | none => rfl
  | some B =>
    obtain ⟨b, hb, hlt, hcase, _⟩ := d.born id B hq
    rcases hcase with rfl | ⟨m, rfl, hl, hm⟩
    · have := tr.le hcall (i := 0) (j := i) (by omega) (by omega)
      omega
    · rcases Nat.lt_trichotomy m i with h | h | h
      · have := tr.le hcall (i := m + 1) (j := i) (by omega) (by omega)
        omega
      · subst h; exact absurd hl hun
      · have := tr.le hcall (i := i + 1) (j := m) (by omega) (by omega)
        omega

/-- An object that is there holds what it holds, in the text's order, ahead of a ready operation: where no unordered operation has touched it. -/
theorem DI.same_at {listed : Array Bool} {a : Act} {w : World} {ρ : Loc} {g : Nat → Option AObj} {k : Nat} (tr : Tr P call ops n F H V ao lk ρ0 w0 pairs) (hcall : CallOk P call)
    (d : DI ops n F H V ao ρ0 w0 listed a w ρ g k) {i : Nat} {o : Oper} (hi : i < n) (ho : ops[i]? = some o) (hun : ¬ Lst listed i) (hready : ∀ e ∈ o.after.toList, binding e = true → Lst listed e.on)
    {id : Nat} {B : Blk} (hB : ρ id = some B) (hid : id < (H i).size)
    (hpair : ∀ e, e < n → (ao e).op.memAny = true → (e < i ∧ ¬ Prec ops i e ∨ i < e ∧ ¬ Prec ops e i) → (H (e + 1)).get id = (H e).get id) : g id = (H i).get id := by
  obtain ⟨b, hb, hlt, hcase, hg⟩ := d.born id B hB
  have hbi : b ≤ i := by
    rcases hcase with rfl | ⟨m, rfl, hl, hm⟩
    · omega
    · rcases Nat.lt_or_ge m i with h | h
      · omega
      · have := tr.le hcall (i := i) (j := m) h (by omega)
        omega
  rw [hg]
  by_cases hk : k ≤ i
  · have hmx : id < (H (max k b)).size := Nat.lt_of_lt_of_le hlt (tr.le hcall (by omega) (by omega))
    refine (tr.chain' hcall (by omega) (by omega) hmx (fun e h1 h2 hm => ?_)).symm
    refine hpair e (by omega) hm (.inl ⟨h2, fun hp => ?_⟩)
    have := (d.mem e (by omega) hm).1 (d.closed.ready ho hready hp)
    omega
  · rw [show max k b = k by omega]
    refine tr.chain' hcall (by omega) d.kn hid (fun e h1 h2 hm => ?_)
    by_cases he : e = i
    · subst he
      exact absurd ((d.mem e hi hm).2 h2) hun
    · refine hpair e (by have := d.kn; omega) hm (.inr ⟨by omega, fun hp => ?_⟩)
      have hen : e < n := by have := d.kn; omega
      exact hun (d.closed.prec e i (by rw [tr.hn]; exact hen) hp ((d.mem e hen hm).2 h2))

/-- One operation more is listed. -/
theorem DI.next {listed : Array Bool} {a : Act} {w w' : World} {ρ ρ' : Loc} {g g' : Nat → Option AObj} {k k' : Nat} {u : Value} (tr : Tr P call ops n F H V ao lk ρ0 w0 pairs)
    (d : DI ops n F H V ao ρ0 w0 listed a w ρ g k) {i : Nat} {o : Oper} (hi : i < n) (ho : ops[i]? = some o) (hun : ¬ Lst listed i) (hready : ∀ e ∈ o.after.toList, binding e = true → Lst listed e.on)
    (hle : ρ.le ρ') (hr' : HR ρ' g' w') (hv : VR ρ' (V i) u)
    (hkn : k' ≤ n) (hmem : ∀ j, j < n → (ao j).op.memAny = true → (Lst listed j ∨ j = i ↔ j < k'))
    (hborn : ∀ id B, ρ' id = some B → ∃ b, b ≤ n ∧ id < (H b).size ∧ (b = 0 ∨ ∃ m, b = m + 1 ∧ (Lst listed m ∨ m = i) ∧ (H m).size ≤ id) ∧ g' id = (H (max k' b)).get id)
    (hown : ∀ id, (H i).size ≤ id → id < (H (i + 1)).size → ∃ B, ρ' id = some B)
    (hsize : w.heap.size ≤ w'.heap.size)
    (hframe : ∀ b, b < w0.heap.size → ¬ Owned ρ0 (H 0).get b → w'.heap[b]? = w.heap[b]?)
    (hfresh : ∀ id B, (H 0).size ≤ id → ρ' id = some B → w0.heap.size ≤ B.b ∨ Owned ρ0 (H 0).get B.b)
    (howned : ∀ b, b < w0.heap.size → Owned ρ' g' b → Owned ρ0 (H 0).get b)
    (hold : ∀ id, id < (H 0).size → ρ' id = ρ id)
    (hquiet : (ao i).op.memAny = true → ∀ j, j < i → ¬ Lst listed j → ∀ id, (H j).size ≤ id → id < (H (j + 1)).size → (H (i + 1)).get id = (H i).get id)
    (hos : w'.os = w.os) (htape : w'.tape = w.tape) (hout : w'.output = w.output) :
    DI ops n F H V ao ρ0 w0 (listed.setIfInBounds i true) (a.put (ao i).dst u) w' ρ' g' k' where
  lsz := by simpa using d.lsz
  closed := fun j oj hoj hl e he hb => by
    have hsz : i < listed.size := by rw [d.lsz]; exact hi
    rw [Lst.set hsz] at hl ⊢
    rcases hl with hl | rfl
    · exact .inl (d.closed j oj hoj hl e he hb)
    · rw [ho] at hoj; cases hoj
      exact .inl (hready e he hb)
  mem := fun j hj hm => by
    have hsz : i < listed.size := by rw [d.lsz]; exact hi
    rw [Lst.set hsz]
    exact hmem j hj hm
  kn := hkn
  hr := hr'
  born := fun id B hB => by
    have hsz : i < listed.size := by rw [d.lsz]; exact hi
    obtain ⟨b, h1, h2, h3, h4⟩ := hborn id B hB
    refine ⟨b, h1, h2, ?_, h4⟩
    rcases h3 with h3 | ⟨m, h5, h6, h7⟩
    · exact .inl h3
    · exact .inr ⟨m, h5, (Lst.set hsz).2 h6, h7⟩
  le0 := d.le0.trans hle
  own := fun m hm hl id h1 h2 => by
    have hsz : i < listed.size := by rw [d.lsz]; exact hi
    rcases (Lst.set hsz).1 hl with hl | rfl
    · obtain ⟨B, hB⟩ := d.own m hm hl id h1 h2
      exact ⟨B, hle _ _ hB⟩
    · exact hown id h1 h2
  tsz := by
    rw [← d.tsz]
    cases (ao i).dst <;> simp [Act.put]
  defers := by
    rw [← d.defers]
    cases (ao i).dst <;> rfl
  temps := fun t ht => by
    have hsz : i < listed.size := by rw [d.lsz]; exact hi
    by_cases hd : (ao i).dst = some t
    · refine ⟨V i, ?_, .inr ⟨i, hi, (Lst.set hsz).2 (.inr rfl), hd, rfl, fun m' h1 h2 hl hd' => ?_⟩⟩
      · rw [hd]
        have : t < a.tmps.size := by rw [d.tsz]; exact ht
        simp only [Act.put, Array.getD_eq_getD_getElem?, Array.getElem?_setIfInBounds]
        simp [this, hv]
      · rcases (Lst.set hsz).1 hl with hl | rfl
        · rcases tr.unord i m' h1 h2 with h | h
          · exact hun (d.closed.prec m' i (by rw [tr.hn]; exact h2) h hl)
          · exact (unordOk_spec h).2.2.1 t hd hd'
        · omega
    · obtain ⟨x, hx, hcase⟩ := d.temps t ht
      have hput : (a.put (ao i).dst u).tmps.getD t undef = a.tmps.getD t undef := by
        cases hq : (ao i).dst with
        | none => rfl
        | some d' =>
          simp only [Act.put, Array.getD_eq_getD_getElem?]
          rw [Array.getElem?_setIfInBounds_ne (fun e => hd (by rw [hq, e]))]
      refine ⟨x, by rw [hput]; exact hx.mono hle, ?_⟩
      rcases hcase with ⟨h1, h2⟩ | ⟨m, h1, h2, h3, h4, h5⟩
      · refine .inl ⟨h1, fun m hm hl => ?_⟩
        rcases (Lst.set hsz).1 hl with hl | rfl
        · exact h2 m hm hl
        · exact hd
      · refine .inr ⟨m, h1, (Lst.set hsz).2 (.inl h2), h3, h4, fun m' k1 k2 hl => ?_⟩
        rcases (Lst.set hsz).1 hl with hl | rfl
        · exact h5 m' k1 k2 hl
        · exact hd
  hsize := Nat.le_trans d.hsize hsize
  frame := fun b hb hno => by rw [hframe b hb hno, d.frame b hb hno]
  fresh := hfresh
  owned := howned
  old := fun id hid => by rw [hold id hid, d.old id hid]
  quiet := fun j hj hnl e he hje hl hm id h1 h2 => by
    have hsz : i < listed.size := by rw [d.lsz]; exact hi
    rw [Lst.set hsz] at hnl hl
    rcases hl with hl | rfl
    · exact d.quiet j hj (fun h => hnl (.inl h)) e he hje hl hm id h1 h2
    · exact hquiet hm j hje (fun h => hnl (.inl h)) id h1 h2
  os := hos.trans d.os
  tape := htape.trans d.tape
  output := hout.trans d.output

end
end Go.Proofs.Ythjijjkoeoemgaa.Ab
