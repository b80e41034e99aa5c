/- A region whose order is open: the facts that its edges give, the run in the text's order, and memory relations cut and joined. -/
import Derived.Test.YthjijjkoeoemgaaAbMask
namespace Go.Proofs.Ythjijjkoeoemgaa.Ab
open Go
set_option linter.unusedSimpArgs false
set_option linter.unusedVariables false

/-! ### what the edges say -/
def ancStep (o : Oper) (acc : List Nat) : Nat := o.after.toList.foldl (fun s e => if binding e then s ||| (2 ^ e.on) ||| (acc[e.on]?).getD 0 else s) 0

theorem ancs_cons (o : Oper) (l : List Oper) (acc : List Nat) : ancs (o :: l) acc = ancs l (acc ++ [ancStep o acc]) := rfl

theorem ancs_pre : ∀ (l : List Oper) (acc : List Nat), ∃ t, ancs l acc = acc ++ t
  | [], acc => ⟨[], by simp [ancs]⟩
  | o :: l, acc => by
    obtain ⟨t, ht⟩ := ancs_pre l (acc ++ [ancStep o acc])
    exact ⟨ancStep o acc :: t, by rw [ancs_cons, ht]; simp⟩

theorem ancs_at : ∀ (l : List Oper) (acc : List Nat) (j : Nat) (o : Oper), l[j]? = some o →
    (ancs l acc)[acc.length + j]? = some (ancStep o ((ancs l acc).take (acc.length + j)))
  | [], acc, j, o, h => by simp at h
  | p :: l, acc, 0, o, h => by
    simp at h
    subst h
    obtain ⟨t, ht⟩ := ancs_pre l (acc ++ [ancStep p acc])
    rw [ancs_cons, ht]
    simp
  | p :: l, acc, j + 1, o, h => by
    have h' : l[j]? = some o := by simpa using h
    have := ancs_at l (acc ++ [ancStep p acc]) j o h'
    rw [ancs_cons]
    have e : (acc ++ [ancStep p acc]).length + j = acc.length + (j + 1) := by simp; omega
    rwa [e] at this

def Prec (ops : Array Oper) (j i : Nat) : Prop := ∃ a, (ancs ops.toList [])[j]? = some a ∧ a.testBit i = true

theorem fold_testBit (A : Nat → Nat) (i : Nat) : ∀ (l : List Edge) (s : Nat), (l.foldl (fun s e => if binding e then s ||| (2 ^ e.on) ||| A e.on else s) s).testBit i = true →
    s.testBit i = true ∨ ∃ e ∈ l, binding e = true ∧ (e.on = i ∨ (A e.on).testBit i = true)
  | [], s, h => .inl h
  | e :: l, s, h => by
    simp only [List.foldl_cons] at h
    rcases fold_testBit A i l _ h with h1 | ⟨e', h1, h2⟩
    · split at h1
      · rename_i hb
        rw [Nat.testBit_or, Nat.testBit_or, Nat.testBit_two_pow] at h1
        simp only [Bool.or_eq_true, decide_eq_true_eq] at h1
        rcases h1 with (h1 | h1) | h1
        · exact .inl h1
        · exact .inr ⟨e, by simp, hb, .inl h1⟩
        · exact .inr ⟨e, by simp, hb, .inr h1⟩
      · exact .inl h1
    · exact .inr ⟨e', by simp [h1], h2⟩

theorem Prec.edge {ops : Array Oper} {j i : Nat} {o : Oper} (ho : ops[j]? = some o) (h : Prec ops j i) :
    ∃ e ∈ o.after.toList, binding e = true ∧ (e.on = i ∨ (e.on < j ∧ Prec ops e.on i)) := by
  obtain ⟨a, h1, h2⟩ := h
  have h3 := ancs_at ops.toList [] j o (by simpa using ho)
  simp only [List.length_nil, Nat.zero_add] at h3
  rw [h1] at h3
  cases h3
  unfold ancStep at h2
  rcases fold_testBit (fun e => (((ancs ops.toList []).take j)[e]?).getD 0) i o.after.toList 0 h2 with h | ⟨e, he, hb, h4⟩
  · simp at h
  · refine ⟨e, he, hb, ?_⟩
    rcases h4 with h4 | h4
    · exact .inl h4
    · right
      simp only [List.getElem?_take] at h4
      split at h4
      · rename_i hlt
        refine ⟨hlt, ?_⟩
        cases hq : (ancs ops.toList [])[e.on]? with
        | none => rw [hq] at h4; simp at h4
        | some a => rw [hq] at h4; exact ⟨a, hq, by simpa using h4⟩
      · simp at h4

/-- A set of operations that holds, with each, all that its edges name. -/
def Closed (ops : Array Oper) (S : Nat → Prop) : Prop := ∀ j o, ops[j]? = some o → S j → ∀ e ∈ o.after.toList, binding e = true → S e.on

theorem Closed.prec {ops : Array Oper} {S : Nat → Prop} (hS : Closed ops S) : ∀ (j i : Nat), j < ops.size → Prec ops j i → S j → S i := by
  intro j
  induction j using Nat.strongRecOn with
  | _ j ih =>
    intro i hj hp hs
    have ho : ops[j]? = some ops[j] := by simp [hj]
    obtain ⟨e, he, hb, h | ⟨hlt, h⟩⟩ := hp.edge ho
    · subst h; exact hS j _ ho hs e he hb
    · exact ih e.on hlt i (by omega) h (hS j _ ho hs e he hb)

theorem Closed.ready {ops : Array Oper} {S : Nat → Prop} (hS : Closed ops S) {i m : Nat} {o : Oper} (ho : ops[i]? = some o) (hr : ∀ e ∈ o.after.toList, binding e = true → S e.on) (hp : Prec ops i m) : S m := by
  obtain ⟨e, he, hb, h | ⟨hlt, h⟩⟩ := hp.edge ho
  · subst h; exact hr e he hb
  · exact hS.prec e.on m (by have := (Array.getElem?_eq_some_iff.1 ho).1; omega) h (hr e he hb)

theorem edgesOk_at : ∀ (l : List Oper) (j k : Nat) (o : Oper), edgesOk j l = true → l[k]? = some o → ∀ e ∈ o.after.toList, binding e = true → e.on < j + k
  | [], j, k, o, h, ho => by simp at ho
  | p :: l, j, 0, o, h, ho => by
    simp at ho
    subst ho
    simp only [edgesOk, Bool.and_eq_true, List.all_eq_true] at h
    intro e he hb
    have := h.1 e he
    rw [hb] at this
    simpa [Nat.blt_eq] using this
  | p :: l, j, k + 1, o, h, ho => by
    simp only [edgesOk, Bool.and_eq_true] at h
    intro e he hb
    have := edgesOk_at l (j + 1) k o h.2 (by simpa using ho) e he hb
    omega

theorem drawRow_at (pairs : List (Nat × Nat)) (anc j : Nat) (b : DRow) : ∀ (l : List DRow) (i t : Nat) (a : DRow), drawRow pairs anc j b i l = true → l[t]? = some a →
    anc.testBit (i + t) = true ∨ j ≤ i + t ∨ unordOk pairs (i + t) j a b = true
  | [], i, t, a, h, ha => by simp at ha
  | c :: l, i, 0, a, h, ha => by
    simp at ha
    subst ha
    simp only [drawRow, Bool.and_eq_true, Bool.or_eq_true] at h
    rcases h.1 with (h1 | h1) | h1
    · exact .inl h1
    · exact .inr (.inl (Nat.le_of_ble_eq_true h1))
    · exact .inr (.inr h1)
  | c :: l, i, t + 1, a, h, ha => by
    simp only [drawRow, Bool.and_eq_true] at h
    have := drawRow_at pairs anc j b l (i + 1) t a h.2 (by simpa using ha)
    rwa [show i + 1 + t = i + (t + 1) by omega] at this

theorem drawRows_at (pairs : List (Nat × Nat)) (rows : List DRow) : ∀ (as : List Nat) (l : List DRow) (j t : Nat) (anc : Nat) (b : DRow), drawRows pairs rows j as l = true → as[t]? = some anc → l[t]? = some b →
    drawRow pairs anc (j + t) b 0 rows = true
  | [], l, j, t, anc, b, h, h1, h2 => by simp at h1
  | a :: as, [], j, t, anc, b, h, h1, h2 => by simp at h2
  | a :: as, c :: l, j, 0, anc, b, h, h1, h2 => by
    simp at h1 h2
    subst h1; subst h2
    simp only [drawRows, Bool.and_eq_true] at h
    exact h.1
  | a :: as, c :: l, j, t + 1, anc, b, h, h1, h2 => by
    simp only [drawRows, Bool.and_eq_true] at h
    have := drawRows_at pairs rows as l (j + 1) t anc b h.2 (by simpa using h1) (by simpa using h2)
    rwa [show j + 1 + t = j + (t + 1) by omega] at this

theorem dRows_at (ops : Array Oper) : ∀ (l : List Oper) (m : List AOper) (t : Nat) (o : Oper) (a : AOper), l[t]? = some o → m[t]? = some a → (dRows ops l m)[t]? = some (a, a.slots ++ o.looksAt ops)
  | [], m, t, o, a, h, _ => by simp at h
  | p :: l, [], t, o, a, _, h => by simp at h
  | p :: l, b :: m, 0, o, a, h1, h2 => by simp at h1 h2; subst h1; subst h2; rfl
  | p :: l, b :: m, t + 1, o, a, h1, h2 => by
    simp only [dRows, List.getElem?_cons_succ]
    exact dRows_at ops l m t o a (by simpa using h1) (by simpa using h2)

theorem compOpers_at {P : Program} {ops : Array Oper} : ∀ (l : List Oper) (m : List AOper) (t : Nat) (o : Oper), compOpers P ops l = some m → l[t]? = some o → ∃ a, m[t]? = some a ∧ compOper P ops o = some a
  | [], m, t, o, _, h => by simp at h
  | p :: l, m, t, o, hc, h => by
    simp only [compOpers] at hc
    split at hc
    · rename_i a r h1 h2
      cases hc
      cases t with
      | zero => simp at h; subst h; exact ⟨a, rfl, h1⟩
      | succ t => exact compOpers_at l r t o h2 (by simpa using h)
    · cases hc

theorem compOpers_length {P : Program} {ops : Array Oper} : ∀ (l : List Oper) (m : List AOper), compOpers P ops l = some m → m.length = l.length
  | [], m, hc => by cases hc; rfl
  | p :: l, m, hc => by
    simp only [compOpers] at hc
    split at hc
    · rename_i a r h1 h2
      cases hc
      simp [compOpers_length l r h2]
    · cases hc

/-! ### the run in the text's order -/
theorem evTr_spec {call : CallF} : ∀ (al : List AOper) (fr : List AV) (σ : AHeap) (tt : List (List AV × AHeap)) (fr' : List AV) (σ' : AHeap), evTr call al fr σ = some (tt, fr', σ') →
    tt.length = al.length + 1 ∧ tt[0]? = some (fr, σ) ∧ tt[al.length]? = some (fr', σ') ∧
    ∀ i o, al[i]? = some o → ∃ f s f2 s2, tt[i]? = some (f, s) ∧ tt[i + 1]? = some (f2, s2) ∧ evOper call f s o = some (f2, s2)
  | [], fr, σ, tt, fr', σ', h => by
    cases h
    exact ⟨rfl, rfl, rfl, fun i o hi => by simp at hi⟩
  | o :: l, fr, σ, tt, fr', σ', h => by
    simp only [evTr] at h
    split at h
    · rename_i f1 s1 h1
      split at h
      · rename_i t f2 s2 h2
        cases h
        obtain ⟨k1, k2, k3, k4⟩ := evTr_spec l f1 s1 t fr' σ' h2
        refine ⟨by simp [k1], rfl, by simpa using k3, fun i p hi => ?_⟩
        cases i with
        | zero =>
          simp at hi
          subst hi
          exact ⟨fr, σ, f1, s1, rfl, by simpa using k2, h1⟩
        | succ i =>
          obtain ⟨f, s, f2, s2, q1, q2, q3⟩ := k4 i p (by simpa using hi)
          exact ⟨f, s, f2, s2, by simpa using q1, by simpa using q2, q3⟩
      · cases h
    · cases h

section
variable {P : Program}

/-- One operation goes somewhere. -/
theorem step_exists {call : CallF} (hcall : CallOk P call) {ρ : Loc} {o : Oper} {aop : AOp} {fr : List AV} {a : Act} {σ σ' : AHeap} {v : AV} {w : World} (hc : compOp P o.op = some aop)
    (hf : FR ρ fr a.tmps) (hr : HR ρ σ.get w) (he : evStep call fr σ aop = some (v, σ')) : ∃ u w' ρ', Post ρ σ w ρ' σ' w' ∧ VR ρ' v u := by
  by_cases hcl : ∃ f args, aop = .call f args
  · obtain ⟨f, args, rfl⟩ := hcl
    simp only [evStep] at he
    split at he
    · rename_i g caps e
      obtain ⟨h1, h2⟩ := hcall _ _ _ _ _ he
      obtain ⟨vs, h3, h4⟩ := call_enter hc hf e h1
      obtain ⟨e, w', _, ⟨u, ρ', rfl, h5, h6⟩, _⟩ := h2 ρ w vs h3 hr []
      exact ⟨u, w', ρ', h5, h6⟩
    · cases he
  · rw [evStep_notcall (fun f args e => hcl ⟨f, args, e⟩)] at he
    obtain ⟨r, u, w', ρ', h1, h2, h3, h4⟩ := op_sim hc hf hr he
    exact ⟨u, w', ρ', h3, h4⟩

/-- An operation that is no memory's: it leaves the heap, or makes one object. -/
theorem step_still {call : CallF} {ρ : Loc} {o : Oper} {aop : AOp} {fr : List AV} {a : Act} {σ σ' : AHeap} {v : AV} (hc : compOp P o.op = some aop) (hm : aop.memAny = false)
    (hf : FR ρ fr a.tmps) (hl : LenRel ρ σ.get) (he : evStep call fr σ aop = some (v, σ')) : ∀ id, id < σ.size → σ'.get id = σ.get id := by
  have hnc : ∀ f args, aop ≠ .call f args := by rintro f args rfl; cases hm
  rw [evStep_notcall hnc] at he
  have hmm : aop.mem = false := by cases aop <;> first | rfl | exact hm
  rcases op_class hc hf hl he with ⟨_, rfl, _⟩ | ⟨_, _, _, rfl, _⟩ | ⟨_, cs, _, _, rfl, _⟩ | ⟨h, _⟩
  · exact fun _ _ => rfl
  · exact fun _ _ => rfl
  · exact fun id hid => by rw [AHeap.get_alloc, if_neg (by omega)]
  · rw [hmm] at h; cases h

end

/-! ### relations cut and joined -/
theorem SRs.cells_cut {ρ τ : Loc} {n : Nat} {w wc : World} {B B' : Blk} {cs : List SV} (hd : τ.dom n) (h : Holds ρ w B cs) (k : Holds τ wc B' cs) : Holds (ρ.cut n) w B cs := by
  obtain ⟨vs, h1, h2⟩ := h
  obtain ⟨us, k1, _⟩ := k
  exact ⟨vs, h1.cut hd k1, h2⟩

/-- The relation, of the objects below n alone: what they name lies below n. -/
theorem HR.restrict {ρ τ : Loc} {g g' : Nat → Option AObj} {w wc : World} {n : Nat} (h : HR ρ g w) (k : HR τ g' wc) (hd : τ.dom n)
    (hg : ∀ id B, ρ id = some B → id < n → g' id = g id ∧ τ id ≠ none) : HR (ρ.cut n) g' w where
  dom := fun id B hB => by
    unfold Loc.cut at hB
    split at hB
    · rename_i hlt
      obtain ⟨o, h1, h2, h3⟩ := h.dom id B hB
      obtain ⟨e, ht⟩ := hg id B hB hlt
      obtain ⟨B', hB'⟩ := Option.ne_none_iff_exists'.1 ht
      obtain ⟨o', k1, k2, k3⟩ := k.dom id B' hB'
      rw [e, h1] at k1
      cases k1
      exact ⟨o, by rw [e]; exact h1, ⟨h2.len, h2.fit, fun hd' => SRs.cells_cut hd (h2.holds hd') (k2.holds hd'), h2.own⟩, h3⟩
    · cases hB
  excl := fun i j B B' o o' h1 h2 h3 h4 hne h5 h6 => by
    unfold Loc.cut at h1 h2
    split at h1
    · rename_i hi
      split at h2
      · rename_i hj
        rw [(hg i B h1 hi).1] at h3
        rw [(hg j B' h2 hj).1] at h4
        exact h.excl i j B B' o o' h1 h2 h3 h4 hne h5 h6
      · cases h2
    · cases h1

/-- One object more. -/
theorem HR.alloc {ρ : Loc} {g : Nat → Option AObj} {w : World} {n : Nat} {cs : List SV} {vs : List Value} {t : TypeId} (h : HR ρ g w) (hn : ρ n = none) (hv : SRs ρ cs vs) :
    HR (ρ.upd n ⟨w.heap.size, 0, vs.length, cs.length⟩) (fun id => if id = n then some ⟨cs, .own⟩ else g id) (w.alloc (.cells vs.toArray t)) := by
  have hle := Loc.le_upd hn (B := ⟨w.heap.size, 0, vs.length, cs.length⟩)
  have hold : ∀ k, k < w.heap.size → (w.alloc (.cells vs.toArray t)).heap[k]? = w.heap[k]? := by
    intro k hk
    show (w.heap.push _)[k]? = _
    rw [Array.getElem?_push, if_neg (by omega)]
  have hnew : (w.alloc (.cells vs.toArray t)).heap[w.heap.size]? = some (.cells vs.toArray t) := by
    show (w.heap.push _)[w.heap.size]? = _
    simp
  have hlt : ∀ i B, (ρ.upd n ⟨w.heap.size, 0, vs.length, cs.length⟩) i = some B → i ≠ n → ρ i = some B ∧ B.b < w.heap.size := by
    intro i B hB hi
    unfold Loc.upd at hB
    rw [if_neg hi] at hB
    obtain ⟨o, h1, h2, h3⟩ := h.dom i B hB
    exact ⟨hB, h3⟩
  have hself : ∀ B, (ρ.upd n ⟨w.heap.size, 0, vs.length, cs.length⟩) n = some B → B = ⟨w.heap.size, 0, vs.length, cs.length⟩ := by
    intro B hB
    simp [Loc.upd] at hB
    exact hB.symm
  constructor
  · intro id B hB
    by_cases e : id = n
    · subst e
      have := hself B hB
      subst this
      refine ⟨⟨cs, .own⟩, by simp, ⟨rfl, by simp [hv.length], fun _ => ⟨vs, hv.mono hle, fun j v hj => ?_⟩, fun _ => ⟨vs.toArray, t, (0, 0), hnew, by simp, fun o _ => by omega⟩⟩, by simp⟩
      simp only [World.cell?, hnew]
      simpa using hj
    · obtain ⟨k1, k2⟩ := hlt id B hB e
      obtain ⟨o, h1, h2, h3⟩ := h.dom id B k1
      exact ⟨o, by rw [if_neg e]; exact h1, h2.of_heap hle (hold _ k2), by simp; omega⟩
  · intro i j B B' o o' h1 h2 h3 h4 hne h5 h6
    by_cases e : i = n
    · subst e
      have e1 := hself B h1
      have := (hlt j B' h2 (fun e => hne e.symm)).2
      subst e1
      simp only
      omega
    · obtain ⟨k1, k2⟩ := hlt i B h1 e
      by_cases e' : j = n
      · subst e'
        have e1 := hself B' h2
        subst e1
        simp only
        omega
      · obtain ⟨q1, q2⟩ := hlt j B' h2 e'
        rw [if_neg e] at h3
        rw [if_neg e'] at h4
        exact h.excl i j B B' o o' k1 q1 h3 h4 hne h5 h6

/-- Two places, the first where it knows one. -/
def Loc.join (ρ ρ1 : Loc) : Loc := fun id => match ρ id with
  | some B => some B
  | none => ρ1 id

theorem Loc.le_join (ρ ρ1 : Loc) : ρ.le (ρ.join ρ1) := by
  intro id B h
  unfold Loc.join
  rw [h]

/-- What an operation has done that knows the objects below n, told of all. -/
theorem HR.merge {ρ ρ1 : Loc} {g : Nat → Option AObj} {σ σ1 : AHeap} {w w1 : World} (h : HR ρ g w) (hp : Post (ρ.cut σ.size) σ w ρ1 σ1 w1)
    (hg : ∀ id B, ρ id = some B → id < σ.size → σ.get id = g id) (hno : ∀ id, σ.size ≤ id → id < σ1.size → ρ id = none) :
    HR (ρ.join ρ1) (fun id => if id < σ1.size then σ1.get id else g id) w1 ∧ ρ1.le (ρ.join ρ1) := by
  have hcut : ∀ id, id < σ.size → ρ1 id = ρ id := by
    intro id hid
    rw [hp.old id hid]
    unfold Loc.cut
    rw [if_pos hid]
  have hle1 : ρ1.le (ρ.join ρ1) := by
    intro id B hB
    unfold Loc.join
    by_cases hid : id < σ.size
    · rw [hcut id hid] at hB
      rw [hB]
    · rw [hno id (by omega) (hp.dom id B hB)]
      exact hB
  have hjoin : ∀ id B, (ρ.join ρ1) id = some B → (id < σ1.size ∧ ρ1 id = some B) ∨ (σ1.size ≤ id ∧ ρ id = some B) := by
    intro id B hB
    unfold Loc.join at hB
    by_cases hid : id < σ.size
    · left
      refine ⟨Nat.lt_of_lt_of_le hid hp.size, ?_⟩
      rw [hcut id hid]
      cases hq : ρ id with
      | none => rw [hq] at hB; rw [hcut id hid, hq] at hB; cases hB
      | some B' => rw [hq] at hB; exact hB
    · by_cases hid1 : id < σ1.size
      · rw [hno id (by omega) hid1] at hB
        exact .inl ⟨hid1, hB⟩
      · right
        refine ⟨by omega, ?_⟩
        cases hq : ρ id with
        | none =>
          rw [hq] at hB
          exact absurd (hp.dom id B hB) hid1
        | some B' => rw [hq] at hB; exact hB
  -- an object that was there later: its block has stayed
  have later : ∀ id B o, σ1.size ≤ id → ρ id = some B → g id = some o → o.md ≠ .dead → ¬ Owned (ρ.cut σ.size) σ.get B.b := by
    rintro id B o hid hB ho hd ⟨i, B', o', k1, k2, k3, k4⟩
    unfold Loc.cut at k1
    split at k1
    · rename_i hi
      have := h.excl i id B' B o' o k1 hB (by rw [← hg i B' k1 hi]; exact k2) ho (by have := hp.size; omega) k3 hd
      exact this k4
    · cases k1
  refine ⟨⟨?_, ?_⟩, hle1⟩
  · intro id B hB
    rcases hjoin id B hB with ⟨hid, hB1⟩ | ⟨hid, hB1⟩
    · obtain ⟨o, k1, k2, k3⟩ := hp.hr.dom id B hB1
      exact ⟨o, by rw [if_pos hid]; exact k1, k2.of_heap hle1 rfl, k3⟩
    · obtain ⟨o, k1, k2, k3⟩ := h.dom id B hB1
      refine ⟨o, by rw [if_neg (by omega)]; exact k1, ?_, Nat.lt_of_lt_of_le k3 hp.hsize⟩
      by_cases hd : o.md = .dead
      · exact ⟨k2.len, k2.fit, fun hn => absurd hd hn, fun hn => by rw [hd] at hn; cases hn⟩
      · exact k2.of_heap (Loc.le_join ρ ρ1) (hp.frame B.b k3 (later id B o hid hB1 k1 hd))
  · intro i j B B' o o' h1 h2 h3 h4 hne h5 h6
    rcases hjoin i B h1 with ⟨hi, hB1⟩ | ⟨hi, hB1⟩
    · rw [if_pos hi] at h3
      rcases hjoin j B' h2 with ⟨hj, hB2⟩ | ⟨hj, hB2⟩
      · rw [if_pos hj] at h4
        exact hp.hr.excl i j B B' o o' hB1 hB2 h3 h4 hne h5 h6
      · rw [if_neg (by omega)] at h4
        have hl := later j B' o' hj hB2 h4 h6
        obtain ⟨_, _, _, k3⟩ := h.dom j B' hB2
        intro e
        apply hl
        rw [← e]
        have hown : Owned ρ1 σ1.get B.b := ⟨i, B, o, hB1, h3, h5, rfl⟩
        exact hp.owned (by rw [e]; exact k3) hown
    · rw [if_neg (by omega)] at h3
      rcases hjoin j B' h2 with ⟨hj, hB2⟩ | ⟨hj, hB2⟩
      · rw [if_pos hj] at h4
        obtain ⟨_, _, _, k3⟩ := h.dom i B hB1
        have hl := later i B o hi hB1 h3 (by rw [h5]; simp)
        by_cases hjo : j < σ.size
        · -- an old object, alive
          rw [hcut j hjo] at hB2
          have hcB : (ρ.cut σ.size) j = some B' := by unfold Loc.cut; rw [if_pos hjo]; exact hB2
          obtain ⟨oj, m1, m2, m3⟩ := h.dom j B' hB2
          have hsj : σ.get j = some oj := by rw [hg j B' hB2 hjo]; exact m1
          refine h.excl i j B B' o oj hB1 hB2 h3 m1 hne h5 (fun hd => h6 ?_)
          obtain ⟨o2, n1, n2⟩ := hp.md' j B' oj hcB hsj hd
          rw [h4] at n1
          cases n1
          exact n2
        · rcases hp.fresh j B' (by omega) hB2 with q | q
          · intro e; omega
          · intro e; rw [← e] at q; exact hl q
      · rw [if_neg (by omega)] at h4
        exact h.excl i j B B' o o' hB1 hB2 h3 h4 hne h5 h6

end Go.Proofs.Ythjijjkoeoemgaa.Ab
