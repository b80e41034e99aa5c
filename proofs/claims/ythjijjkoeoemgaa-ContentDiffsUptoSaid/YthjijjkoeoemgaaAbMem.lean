/- What a new block, a store, and an append that stays in place do to the relation. -/
import Derived.Test.YthjijjkoeoemgaaAbRel
namespace Go.Proofs.Ythjijjkoeoemgaa.Ab
open Go
set_option linter.unusedSimpArgs false
set_option linter.unusedVariables false

def Loc.upd (ρ : Loc) (n : Nat) (B : Blk) : Loc := fun id => if id = n then some B else ρ id

theorem Loc.le_upd {ρ : Loc} {n : Nat} (h : ρ n = none) (B : Blk) : ρ.le (ρ.upd n B) := by
  intro id B' hB
  unfold Loc.upd
  by_cases e : id = n
  · subst e; rw [h] at hB; cases hB
  · rw [if_neg e]; exact hB

theorem HR.none_size {ρ : Loc} {σ : AHeap} {w : World} (h : HR ρ σ.get w) {n : Nat} (hn : σ.size ≤ n) : ρ n = none := by
  cases hB : ρ n with
  | none => rfl
  | some B => exact absurd (h.lt hB) (by omega)

theorem Own.of_heap {w w' : World} {B : Blk} (h : Own w B) (e : w'.heap[B.b]? = w.heap[B.b]?) : Own w' B := by
  obtain ⟨cur, t, fz, h1, h2, h3⟩ := h
  exact ⟨cur, t, fz, by rw [e]; exact h1, h2, h3⟩

theorem cell_of_heap {w w' : World} {b o : Nat} (e : w'.heap[b]? = w.heap[b]?) : w'.cell? ⟨b, o, none⟩ = w.cell? ⟨b, o, none⟩ := by
  unfold World.cell?
  simp only [e]

theorem ObjOk.of_heap {ρ ρ' : Loc} {w w' : World} {B : Blk} {o : AObj} (hl : ρ.le ρ') (h : ObjOk ρ w B o) (e : w'.heap[B.b]? = w.heap[B.b]?) : ObjOk ρ' w' B o where
  len := h.len
  fit := h.fit
  holds := fun hd => by
    obtain ⟨vs, h1, h2⟩ := h.holds hd
    exact ⟨vs, h1.mono hl, fun j v hj => by rw [cell_of_heap e]; exact h2 j v hj⟩
  own := fun ho => (h.own ho).of_heap e

/-- A world with the same heap. -/
theorem HR.of_heap {ρ : Loc} {g : Nat → Option AObj} {w w' : World} (h : HR ρ g w) (e : w'.heap = w.heap) : HR ρ g w' where
  dom := fun id B hB => by
    obtain ⟨o, h1, h2, h3⟩ := h.dom id B hB
    exact ⟨o, h1, h2.of_heap (.refl ρ) (by rw [e]), by rw [e]; exact h3⟩
  excl := h.excl

theorem Post.of_heap {ρ : Loc} {σ : AHeap} {w w' : World} (h : HR ρ σ.get w) (e : w'.heap = w.heap) (h1 : w'.os = w.os) (h2 : w'.tape = w.tape) (h3 : w'.output = w.output) : Post ρ σ w ρ σ w' :=
  { Post.refl h with hr := h.of_heap e, hsize := by rw [e]; exact Nat.le_refl _, frame := fun _ _ _ => by rw [e], os := h1, tape := h2, output := h3 }

/-- A new block. -/
theorem Post.alloc {ρ : Loc} {σ : AHeap} {w : World} (h : HR ρ σ.get w) {cs : List SV} {vs extra : List Value} {t : TypeId} {fz : Nat × Nat} {arr : Array Value}
    (hv : SRs ρ cs vs) (ha : arr = (vs ++ extra).toArray) (hfz : ∀ o, o < arr.size → ¬ (fz.1 ≤ o ∧ o < fz.2)) :
    Post ρ σ w (ρ.upd σ.size ⟨w.heap.size, 0, arr.size, cs.length⟩) (σ.alloc ⟨cs, .own⟩) (w.alloc (.cells arr t fz)) := by
  have hnone : ρ σ.size = none := h.none_size (Nat.le_refl _)
  have hle := Loc.le_upd hnone (B := ⟨w.heap.size, 0, arr.size, cs.length⟩)
  have hold : ∀ k, k < w.heap.size → (w.alloc (.cells arr t fz)).heap[k]? = w.heap[k]? := by
    intro k hk
    show (w.heap.push _)[k]? = _
    rw [Array.getElem?_push, if_neg (by omega)]
  have hnew : (w.alloc (.cells arr t fz)).heap[w.heap.size]? = some (.cells arr t fz) := by
    show (w.heap.push _)[w.heap.size]? = _
    simp
  have hok : ObjOk (ρ.upd σ.size ⟨w.heap.size, 0, arr.size, cs.length⟩) (w.alloc (.cells arr t fz)) ⟨w.heap.size, 0, arr.size, cs.length⟩ ⟨cs, .own⟩ := by
    refine ⟨rfl, by simp [ha, hv.length], fun _ => ⟨vs, hv.mono hle, fun j v hj => ?_⟩, fun _ => ⟨arr, t, fz, hnew, rfl, hfz⟩⟩
    · simp only [World.cell?, hnew]
      simp only [ha, Nat.zero_add, Option.isSome_none, Bool.false_eq_true, if_false, List.getElem?_toArray]
      rw [List.getElem?_append_left (List.getElem?_eq_some_iff.1 hj).1]
      exact hj
  have hlt : ∀ i B, (ρ.upd σ.size ⟨w.heap.size, 0, arr.size, cs.length⟩) i = some B → i ≠ σ.size → ρ i = some B ∧ B.b < w.heap.size ∧ i < σ.size := by
    intro i B hB hi
    unfold Loc.upd at hB
    rw [if_neg hi] at hB
    obtain ⟨o, h1, h2, h3⟩ := h.dom i B hB
    exact ⟨hB, h3, AHeap.get_lt h1⟩
  have hself : ∀ B, (ρ.upd σ.size ⟨w.heap.size, 0, arr.size, cs.length⟩) σ.size = some B → B = ⟨w.heap.size, 0, arr.size, cs.length⟩ := by
    intro B hB
    simp [Loc.upd] at hB
    exact hB.symm
  exact {
    le := hle
    size := by simp [AHeap.size_alloc]
    new := fun id h1 h2 => by
      have : id = σ.size := by rw [AHeap.size_alloc] at h2; omega
      subst this
      exact ⟨_, by simp [Loc.upd]; rfl⟩
    old := fun id hid => by unfold Loc.upd; rw [if_neg (by omega)]
    dom := fun id B hB => by
      rw [AHeap.size_alloc]
      by_cases e : id = σ.size
      · omega
      · have := (hlt id B hB e).2.2; omega
    same := fun id h1 h2 => by rw [AHeap.get_alloc, if_neg (by omega)]
    md := fun id B o' h1 h2 h3 => by
      have := h.lt h1
      rw [AHeap.get_alloc, if_neg (by omega)] at h2
      exact ⟨o', h2, h3⟩
    md' := fun id B o h1 h2 h3 => by
      have := h.lt h1
      exact ⟨o, by rw [AHeap.get_alloc, if_neg (by omega)]; exact h2, h3⟩
    hr := {
      dom := fun id B hB => by
        by_cases e : id = σ.size
        · subst e
          have := hself B hB
          subst this
          exact ⟨⟨cs, .own⟩, by rw [AHeap.get_alloc, if_pos rfl], hok, by simp⟩
        · obtain ⟨k1, k2, k3⟩ := hlt id B hB e
          obtain ⟨o, h1, h2, h3⟩ := h.dom id B k1
          exact ⟨o, by rw [AHeap.get_alloc, if_neg e]; exact h1, h2.of_heap hle (hold _ k2), by simp; omega⟩
      excl := fun i j B B' o o' h1 h2 h3 h4 hne h5 h6 => by
        by_cases e : i = σ.size
        · subst e
          have e1 := hself B h1
          have := (hlt j B' h2 (fun e => hne e.symm)).2.1
          subst e1
          simp only
          omega
        · obtain ⟨k1, k2, k3⟩ := hlt i B h1 e
          by_cases e' : j = σ.size
          · subst e'
            have e1 := hself B' h2
            subst e1
            simp only
            omega
          · obtain ⟨q1, q2, q3⟩ := hlt j B' h2 e'
            rw [AHeap.get_alloc, if_neg e] at h3
            rw [AHeap.get_alloc, if_neg e'] at h4
            exact h.excl i j B B' o o' k1 q1 h3 h4 hne h5 h6 }
    hsize := by simp
    frame := fun b hb _ => hold b hb
    fresh := fun id B h1 h2 => by
      by_cases e : id = σ.size
      · subst e
        have := hself B h2
        subst this
        exact .inl (Nat.le_refl _)
      · have := (hlt id B h2 e).2.2; omega
    os := rfl
    tape := rfl
    output := rfl }

/-! ### a store -/
theorem run_storeCells_own (P : Program) (g o : Nat) (t : TypeId) (fz : Nat × Nat) : ∀ (vs : List Value) (i : Nat) (cur : Array Value) (w : World), w.heap[g]? = some (.cells cur t fz) →
    (∀ o, o < cur.size → ¬ (fz.1 ≤ o ∧ o < fz.2)) → o + i + vs.length ≤ cur.size → (∀ v ∈ vs, v.oneCell' = true) →
    (storeCells ⟨g, o, none⟩ vs i).run P w = .ok () (w.setRow g (cur.toList.take (o + i) ++ vs ++ cur.toList.drop (o + i + vs.length)).toArray)
  | [], i, cur, w, hg, _, _, _ => by
    simp only [storeCells, List.append_nil, List.length_nil, Nat.add_zero, List.take_append_drop, Array.toArray_toList]
    rw [setRow_self w g cur t fz hg]
    rfl
  | v :: rest, i, cur, w, hg, hfz, hl, h1 => by
    have hi : o + i < cur.size := by simp at hl; omega
    have hadd : (⟨g, o, none⟩ : Addr).add i = ⟨g, o + i, none⟩ := by unfold Addr.add; split <;> simp_all
    have hcell : w.cell? ⟨g, o + i, none⟩ = some cur[o + i] := by simp [World.cell?, hg, hi]
    have hfro : w.frozen? ⟨g, o + i, none⟩ = false := by
      obtain ⟨lo, hi'⟩ := fz
      have := hfz (o + i) hi
      simp only [World.frozen?, hg, Bool.and_eq_false_iff, decide_eq_false_iff_not]
      simp only at this
      omega
    have hst : (store ((⟨g, o, none⟩ : Addr).add i) v).run P w = .ok () (w.setRow g (cur.setIfInBounds (o + i) v)) := by
      rw [hadd, run_store P w _ v _ (h1 v (by simp)), hcell]
      simp [hfro, setCell_eq_setRow w g (o + i) cur t fz v hg]
    have ih := run_storeCells_own P g o t fz rest (i + 1) (cur.setIfInBounds (o + i) v) (w.setRow g (cur.setIfInBounds (o + i) v)) (setRow_heap w g cur _ t _ hg) (by simpa using hfz) (by simp at hl ⊢; omega) (fun x hx => h1 x (by simp [hx]))
    simp only [storeCells, Sem.run_bind, hst, Result.andThen_ok, ih, setRow_setRow]
    congr 3
    have e := list_seg_step cur.toList (o + i) v rest (by simp at hl ⊢; omega)
    simpa [Array.toList_setIfInBounds, Nat.add_assoc] using e

theorem splice_length {cs vs : List SV} {off : Nat} (h : off + vs.length ≤ cs.length) : (splice cs off vs).length = cs.length := by
  simp [splice]; omega

theorem get_splice {α : Type} (cs vs : List α) (off : Nat) (h : off + vs.length ≤ cs.length) (j : Nat) :
    (cs.take off ++ vs ++ cs.drop (off + vs.length))[j]? = if off ≤ j ∧ j < off + vs.length then vs[j - off]? else cs[j]? := by
  simp only [List.getElem?_append, List.length_append, List.length_take, List.getElem?_take, List.getElem?_drop]
  have hm : min off cs.length = off := by omega
  rw [hm]
  by_cases h1 : j < off
  · have : ¬ (off ≤ j ∧ j < off + vs.length) := by omega
    simp [h1, this]
    intro h2; omega
  · by_cases h2 : j < off + vs.length
    · have : off ≤ j ∧ j < off + vs.length := by omega
      simp [h1, h2, this]
    · have : ¬ (off ≤ j ∧ j < off + vs.length) := by omega
      simp [h2, this]
      congr 1
      omega

theorem SRs.splice {ρ : Loc} {cs ss : List SV} {us vs : List Value} (h : SRs ρ cs us) (k : SRs ρ ss vs) (off : Nat) :
    SRs ρ (Ab.splice cs off ss) (us.take off ++ vs ++ us.drop (off + vs.length)) := by
  unfold Ab.splice
  rw [← k.length]
  exact ((h.take off).append k).append (h.drop _)

/-- A store into an object that is one's own: the cells vs at off. -/
theorem Post.write {ρ : Loc} {σ : AHeap} {w : World} (h : HR ρ σ.get w) {id off : Nat} {B : Blk} {cs ss : List SV} {vs : List Value} {P : Program}
    (hB : ρ id = some B) (ho : σ.get id = some ⟨cs, .own⟩) (hl : off + ss.length ≤ cs.length) (hv : SRs ρ ss vs) :
    ∃ w', (storeCells ⟨B.b, B.base + off, none⟩ vs).run P w = .ok () w' ∧ Post ρ σ w ρ (σ.put id ⟨Ab.splice cs off ss, .own⟩) w' := by
  obtain ⟨o, h1, h2, h3⟩ := h.dom id B hB
  rw [ho] at h1
  cases h1
  obtain ⟨cur, t, fz, g1, g2, g3⟩ := h2.own rfl
  have hn := h2.fit
  obtain ⟨us, u1, u2⟩ := h2.holds (by simp)
  have hlen := h2.len
  simp only at hlen
  have hvl := hv.length
  have hid := AHeap.get_lt ho
  let cs' := (cur.toList.take (B.base + off) ++ vs ++ cur.toList.drop (B.base + off + vs.length)).toArray
  have hcl : B.base + off + vs.length ≤ cur.toList.length := by simp; omega
  have hcs : cs'.size = B.n := by simp [cs']; simp at hcl; omega
  refine ⟨w.setRow B.b cs', ?_, ?_⟩
  · have := run_storeCells_own P B.b (B.base + off) t fz vs 0 cur w g1 (by rw [g2]; exact g3) (by omega) hv.oneCell
    simpa [cs'] using this
  have hoth : ∀ k, k ≠ B.b → (w.setRow B.b cs').heap[k]? = w.heap[k]? := fun k hk => setRow_other w B.b k cs' hk
  have hsame : (w.setRow B.b cs').heap[B.b]? = some (.cells cs' t fz) := setRow_heap w B.b cur cs' t fz g1
  have hok : ObjOk ρ (w.setRow B.b cs') B ⟨Ab.splice cs off ss, .own⟩ := by
    refine ⟨by simpa [splice_length hl] using hlen, hn, fun _ => ⟨_, u1.splice hv off, fun j v hj => ?_⟩, fun _ => ⟨cs', t, fz, hsame, hcs, g3⟩⟩
    have hul : off + vs.length ≤ us.length := by rw [← u1.length, ← hvl]; exact hl
    rw [get_splice us vs off hul j] at hj
    simp only [World.cell?, hsame, Option.isSome_none, Bool.false_eq_true, if_false, cs', List.getElem?_toArray]
    rw [get_splice cur.toList vs (B.base + off) hcl]
    by_cases hc : off ≤ j ∧ j < off + vs.length
    · rw [if_pos hc] at hj
      rw [if_pos (by omega), show B.base + j - (B.base + off) = j - off by omega]
      exact hj
    · rw [if_neg hc] at hj
      rw [if_neg (by omega)]
      have := u2 j v hj
      simp only [World.cell?, g1, Option.isSome_none, Bool.false_eq_true, if_false] at this
      simpa using this
  exact {
    le := .refl ρ
    size := Nat.le_refl _
    new := fun id h1 h2 => absurd h2 (by rw [AHeap.size_put]; omega)
    old := fun _ _ => rfl
    dom := fun id B hB => h.lt hB
    same := fun i h1 h2 => by
      rw [AHeap.get_put _ _ _ _ hid, if_neg]
      intro e; subst e; rw [hB] at h2; cases h2
    md := fun i B' o' h1 h2 h3 => by
      rw [AHeap.get_put _ _ _ _ hid] at h2
      by_cases e : i = id
      · subst e; exact ⟨_, ho, rfl⟩
      · rw [if_neg e] at h2; exact ⟨o', h2, h3⟩
    md' := fun i B' o h1 h2 h3 => by
      rw [AHeap.get_put _ _ _ _ hid]
      by_cases e : i = id
      · subst e; rw [ho] at h2; cases h2; cases h3
      · rw [if_neg e]; exact ⟨o, h2, h3⟩
    hr := {
      dom := fun i B' hB' => by
        rw [AHeap.get_put _ _ _ _ hid]
        by_cases e : i = id
        · subst e
          rw [hB] at hB'
          cases hB'
          rw [if_pos rfl]
          exact ⟨_, rfl, hok, by simpa using h3⟩
        · rw [if_neg e]
          obtain ⟨o', k1, k2, k3⟩ := h.dom i B' hB'
          refine ⟨o', k1, ?_, by simpa using k3⟩
          by_cases hd : o'.md = .dead
          · exact ⟨k2.len, k2.fit, fun hn => absurd hd hn, fun hn => by rw [hd] at hn; cases hn⟩
          · exact k2.of_heap (.refl ρ) (hoth _ (fun e' => h.excl id i B B' _ o' hB hB' ho k1 (fun x => e x.symm) rfl hd e'.symm))
      excl := fun i j B1 B2 o1 o2 k1 k2 k3 k4 hne k5 k6 => by
        rw [AHeap.get_put _ _ _ _ hid] at k3 k4
        by_cases e : i = id
        · subst e
          rw [if_neg (fun x => hne x.symm)] at k4
          rw [hB] at k1; cases k1
          exact h.excl i j B B2 _ o2 hB k2 ho k4 hne rfl k6
        · rw [if_neg e] at k3
          by_cases e' : j = id
          · subst e'
            rw [hB] at k2; cases k2
            exact h.excl i j B1 B o1 _ k1 hB k3 ho hne k5 (by simp)
          · rw [if_neg e'] at k4
            exact h.excl i j B1 B2 o1 o2 k1 k2 k3 k4 hne k5 k6 }
    hsize := by simp
    frame := fun b hb hno => hoth b (fun e => hno ⟨id, B, _, hB, ho, rfl, e.symm⟩)
    fresh := fun i B' h1 h2 => absurd (h.lt h2) (by omega)
    os := rfl
    tape := rfl
    output := rfl }

/-- An append that goes on in the block: the object dies, a new one has its memory. -/
theorem Post.grow {ρ : Loc} {σ : AHeap} {w : World} (h : HR ρ σ.get w) {id off : Nat} {B : Blk} {cs ss : List SV} {vs : List Value} {P : Program}
    (hB : ρ id = some B) (ho : σ.get id = some ⟨cs, .own⟩) (hoff : off ≤ cs.length) (hl : B.base + cs.length + ss.length ≤ B.n) (hv : SRs ρ ss vs) :
    ∃ w', (storeCells ⟨B.b, B.base + cs.length, none⟩ vs).run P w = .ok () w' ∧
      Post ρ σ w (ρ.upd σ.size ⟨B.b, B.base + off, B.n, (cs.drop off ++ ss).length⟩) ((σ.put id ⟨cs, .dead⟩).alloc ⟨cs.drop off ++ ss, .own⟩) w' := by
  obtain ⟨o, h1, h2, h3⟩ := h.dom id B hB
  rw [ho] at h1
  cases h1
  obtain ⟨cur, t, fz, g1, g2, g3⟩ := h2.own rfl
  have hn := h2.fit
  obtain ⟨us, u1, u2⟩ := h2.holds (by simp)
  have hlen := h2.len
  simp only at hlen
  have hvl := hv.length
  have hul : cs.length = us.length := u1.length
  have hid := AHeap.get_lt ho
  have hnone : ρ σ.size = none := h.none_size (Nat.le_refl _)
  let NB : Blk := ⟨B.b, B.base + off, B.n, (cs.drop off ++ ss).length⟩
  have hle : ρ.le (ρ.upd σ.size NB) := Loc.le_upd hnone _
  let cs' := (cur.toList.take (B.base + cs.length) ++ vs ++ cur.toList.drop (B.base + cs.length + vs.length)).toArray
  have hcl : B.base + cs.length + vs.length ≤ cur.toList.length := by simp; omega
  have hcs : cs'.size = B.n := by simp [cs']; simp at hcl; omega
  have hget : ∀ i, ((σ.put id ⟨cs, .dead⟩).alloc ⟨cs.drop off ++ ss, .own⟩).get i = if i = σ.size then some ⟨cs.drop off ++ ss, .own⟩ else if i = id then some ⟨cs, .dead⟩ else σ.get i := by
    intro i
    rw [AHeap.get_alloc, AHeap.size_put, AHeap.get_put _ _ _ _ hid]
  refine ⟨w.setRow B.b cs', ?_, ?_⟩
  · have := run_storeCells_own P B.b (B.base + cs.length) t fz vs 0 cur w g1 (by rw [g2]; exact g3) (by omega) hv.oneCell
    simpa [cs'] using this
  have hoth : ∀ k, k ≠ B.b → (w.setRow B.b cs').heap[k]? = w.heap[k]? := fun k hk => setRow_other w B.b k cs' hk
  have hsame : (w.setRow B.b cs').heap[B.b]? = some (.cells cs' t fz) := setRow_heap w B.b cur cs' t fz g1
  have hself : ∀ B', (ρ.upd σ.size NB) σ.size = some B' → B' = NB := by
    intro B' hB'
    simp [Loc.upd] at hB'
    exact hB'.symm
  have hlt : ∀ i B', (ρ.upd σ.size NB) i = some B' → i ≠ σ.size → ρ i = some B' ∧ i < σ.size := by
    intro i B' hB' hi
    unfold Loc.upd at hB'
    rw [if_neg hi] at hB'
    exact ⟨hB', h.lt hB'⟩
  have hok : ObjOk (ρ.upd σ.size NB) (w.setRow B.b cs') NB ⟨cs.drop off ++ ss, .own⟩ := by
    refine ⟨rfl, by simp [NB]; omega, fun _ => ⟨us.drop off ++ vs, ((u1.drop off).append hv).mono hle, fun j v hj => ?_⟩, fun _ => ⟨cs', t, fz, hsame, hcs, g3⟩⟩
    · simp only [World.cell?, NB, hsame, Option.isSome_none, Bool.false_eq_true, if_false, cs', List.getElem?_toArray]
      rw [get_splice cur.toList vs (B.base + cs.length) hcl]
      rw [List.getElem?_append] at hj
      by_cases hc : j < (us.drop off).length
      · rw [if_pos hc] at hj
        simp at hc
        rw [if_neg (by omega)]
        rw [List.getElem?_drop] at hj
        have := u2 _ v hj
        simp only [World.cell?, g1, Option.isSome_none, Bool.false_eq_true, if_false] at this
        rw [show B.base + off + j = B.base + (off + j) by omega]
        simpa using this
      · rw [if_neg hc] at hj
        simp at hc
        have hj2 := (List.getElem?_eq_some_iff.1 hj).1
        simp at hj2
        rw [if_pos (by omega), show B.base + off + j - (B.base + cs.length) = j - (us.drop off).length by simp; omega]
        exact hj
  exact {
    le := hle
    size := by simp [AHeap.size_alloc, AHeap.size_put]
    new := fun i h1 h2 => by
      have : i = σ.size := by rw [AHeap.size_alloc, AHeap.size_put] at h2; omega
      subst this
      exact ⟨NB, by unfold Loc.upd; rw [if_pos rfl]⟩
    old := fun i hi => by unfold Loc.upd; rw [if_neg (by omega)]
    dom := fun i B' hB' => by
      rw [AHeap.size_alloc, AHeap.size_put]
      by_cases e : i = σ.size
      · omega
      · have := (hlt i B' hB' e).2; omega
    same := fun i h1 h2 => by
      rw [hget, if_neg (by omega), if_neg]
      intro e; subst e; rw [hB] at h2; cases h2
    md := fun i B' o' h1 h2 h3 => by
      have := h.lt h1
      rw [hget, if_neg (by omega)] at h2
      by_cases e : i = id
      · subst e; exact ⟨_, ho, rfl⟩
      · rw [if_neg e] at h2; exact ⟨o', h2, h3⟩
    md' := fun i B' o h1 h2 h3 => by
      have := h.lt h1
      rw [hget, if_neg (by omega)]
      by_cases e : i = id
      · subst e; rw [if_pos rfl]; exact ⟨_, rfl, rfl⟩
      · rw [if_neg e]; exact ⟨o, h2, h3⟩
    hr := {
      dom := fun i B' hB' => by
        rw [hget]
        by_cases e0 : i = σ.size
        · subst e0
          have := hself B' hB'
          subst this
          rw [if_pos rfl]
          exact ⟨_, rfl, hok, by simpa [NB] using h3⟩
        · rw [if_neg e0]
          obtain ⟨q1, q2⟩ := hlt i B' hB' e0
          by_cases e : i = id
          · subst e
            rw [hB] at q1
            cases q1
            rw [if_pos rfl]
            exact ⟨_, rfl, ⟨hlen, hn, fun x => absurd rfl x, fun x => by cases x⟩, by simpa using h3⟩
          · rw [if_neg e]
            obtain ⟨o', k1, k2, k3⟩ := h.dom i B' q1
            refine ⟨o', k1, ?_, by simpa using k3⟩
            by_cases hd : o'.md = .dead
            · exact ⟨k2.len, k2.fit, fun hn => absurd hd hn, fun hn => by rw [hd] at hn; cases hn⟩
            · exact k2.of_heap hle (hoth _ (fun e' => h.excl id i B B' _ o' hB q1 ho k1 (fun x => e x.symm) rfl hd e'.symm))
      excl := fun i j B1 B2 o1 o2 k1 k2 k3 k4 hne k5 k6 => by
        rw [hget] at k3 k4
        by_cases e : i = σ.size
        · subst e
          have e1 := hself B1 k1
          subst e1
          rw [if_neg (fun x => hne x.symm)] at k4
          obtain ⟨q1, q2⟩ := hlt j B2 k2 (fun x => hne x.symm)
          by_cases e2 : j = id
          · rw [if_pos e2] at k4; cases k4; exact absurd rfl k6
          · rw [if_neg e2] at k4
            exact h.excl id j B B2 _ o2 hB q1 ho k4 (fun x => e2 x.symm) rfl k6
        · rw [if_neg e] at k3
          obtain ⟨q1, q2⟩ := hlt i B1 k1 e
          by_cases e2 : i = id
          · rw [if_pos e2] at k3; cases k3; cases k5
          · rw [if_neg e2] at k3
            by_cases e' : j = σ.size
            · subst e'
              have e1 := hself B2 k2
              subst e1
              exact h.excl i id B1 B o1 _ q1 hB k3 ho e2 k5 (by simp)
            · rw [if_neg e'] at k4
              obtain ⟨p1, p2⟩ := hlt j B2 k2 e'
              by_cases e3 : j = id
              · rw [if_pos e3] at k4; cases k4; exact absurd rfl k6
              · rw [if_neg e3] at k4
                exact h.excl i j B1 B2 o1 o2 q1 p1 k3 k4 hne k5 k6 }
    hsize := by simp
    frame := fun b hb hno => hoth b (fun e => hno ⟨id, B, _, hB, ho, rfl, e.symm⟩)
    fresh := fun i B' h1 h2 => by
      by_cases e : i = σ.size
      · subst e
        have := hself B' h2
        subst this
        exact .inr ⟨id, B, _, hB, ho, rfl, rfl⟩
      · exact absurd (hlt i B' h2 e).2 (by omega)
    os := rfl
    tape := rfl
    output := rfl }

/-- An object that is no longer looked at. -/
theorem Post.kill {ρ : Loc} {σ : AHeap} {w : World} (h : HR ρ σ.get w) {id : Nat} {B : Blk} {cs : List SV} (hB : ρ id = some B)
    (ho : σ.get id = some ⟨cs, .own⟩) : Post ρ σ w ρ (σ.put id ⟨cs, .dead⟩) w := by
  have hid := AHeap.get_lt ho
  exact {
    le := .refl ρ
    size := Nat.le_refl _
    new := fun id h1 h2 => absurd h2 (by rw [AHeap.size_put]; omega)
    old := fun _ _ => rfl
    dom := fun id B hB => h.lt hB
    same := fun i h1 h2 => by
      rw [AHeap.get_put _ _ _ _ hid, if_neg]
      intro e; subst e; rw [hB] at h2; cases h2
    md := fun i B' o' h1 h2 h3 => by
      rw [AHeap.get_put _ _ _ _ hid] at h2
      by_cases e : i = id
      · subst e; exact ⟨_, ho, rfl⟩
      · rw [if_neg e] at h2; exact ⟨o', h2, h3⟩
    md' := fun i B' o h1 h2 h3 => by
      rw [AHeap.get_put _ _ _ _ hid]
      by_cases e : i = id
      · subst e; rw [ho] at h2; cases h2; cases h3
      · rw [if_neg e]; exact ⟨o, h2, h3⟩
    hr := {
      dom := fun i B' hB' => by
        rw [AHeap.get_put _ _ _ _ hid]
        obtain ⟨o', k1, k2, k3⟩ := h.dom i B' hB'
        by_cases e : i = id
        · subst e
          rw [ho] at k1; cases k1
          rw [if_pos rfl]
          exact ⟨_, rfl, ⟨k2.len, k2.fit, fun x => absurd rfl x, fun x => by cases x⟩, k3⟩
        · rw [if_neg e]
          exact ⟨o', k1, k2, k3⟩
      excl := fun i j B1 B2 o1 o2 k1 k2 k3 k4 hne k5 k6 => by
        rw [AHeap.get_put _ _ _ _ hid] at k3 k4
        by_cases e : i = id
        · rw [if_pos e] at k3; cases k3; cases k5
        · rw [if_neg e] at k3
          by_cases e' : j = id
          · rw [if_pos e'] at k4; cases k4; exact absurd rfl k6
          · rw [if_neg e'] at k4
            exact h.excl i j B1 B2 o1 o2 k1 k2 k3 k4 hne k5 k6 }
    hsize := Nat.le_refl _
    frame := fun b hb hno => rfl
    fresh := fun i B' h1 h2 => absurd (h.lt h2) (by omega)
    os := rfl
    tape := rfl
    output := rfl }

end Go.Proofs.Ythjijjkoeoemgaa.Ab
