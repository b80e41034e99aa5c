/- Timers: the heap's laws, in plain lists. -/
import Derived.Test.YtdgffilnefnjjaaTim5
namespace Go.Proofs.Ytdgffilnefnjjaa.Ab
open Go
set_option maxRecDepth 20000
set_option linter.unusedSimpArgs false

/-! ### the order -/
def leT (a b : T) : Prop := lessT b a = false
theorem less_iff (a b : T) : lessT a b = true ↔ (a.at' < b.at' ∨ (a.at' = b.at' ∧ (a.stmt < b.stmt ∨ (a.stmt = b.stmt ∧ a.seq < b.seq)))) := by
  unfold lessT
  by_cases h1 : a.at' = b.at'
  · by_cases h2 : a.stmt = b.stmt
    · simp [h1, h2]
    · simp [h1, h2]
  · simp [h1]
theorem le_iff (a b : T) : leT a b ↔ (a.at' < b.at' ∨ (a.at' = b.at' ∧ (a.stmt < b.stmt ∨ (a.stmt = b.stmt ∧ a.seq ≤ b.seq)))) := by
  unfold leT
  rw [Bool.eq_false_iff, ne_eq, less_iff]
  omega
theorem leT_refl (a : T) : leT a a := by rw [le_iff]; omega
theorem le_trans {a b c : T} (h : leT a b) (k : leT b c) : leT a c := by rw [le_iff] at *; omega
theorem le_of_less {a b : T} (h : lessT a b = true) : leT a b := by rw [less_iff] at h; rw [le_iff]; omega
theorem less_of_ne {a b : T} (h : leT a b) (hs : a.seq ≠ b.seq) : lessT a b = true := by rw [le_iff] at h; rw [less_iff]; omega

/-! ### places -/
theorem tAt_set (l : List T) (i j : Nat) (t : T) (hi : i < l.length) : tAt (l.set i t) j = if j = i then t else tAt l j := by
  unfold tAt
  simp only [List.getD, List.getElem?_set]
  by_cases h : i = j
  · subst h; simp [hi]
  · have : ¬ j = i := fun e => h e.symm
    simp [h, this]
theorem tAt_swap {l : List T} {i j : Nat} (hi : i < l.length) (hj : j < l.length) (k : Nat) : tAt (swapL l i j) k = if k = j then tAt l i else if k = i then tAt l j else tAt l k := by
  unfold swapL
  rw [tAt_set _ _ _ _ (by simpa using hj), tAt_set _ _ _ _ hi]
theorem swap_perm {l : List T} {i j : Nat} (hi : i < l.length) (hj : j < l.length) : (swapL l i j).Perm l := by
  have e1 : tAt l j = l[j] := by simp [tAt, List.getD, hj]
  have e2 : tAt l i = l[i] := by simp [tAt, List.getD, hi]
  unfold swapL
  rw [e1, e2]
  exact List.set_set_perm hi hj

/-! ### the heap -/
def par (j : Nat) : Nat := (j - 1) / 2
def Heap (l : List T) : Prop := ∀ j, 0 < j → j < l.length → leT (tAt l (par j)) (tAt l j)
/-- A heap but for what stands at i, that may be too small. -/
def HeapUp (l : List T) (i : Nat) : Prop := (∀ j, 0 < j → j < l.length → j ≠ i → leT (tAt l (par j)) (tAt l j)) ∧ (0 < i → ∀ j, 0 < j → j < l.length → par j = i → leT (tAt l (par i)) (tAt l j))
/-- A heap of the first n but for what stands at i, that may be too great. -/
def HeapDn (l : List T) (n i : Nat) : Prop := (∀ j, 0 < j → j < n → par j ≠ i → leT (tAt l (par j)) (tAt l j)) ∧ (0 < i → ∀ j, 0 < j → j < n → par j = i → leT (tAt l (par i)) (tAt l j))

theorem up_heap : ∀ (i : Nat) (l : List T), i < l.length → HeapUp l i → Heap (upL l i) := by
  intro i
  induction i using Nat.strongRecOn with
  | _ i ih =>
    intro l hi h
    rw [upL]
    split
    · rename_i h0
      subst h0
      intro j hj1 hj2
      exact h.1 j hj1 hj2 (by omega)
    · rename_i h0
      have hpi : (i - 1) / 2 = par i := rfl
      rw [hpi]
      have hpl : par i < i := by unfold par; omega
      split
      · rename_i hls
        refine ih (par i) hpl (swapL l i (par i)) (by rw [swapL_length]; omega) ⟨fun j hj1 hj2 hj3 => ?_, fun hp j hj1 hj2 hj3 => ?_⟩
        · rw [swapL_length] at hj2
          rw [tAt_swap hi (by omega), tAt_swap hi (by omega)]
          by_cases e1 : par j = par i
          · -- i or its brother
            rw [if_pos e1, if_neg hj3]
            by_cases e2 : j = i
            · rw [if_pos e2]
              exact le_of_less hls
            · rw [if_neg e2]
              have h1 := h.1 j hj1 hj2 e2
              rw [e1] at h1
              exact le_trans (le_of_less hls) h1
          · rw [if_neg e1, if_neg hj3]
            by_cases e3 : par j = i
            · rw [if_pos e3]
              have e4 : j ≠ i := by intro e; subst e; exact absurd e3 (by unfold par; omega)
              rw [if_neg e4]
              exact h.2 (by omega) j hj1 hj2 e3
            · rw [if_neg e3]
              by_cases e4 : j = i
              · exact absurd (by rw [e4]) e1
              · rw [if_neg e4]
                exact h.1 j hj1 hj2 e4
        · rw [swapL_length] at hj2
          have hpp : par (par i) < par i := by unfold par at *; omega
          rw [tAt_swap hi (by omega), tAt_swap hi (by omega)]
          rw [if_neg (by omega), if_neg (by omega)]
          have hup := h.1 (par i) hp (by omega) (by omega)
          by_cases e2 : j = i
          · rw [if_neg (by omega), if_pos e2]
            exact hup
          · have e5 : j ≠ par i := by intro e; subst e; exact absurd hj3 (by omega)
            rw [if_neg e5, if_neg e2]
            have h1 := h.1 j hj1 hj2 e2
            rw [hj3] at h1
            exact le_trans hup h1
      · rename_i hls
        have hls : leT (tAt l (par i)) (tAt l i) := by
          unfold leT
          simpa using hls
        intro j hj1 hj2
        by_cases e : j = i
        · subst e; exact hls
        · exact h.1 j hj1 hj2 e

theorem up_perm : ∀ (i : Nat) (l : List T), i < l.length → (upL l i).Perm l := by
  intro i
  induction i using Nat.strongRecOn with
  | _ i ih =>
    intro l hi
    rw [upL]
    split
    · exact .refl _
    · split
      · exact (ih _ (by omega) _ (by rw [swapL_length]; omega)).trans (swap_perm hi (by omega))
      · exact .refl _

theorem push_heap {l : List T} (x : T) (h : Heap l) : Heap (pushL l x) := by
  refine up_heap _ _ (by simp) ⟨fun j hj1 hj2 hj3 => ?_, fun h0 j hj1 hj2 hj3 => ?_⟩
  · have hj : j < l.length := by simp at hj2; omega
    have hp : par j < l.length := by unfold par; omega
    rw [tAt_append hj, tAt_append hp]
    exact h j hj1 hj
  · simp at hj2
    unfold par at hj3
    omega
theorem push_perm (l : List T) (x : T) : (pushL l x).Perm (l ++ [x]) := up_perm _ _ (by simp)

/-! ### sinking -/
theorem step_le {l : List T} {n c u : Nat} : leT (tAt l (stepL l n c u)) (tAt l u) ∧ (c < n → leT (tAt l (stepL l n c u)) (tAt l c)) := by
  unfold stepL
  split
  · rename_i h
    exact ⟨le_of_less h.2, fun _ => leT_refl _⟩
  · rename_i h
    refine ⟨leT_refl _, fun hc => ?_⟩
    unfold leT
    cases hb : lessT (tAt l c) (tAt l u) with
    | false => rfl
    | true => exact absurd ⟨hc, hb⟩ h
theorem mj_le (l : List T) (n i : Nat) : leT (tAt l (mj l n i 2)) (tAt l i) ∧ ∀ j, 0 < j → j < n → par j = i → leT (tAt l (mj l n i 2)) (tAt l j) := by
  have h1 := @step_le l n (2 * i + 1) i
  have h2 := @step_le l n (2 * i + 1 + 1) (stepL l n (2 * i + 1) i)
  have e : mj l n i 2 = stepL l n (2 * i + 1 + 1) (stepL l n (2 * i + 1) i) := rfl
  rw [e]
  refine ⟨le_trans h2.1 h1.1, fun j hj1 hj2 hj3 => ?_⟩
  have hc : j = 2 * i + 1 ∨ j = 2 * i + 1 + 1 := by unfold par at hj3; omega
  rcases hc with rfl | rfl
  · exact le_trans h2.1 (h1.2 hj2)
  · exact h2.2 hj2
theorem step_cases (l : List T) (n c u : Nat) : (stepL l n c u = c ∧ c < n) ∨ stepL l n c u = u := by
  unfold stepL
  split
  · rename_i h; exact .inl ⟨rfl, h.1⟩
  · exact .inr rfl
theorem mj_par {l : List T} {n i : Nat} (h : mj l n i 2 ≠ i) : par (mj l n i 2) = i ∧ 0 < mj l n i 2 ∧ mj l n i 2 < n := by
  have e : mj l n i 2 = stepL l n (2 * i + 1 + 1) (stepL l n (2 * i + 1) i) := rfl
  rw [e] at h ⊢
  unfold par
  rcases step_cases l n (2 * i + 1 + 1) (stepL l n (2 * i + 1) i) with ⟨h1, h2⟩ | h1
  · rw [h1]; omega
  · rw [h1] at h ⊢
    rcases step_cases l n (2 * i + 1) i with ⟨h3, h4⟩ | h3
    · rw [h3]; omega
    · exact absurd h3 h
theorem sink_heap (n : Nat) : ∀ (k i : Nat) (l : List T), n - i ≤ k → n ≤ l.length → HeapDn l n i → ∀ j, 0 < j → j < n → leT (tAt (sinkL n l i) (par j)) (tAt (sinkL n l i) j) := by
  intro k
  induction k with
  | zero =>
    intro i l hk hn h j hj1 hj2
    rw [sinkL]
    split
    · exact h.1 j hj1 hj2 (by unfold par; omega)
    · rename_i hne
      have := mj_par hne
      unfold par at this
      omega
  | succ k ih =>
    intro i l hk hn h
    rw [sinkL]
    split
    · rename_i he
      intro j hj1 hj2
      by_cases e : par j = i
      · have := (mj_le l n i).2 j hj1 hj2 e
        rw [he] at this
        rw [e]; exact this
      · exact h.1 j hj1 hj2 e
    · rename_i hne
      obtain ⟨p1, p2, p3⟩ := mj_par hne
      have hml := mj_le l n i
      generalize hu : mj l n i 2 = u at *
      have hiu : i < u := by unfold par at p1; omega
      have hil : i < l.length := by omega
      have hul : u < l.length := by omega
      refine ih u (swapL l i u) (by omega) (by rw [swapL_length]; exact hn) ⟨fun j hj1 hj2 hj3 => ?_, fun h0 j hj1 hj2 hj3 => ?_⟩
      · rw [tAt_swap hil hul, tAt_swap hil hul]
        rw [if_neg hj3]
        by_cases e1 : par j = i
        · rw [if_pos e1]
          by_cases e2 : j = u
          · rw [if_pos e2]; exact hml.1
          · rw [if_neg e2, if_neg (by intro e; subst e; unfold par at e1; omega)]
            exact hml.2 j hj1 hj2 e1
        · rw [if_neg e1]
          by_cases e2 : j = u
          · exact absurd (by rw [e2, p1]) e1
          · rw [if_neg e2]
            by_cases e3 : j = i
            · rw [if_pos e3]
              have := h.2 (by omega) u p2 p3 p1
              rw [e3]
              exact this
            · rw [if_neg e3]
              exact h.1 j hj1 hj2 e1
      · have hju : j ≠ u := by intro e; subst e; unfold par at hj3; omega
        have hji : j ≠ i := by intro e; subst e; unfold par at hj3; omega
        rw [tAt_swap hil hul, tAt_swap hil hul, p1, if_neg (by omega), if_pos rfl, if_neg hju, if_neg hji]
        have := h.1 j hj1 hj2 (by omega)
        rw [hj3] at this
        exact this
theorem sink_perm (n : Nat) : ∀ (k i : Nat) (l : List T), n - i ≤ k → n ≤ l.length → (sinkL n l i).Perm l := by
  intro k
  induction k with
  | zero =>
    intro i l hk hn
    rw [sinkL]
    split
    · exact .refl _
    · rename_i hne
      have := mj_par hne
      unfold par at this
      omega
  | succ k ih =>
    intro i l hk hn
    rw [sinkL]
    split
    · exact .refl _
    · rename_i hne
      obtain ⟨p1, p2, p3⟩ := mj_par hne
      have hiu : i < mj l n i 2 := by unfold par at p1; omega
      exact (ih _ _ (by omega) (by rw [swapL_length]; exact hn)).trans (swap_perm (by omega) (by omega))

theorem tAt_take {l : List T} {n i : Nat} (h : i < n) : tAt (l.take n) i = tAt l i := by
  simp [tAt, List.getD, List.getElem?_take, h]

theorem pop_heap {l : List T} (h : Heap l) : Heap (popL l) := by
  intro j hj1 hj2
  rw [popL_length] at hj2
  unfold popL
  by_cases h0 : l.length = 0
  · omega
  refine sink_heap _ _ 0 _ (Nat.le_refl _) (by rw [List.length_take, List.length_set]; omega) ⟨fun j hj1 hj2 hj3 => ?_, fun h0 => absurd h0 (by omega)⟩ j hj1 hj2
  have hp : par j < l.length - 1 := by unfold par; omega
  rw [tAt_take hj2, tAt_take hp, tAt_set _ _ _ _ (by omega), tAt_set _ _ _ _ (by omega), if_neg hj3, if_neg (by omega)]
  exact h j hj1 (by omega)
theorem set_take_perm : ∀ (l : List T), 0 < l.length → (tAt l 0 :: (l.set 0 (tAt l (l.length - 1))).take (l.length - 1)).Perm l
  | [], h => absurd h (Nat.not_lt_zero _)
  | [a], _ => by simp [tAt]
  | a :: b :: l, _ => by
    have e0 : tAt (a :: b :: l) 0 = a := rfl
    have hne : b :: l ≠ [] := by simp
    have e1 : tAt (a :: b :: l) ((a :: b :: l).length - 1) = (b :: l).getLast hne := by
      rw [List.getLast_eq_getElem]
      simp [tAt, List.getD]
    rw [e0, e1]
    have e2 : (a :: b :: l).length - 1 = (b :: l).length := by simp
    rw [e2]
    have e3 : ((a :: b :: l).set 0 ((b :: l).getLast hne)).take (b :: l).length = (b :: l).getLast hne :: (b :: l).dropLast := by
      simp [List.dropLast_eq_take]
    rw [e3]
    refine List.Perm.cons a ?_
    have e4 : (b :: l).dropLast ++ [(b :: l).getLast hne] = b :: l := List.dropLast_concat_getLast hne
    have e5 : ((b :: l).getLast hne :: (b :: l).dropLast).Perm ((b :: l).dropLast ++ [(b :: l).getLast hne]) := by
      simpa using (List.perm_append_comm (l₁ := [(b :: l).getLast hne]) (l₂ := (b :: l).dropLast))
    rw [e4] at e5
    exact e5
theorem pop_perm {l : List T} (h : 0 < l.length) : (tAt l 0 :: popL l).Perm l := by
  have h1 := sink_perm (l.length - 1) _ 0 ((l.set 0 (tAt l (l.length - 1))).take (l.length - 1)) (Nat.le_refl _) (by rw [List.length_take, List.length_set]; omega)
  exact (List.Perm.cons _ h1).trans (set_take_perm l h)

theorem heap_min {l : List T} (h : Heap l) : ∀ j, j < l.length → leT (tAt l 0) (tAt l j) := by
  intro j
  induction j using Nat.strongRecOn with
  | _ j ih =>
    intro hj
    by_cases h0 : j = 0
    · subst h0; exact leT_refl _
    · exact le_trans (ih (par j) (by unfold par; omega) (by unfold par; omega)) (h j (by omega) hj)
theorem heap_mem {l : List T} (h : Heap l) {t : T} (ht : t ∈ l) : leT (tAt l 0) t := by
  obtain ⟨j, hj, rfl⟩ := List.mem_iff_getElem.1 ht
  have := heap_min h j hj
  simpa [tAt, List.getD, hj] using this

/-! ### all that is due -/
def popsL (now : Int) (l : List T) : List T × List T :=
  if _h : 0 < l.length ∧ (tAt l 0).at' ≤ now then (tAt l 0 :: (popsL now (popL l)).1, (popsL now (popL l)).2) else ([], l)
termination_by l.length
decreasing_by all_goals (rw [popL_length]; omega)

theorem pops_no {now : Int} {l : List T} (h : ¬ (0 < l.length ∧ (tAt l 0).at' ≤ now)) : popsL now l = ([], l) := by rw [popsL, dif_neg h]
theorem pops_yes {now : Int} {l : List T} (h : 0 < l.length ∧ (tAt l 0).at' ≤ now) : popsL now l = (tAt l 0 :: (popsL now (popL l)).1, (popsL now (popL l)).2) := by rw [popsL, dif_pos h]

theorem pops_ind {now : Int} {P : List T → Prop} (hno : ∀ l, ¬ (0 < l.length ∧ (tAt l 0).at' ≤ now) → P l) (hyes : ∀ l, (0 < l.length ∧ (tAt l 0).at' ≤ now) → P (popL l) → P l) : ∀ l, P l := by
  have : ∀ n (l : List T), l.length ≤ n → P l := by
    intro n
    induction n with
    | zero => intro l hl; exact hno l (by omega)
    | succ n ih =>
      intro l hl
      by_cases h : 0 < l.length ∧ (tAt l 0).at' ≤ now
      · exact hyes l h (ih _ (by rw [popL_length]; omega))
      · exact hno l h
  intro l
  exact this _ l (Nat.le_refl _)

theorem pops_split {a b : Int} (hab : a ≤ b) : ∀ l, popsL b l = ((popsL a l).1 ++ (popsL b (popsL a l).2).1, (popsL b (popsL a l).2).2) := by
  refine pops_ind (now := a) (fun l h => ?_) (fun l h ih => ?_)
  · rw [pops_no h]; simp
  · rw [pops_yes (now := a) h, pops_yes (now := b) ⟨h.1, by omega⟩, ih]
    simp
theorem pops_length (now : Int) : ∀ l, (popsL now l).1.length + (popsL now l).2.length = l.length := by
  refine pops_ind (now := now) (fun l h => ?_) (fun l h ih => ?_)
  · rw [pops_no h]; simp
  · rw [pops_yes h]
    rw [popL_length] at ih
    simp only [List.length_cons]
    omega
theorem pops_due (now : Int) : ∀ l, ∀ t ∈ (popsL now l).1, t.at' ≤ now := by
  refine pops_ind (now := now) (fun l h => ?_) (fun l h ih => ?_)
  · rw [pops_no h]; simp
  · rw [pops_yes h]
    intro t ht
    cases ht with
    | head => exact h.2
    | tail _ ht => exact ih t ht
theorem pops_rest (now : Int) : ∀ l, ¬ (0 < (popsL now l).2.length ∧ (tAt (popsL now l).2 0).at' ≤ now) := by
  refine pops_ind (now := now) (fun l h => ?_) (fun l h ih => ?_)
  · rw [pops_no h]; exact h
  · rw [pops_yes h]; exact ih
theorem pops_mem (now : Int) : ∀ l, ∀ t ∈ (popsL now l).1, t ∈ l := by
  refine pops_ind (now := now) (fun l h => ?_) (fun l h ih => ?_)
  · rw [pops_no h]; simp
  · rw [pops_yes h]
    intro t ht
    have hp := pop_perm h.1
    cases ht with
    | head => exact hp.mem_iff.1 (by simp)
    | tail _ ht => exact hp.mem_iff.1 (List.mem_cons_of_mem _ (ih t ht))
/-- What comes is in its order, each once. -/
theorem pops_sorted (now : Int) : ∀ l, Heap l → (l.map T.seq).Nodup → ∀ i, i + 1 < (popsL now l).1.length → lessT (tAt (popsL now l).1 i) (tAt (popsL now l).1 (i + 1)) = true := by
  refine pops_ind (now := now) (fun l h => ?_) (fun l h ih => ?_)
  · intro _ _ i hi
    rw [pops_no h] at hi
    simp at hi
  · intro hh hnd i hi
    have hp := pop_perm h.1
    have hnd2 : ((tAt l 0 :: popL l).map T.seq).Nodup := ((hp.map T.seq).nodup_iff).2 hnd
    rw [List.map_cons, List.nodup_cons] at hnd2
    rw [pops_yes h] at hi ⊢
    simp only [List.length_cons] at hi
    cases i with
    | succ i => exact ih (pop_heap hh) hnd2.2 i (by omega)
    | zero =>
      have hi0 : 0 < (popsL now (popL l)).1.length := by omega
      have hmem : tAt (popsL now (popL l)).1 0 ∈ popL l := by
        refine pops_mem now _ _ ?_
        have : tAt (popsL now (popL l)).1 0 = (popsL now (popL l)).1[0] := by simp [tAt, List.getD, hi0]
        rw [this]
        exact List.getElem_mem hi0
      have e1 : tAt (tAt l 0 :: (popsL now (popL l)).1) 0 = tAt l 0 := rfl
      have e2 : tAt (tAt l 0 :: (popsL now (popL l)).1) (0 + 1) = tAt (popsL now (popL l)).1 0 := rfl
      rw [e1, e2]
      refine less_of_ne (heap_mem hh (hp.mem_iff.1 (List.mem_cons_of_mem _ hmem))) ?_
      intro e
      exact hnd2.1 (List.mem_map.2 ⟨_, hmem, e.symm⟩)

/-! ### the settings -/
def setL (l : List T) (k : Int) : List (Int × Int) → List T
  | [] => l
  | p :: r => setL (pushL l ⟨p.1, p.2, k + 1⟩) (k + 1) r
theorem setL_heap : ∀ (r : List (Int × Int)) (l : List T) (k : Int), Heap l → (l.map T.seq).Nodup → (∀ t ∈ l, t.seq ≤ k) → Heap (setL l k r) ∧ ((setL l k r).map T.seq).Nodup ∧ (setL l k r).length = l.length + r.length
  | [], l, k, h1, h2, _ => ⟨h1, h2, rfl⟩
  | p :: r, l, k, h1, h2, h3 => by
    have hp := push_perm l ⟨p.1, p.2, k + 1⟩
    have hnd : ((pushL l ⟨p.1, p.2, k + 1⟩).map T.seq).Nodup := by
      refine ((hp.map T.seq).nodup_iff).2 ?_
      rw [List.map_append, List.nodup_append]
      refine ⟨h2, by simp, ?_⟩
      intro a ha b hb e
      subst e
      simp only [List.map_cons, List.map_nil, List.mem_singleton] at hb
      obtain ⟨t, ht, rfl⟩ := List.mem_map.1 ha
      have := h3 t ht
      omega
    obtain ⟨q1, q2, q3⟩ := setL_heap r (pushL l ⟨p.1, p.2, k + 1⟩) (k + 1) (push_heap _ h1) hnd (fun t ht => by
      have := hp.mem_iff.1 ht
      rw [List.mem_append] at this
      rcases this with h | h
      · have := h3 t h; omega
      · simp at h; subst h; exact Int.le_refl _)
    refine ⟨q1, q2, ?_⟩
    unfold setL
    rw [q3, pushL_length, List.length_cons]
    omega
end Go.Proofs.Ytdgffilnefnjjaa.Ab
