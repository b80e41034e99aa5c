/- What a view of any kind holds: content's held. -/
import Derived.Test.YthjijjkoeoemgaaCt23
namespace Go.Proofs.Ythjijjkoeoemgaa.Ab
open Go
set_option maxRecDepth 20000
set_option maxHeartbeats 4000000
set_option linter.unusedSimpArgs false
set_option linter.unusedVariables false

theorem colsB_cols {cs : List Int} {n : Nat} (h : colsB cs n = true) : ColsOk cs n := by
  unfold colsB at h
  simpa only [decide_eq_true_eq] using h
theorem part_iff {B X Y i : Nat} (h : X ≤ Y) (hz : B = 0 → Y = 0) : (0 < B ∧ X ≤ i ∧ i < Y) ↔ (X ≤ i ∧ i < X + (Y - X)) := by
  rw [Nat.add_sub_of_le h]
  constructor
  · rintro ⟨_, h2, h3⟩; exact ⟨h2, h3⟩
  · rintro ⟨h2, h3⟩
    refine ⟨?_, h2, h3⟩
    rcases Nat.eq_zero_or_pos B with hb | hb
    · have := hz hb
      omega
    · exact hb
theorem okL_cases {v : VS} {l : List Arr} (h : okL v l) : ((v.k = 1 ∨ v.k = 8 ∨ v.k = 9) ∧ v.n = 0) ∨ ((v.k = 2 ∨ v.k = 4) ∧ 1 ≤ v.n ∧ v.n ≤ 65536) ∨ ((v.k = 3 ∨ v.k = 5) ∧ 1 ≤ v.n ∧ v.n ≤ 1099511627776) ∨
    (v.k = 6 ∧ (∀ c ∈ v.cols, 0 ≤ c ∧ c < wid l)) ∨ (v.k = 7 ∧ 1 ≤ v.n ∧ v.n ≤ 65536 ∧ ∃ c, v.cols = [c] ∧ 0 ≤ c ∧ c < wid l) := by
  unfold okL errV at h
  split at h
  · rename_i ho
    unfold okView at ho
    have hcol : colsB v.cols (wid l) = true → ∀ c ∈ v.cols, 0 ≤ c ∧ c < wid l := fun hb c hc => by
      have h2 := (colsB_cols hb).2
      obtain ⟨i, hi, rfl⟩ := List.mem_iff_getElem.1 hc
      have := h2 i hi
      rw [iAt_eq hi] at this
      exact ⟨this.1, this.2.1⟩
    split at ho
    · rename_i hk
      simp only [Bool.and_eq_true, decide_eq_true_eq] at ho
      exact .inl ⟨hk, ho.1⟩
    · split at ho
      · rename_i hk
        simp only [Bool.and_eq_true, decide_eq_true_eq] at ho
        exact .inr (.inl ⟨hk, ho.1⟩)
      · split at ho
        · rename_i hk
          simp only [Bool.and_eq_true, decide_eq_true_eq] at ho
          exact .inr (.inr (.inl ⟨hk, ho.1⟩))
        · split at ho
          · rename_i hk
            simp only [Bool.and_eq_true] at ho
            exact .inr (.inr (.inr (.inl ⟨hk, hcol ho.2⟩)))
          · split at ho
            · rename_i hk
              simp only [Bool.and_eq_true, decide_eq_true_eq] at ho
              obtain ⟨⟨⟨h1, h2⟩, h3⟩, h4⟩ := ho
              refine .inr (.inr (.inr (.inr ⟨hk, h1, h2, ?_⟩)))
              match hcs : v.cols, h3 with
              | [c], _ =>
                have := hcol h4 c (by rw [hcs]; simp)
                exact ⟨c, rfl, this.1, this.2⟩
            · cases ho
  · exact absurd h (by decide)
def lbP (N n i : Nat) : Bool := decide (0 < n / N ∧ (n / N - 1) * N ≤ i ∧ i < n / N * N)
/-- Does a view hold the i-th? -/
def holdsP (v : VS) (l : List Arr) (now : Int) (i : Nat) (a : Arr) : Bool :=
  if v.k = 1 then true
  else if v.k = 2 then decide ((l.length : Int) - v.n ≤ (i : Int))
  else if v.k = 8 then decide ((i : Int) = (l.length : Int) - 1)
  else if v.k = 9 then decide ((i : Int) = 0)
  else if v.k = 3 then timeP v now a
  else if v.k = 4 then lbP v.n.toNat l.length i
  else if v.k = 5 then batchP v (bNo l now v.n) (t0 l + (bNo l now v.n - 1) * v.n) a
  else if v.k = 6 then uniqP v l i a
  else decide ((cntB v l a : Int) < v.n)
noncomputable def heldF (v : VS) (l : List Arr) (now : Int) : List Arr := if 0 < l.length ∧ okL v l then fIdx (holdsP v l now) 0 l else []
theorem fIdx_all {p : Nat → Arr → Bool} : ∀ (l : List Arr) (j : Nat), (∀ i a, j ≤ i → i < j + l.length → a ∈ l → p i a = true) → fIdx p j l = l
  | [], _, _ => rfl
  | a :: l, j, h => by
    unfold fIdx
    rw [if_pos (h j a (Nat.le_refl _) (by simp) (by simp)), fIdx_all l (j + 1) (fun i x h1 h2 h3 => h i x (by omega) (by simp only [List.length_cons]; omega) (by simp [h3]))]
theorem fIdx_none {p : Nat → Arr → Bool} : ∀ (l : List Arr) (j : Nat), (∀ i a, j ≤ i → i < j + l.length → a ∈ l → p i a = false) → fIdx p j l = []
  | [], _, _ => rfl
  | a :: l, j, h => by
    unfold fIdx
    rw [h j a (Nat.le_refl _) (by simp) (by simp), if_neg (by simp), fIdx_none l (j + 1) (fun i x h1 h2 h3 => h i x (by omega) (by simp only [List.length_cons]; omega) (by simp [h3]))]
/-- The places from a on, below b. -/
theorem fIdx_part {p : Nat → Arr → Bool} {l : List Arr} {a k : Nat} (hl : a + k ≤ l.length) (h : ∀ i x, i < l.length → x ∈ l → p i x = decide (a ≤ i ∧ i < a + k)) : fIdx p 0 l = (l.drop a).take k := by
  have e : l = l.take a ++ ((l.drop a).take k ++ (l.drop a).drop k) := by rw [List.take_append_drop, List.take_append_drop]
  have l1 : (l.take a).length = a := by rw [List.length_take]; omega
  have l2 : ((l.drop a).take k).length = k := by rw [List.length_take, List.length_drop]; omega
  conv => lhs; rw [e]
  rw [fIdx_append, fIdx_append, l1, l2, Nat.zero_add]
  have h1 : fIdx p 0 (l.take a) = [] := fIdx_none _ _ (fun i x h1 h2 h3 => by
    rw [h i x (by omega) (List.mem_of_mem_take h3)]
    simp; omega)
  have h2 : fIdx p a ((l.drop a).take k) = (l.drop a).take k := fIdx_all _ _ (fun i x h1 h2 h3 => by
    rw [h i x (by omega) (List.mem_of_mem_drop (List.mem_of_mem_take h3))]
    simp; omega)
  have h3 : fIdx p (a + k) ((l.drop a).drop k) = [] := fIdx_none _ _ (fun i x h1 h2 h3 => by
    rw [h i x (by rw [List.length_drop, List.length_drop] at h2; omega) (List.mem_of_mem_drop (List.mem_of_mem_drop h3))]
    simp; omega)
  rw [h1, h2, h3]
  simp
theorem fIdx_of_filter {p : Nat → Arr → Bool} {q : Arr → Bool} (h : ∀ i a, p i a = q a) (l : List Arr) : fIdx p 0 l = l.filter q := by
  have : p = fun _ => q := by funext i a; exact h i a
  rw [this, fIdx_filter]

/-- Arrivals that fit. -/
structure LOk (l : List Arr) (now : Int) : Prop where
  t : TimesOk l now
  n0 : 0 ≤ now
  q : ∀ a ∈ l, 0 ≤ a.seq ∧ a.seq ≤ 1073741824
  vin : ∀ a ∈ l, VIn a.vals
theorem slInts_max {σ : AHeap} {s : AV} {l : List Int} (h : slInts σ s = some l) : l.length ≤ maxElems := by
  rcases slInts_spec h with ⟨_, rfl⟩ | ⟨_, _, _, _, _, h⟩
  · exact Nat.zero_le _
  · exact h
theorem held_run (σ : AHeap) (s : AV) (l : List Arr) (v : VS) (now : Int) (hA : Arrs σ s l) (hG : 0 < l.length → Grown σ s l) (hv : v.ok σ) (hL : LOk l now) (C : Nat) (hC : v.cols.length ≤ C) (f : Nat) (hf : C + 2000 ≤ f) :
    OptP (evCall D9 f 26 [.agg v.cells, s, .one (.int .i64 now)] σ) (fun _ r τ => Arrs τ r (heldF v l now) ∧ Keeps σ τ) := by
  have ht := hL.t
  have hlen := ht.len
  have hmx : l.length ≤ maxElems := by unfold maxElems; omega
  have h0R : l.length = 0 → heldF v l now = [] := fun h => by unfold heldF; rw [if_neg (by omega)]
  have h1R : ¬ okL v l → heldF v l now = [] := fun h => by unfold heldF; rw [if_neg (fun e => h e.2)]
  by_cases hok : okL v l
  · by_cases hpos : 0 < l.length
    · have hR : heldF v l now = fIdx (holdsP v l now) 0 l := by unfold heldF; rw [if_pos ⟨hpos, hok⟩]
      have hG := hG hpos
      rcases okL_cases hok with ⟨hk, hn⟩ | ⟨hk, n1, n2⟩ | ⟨hk, n1, n2⟩ | ⟨hk, hcols⟩ | ⟨hk, n1, n2, c, hcols, hc0, _⟩
      · rcases hk with hk | hk | hk
        · refine run26 σ s l v now hA hv 41 5 _ (fun _ _ τ f hf => by rw [hk]; exact how1 1 _ (.inl ⟨rfl, rfl⟩) τ f hf) (fun _ _ τ hkp f hf => ?_) h0R h1R f (by omega)
          have e : heldF v l now = l := by rw [hR]; exact fIdx_all l 0 (fun i a _ _ _ => by unfold holdsP; rw [if_pos hk])
          rw [e]
          exact run_all τ s l v now (hA.keeps hkp) f hf
        · refine run26 σ s l v now hA hv 48 5 _ (fun _ _ τ f hf => by rw [hk]; exact how1 8 _ (.inr (.inr (.inr (.inr (.inr (.inl ⟨rfl, rfl⟩)))))) τ f hf) (fun _ _ τ hkp f hf => ?_) h0R h1R f (by omega)
          have e : heldF v l now = l.drop (l.length - 1) := by
            rw [hR, fIdx_part (a := l.length - 1) (k := 1) (by omega) (fun i x hi _ => by unfold holdsP; rw [if_neg (by omega), if_neg (by omega), if_pos hk]; congr 1; apply propext; omega)]
            exact List.take_of_length_le (by rw [List.length_drop]; omega)
          rw [e]
          exact run_last τ s l v now (hA.keeps hkp) (hG.keeps hkp) hpos hlen f hf
        · refine run26 σ s l v now hA hv 49 5 _ (fun _ _ τ f hf => by rw [hk]; exact how1 9 _ (.inr (.inr (.inr (.inr (.inr (.inr ⟨rfl, rfl⟩)))))) τ f hf) (fun _ _ τ hkp f hf => ?_) h0R h1R f (by omega)
          have e : heldF v l now = l.take 1 := by
            rw [hR, fIdx_part (a := 0) (k := 1) (by omega) (fun i x hi _ => by unfold holdsP; rw [if_neg (by omega), if_neg (by omega), if_neg (by omega), if_pos hk]; congr 1; apply propext; omega), List.drop_zero]
          rw [e]
          exact run_first τ s l v now (hA.keeps hkp) (hG.keeps hkp) hpos hlen f hf
      · rcases hk with hk | hk
        · refine run26 σ s l v now hA hv 42 5 _ (fun _ _ τ f hf => by rw [hk]; exact how1 2 _ (.inr (.inl ⟨rfl, rfl⟩)) τ f hf) (fun _ _ τ hkp f hf => ?_) h0R h1R f (by omega)
          have e : heldF v l now = l.drop (l.length - v.n.toNat) := by
            rw [hR, fIdx_part (a := l.length - v.n.toNat) (k := l.length - (l.length - v.n.toNat)) (by omega) (fun i x hi _ => by unfold holdsP; rw [if_neg (by omega), if_pos hk]; congr 1; apply propext; omega)]
            exact List.take_of_length_le (by rw [List.length_drop]; omega)
          rw [e]
          exact run_length τ s l v now (hA.keeps hkp) (hG.keeps hkp) hpos hlen n1 n2 f hf
        · refine run26 σ s l v now hA hv 44 5 _ (fun _ _ τ f hf => by rw [hk]; exact how1 4 _ (.inr (.inr (.inl ⟨rfl, rfl⟩))) τ f hf) (fun _ _ τ hkp f hf => ?_) h0R h1R f (by omega)
          have e : heldF v l now = lbL l v.n.toNat := by
            have g1 := Nat.div_mul_le_self l.length v.n.toNat
            have g2 : (l.length / v.n.toNat - 1) * v.n.toNat ≤ l.length / v.n.toNat * v.n.toNat := Nat.mul_le_mul_right _ (Nat.sub_le _ _)
            rw [hR]
            unfold lbL
            refine fIdx_part (by rw [Nat.add_sub_of_le g2]; exact g1) (fun i x hi _ => ?_)
            unfold holdsP lbP
            rw [if_neg (by omega), if_neg (by omega), if_neg (by omega), if_neg (by omega), if_neg (by omega), if_pos hk]
            congr 1
            apply propext
            exact part_iff g2 (fun hb => by rw [hb, Nat.zero_mul])
          rw [e]
          exact run_lengthBatch τ s l v now (hA.keeps hkp) (hG.keeps hkp) hpos hlen n1 n2 f hf
      · have hb := run26b σ s l v now hA hv ht hL.n0 hk f (by omega)
        have e : heldF v l now = heldR v l now := by
          rw [hR]
          unfold heldR
          rw [if_pos ⟨hpos, hok⟩]
          rcases hk with hk | hk
          · rw [if_pos hk]
            exact fIdx_of_filter (fun i a => by unfold holdsP; rw [if_neg (by omega), if_neg (by omega), if_neg (by omega), if_neg (by omega), if_pos hk]) l
          · rw [if_neg (by omega)]
            exact fIdx_of_filter (fun i a => by unfold holdsP; rw [if_neg (by omega), if_neg (by omega), if_neg (by omega), if_neg (by omega), if_neg (by omega), if_neg (by omega), if_pos hk]) l
        rw [e]
        exact hb
      · have hm := slInts_max hv
        refine run26 σ s l v now hA hv 46 (C + 600) _ (fun _ _ τ f hf => by rw [hk]; exact how1 6 _ (.inr (.inr (.inr (.inl ⟨rfl, rfl⟩)))) τ f hf) (fun _ _ τ hkp f hf => ?_) h0R h1R f (by omega)
        have e : heldF v l now = fIdx (uniqP v l) 0 l := by
          rw [hR]
          congr 1
          funext i a
          unfold holdsP
          rw [if_neg (by omega), if_neg (by omega), if_neg (by omega), if_neg (by omega), if_neg (by omega), if_neg (by omega), if_neg (by omega), if_pos hk]
        rw [e]
        obtain ⟨x, rfl⟩ := hA.one
        exact run_u50 τ x l v now (hA.keeps hkp) (hG.keeps hkp) hmx (hv.keeps hkp) (fun c hc => (hcols c hc).1) hm f (by omega)
      · refine run26 σ s l v now hA hv 47 1000 _ (fun _ _ τ f hf => by rw [hk]; exact how1 7 _ (.inr (.inr (.inr (.inr (.inl ⟨rfl, rfl⟩))))) τ f hf) (fun _ _ τ hkp f hf => ?_) h0R h1R f (by omega)
        have e : heldF v l now = sortF v l := by
          rw [hR]
          unfold sortF
          exact fIdx_of_filter (fun i a => by unfold holdsP; rw [if_neg (by omega), if_neg (by omega), if_neg (by omega), if_neg (by omega), if_neg (by omega), if_neg (by omega), if_neg (by omega), if_neg (by omega)]) l
        rw [e]
        exact sorted_run τ s l v now c (hA.keeps hkp) (hG.keeps hkp) hpos hlen (hv.keeps hkp) hcols hc0 n1 n2 ht.seqs hL.q ht.vals hL.vin f hf
    · exact run26 σ s l v now hA hv 0 0 _ (fun h => absurd h hpos) (fun h => absurd h hpos) h0R h1R f (by omega)
  · exact run26 σ s l v now hA hv 0 0 _ (fun _ h => absurd h hok) (fun _ h => absurd h hok) h0R h1R f (by omega)
end Go.Proofs.Ythjijjkoeoemgaa.Ab
