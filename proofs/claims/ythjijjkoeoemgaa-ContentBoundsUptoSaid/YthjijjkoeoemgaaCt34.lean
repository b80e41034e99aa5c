/- The plain laws of how many a view holds. -/
import Derived.Test.YthjijjkoeoemgaaCt30
namespace Go.Proofs.Ythjijjkoeoemgaa.Ab
open Go
set_option maxRecDepth 20000
set_option maxHeartbeats 4000000
set_option linter.unusedSimpArgs false
set_option linter.unusedVariables false

/-! ### rows of one width -/
theorem badA_wid {q t : Int} {out : List Arr} {a : Arr} (h : ¬ badA q t out a = true) (h0 : 0 < out.length) : a.vals.length = (rAt out 0).vals.length := by
  unfold badA at h
  simp only [Bool.or_eq_true, not_or, Bool.and_eq_true, decide_eq_true_eq, Bool.not_eq_true', decide_eq_false_iff_not, not_and, Decidable.not_not] at h
  exact h.1.2 h0
theorem rAt_app {out m : List Arr} (h : 0 < out.length) : rAt (out ++ m) 0 = rAt out 0 := by
  cases out with
  | nil => simp at h
  | cons x out => rfl
theorem fitGo_wid : ∀ (l : List Arr) (q t : Int) (out : List Arr), (∀ a ∈ out, a.vals.length = (rAt out 0).vals.length) → ∀ a ∈ (fitGo q t out l).1, a.vals.length = (rAt (fitGo q t out l).1 0).vals.length
  | [], q, t, out, h => h
  | a :: l, q, t, out, h => by
    unfold fitGo
    split
    · exact fitGo_wid l q t out h
    · rename_i hb
      refine fitGo_wid l _ _ _ (fun x hx => ?_)
      cases out with
      | nil =>
        simp only [List.nil_append, List.mem_singleton] at hx
        subst hx
        rfl
      | cons y out =>
        rw [rAt_app (by simp)]
        rcases List.mem_append.1 hx with hx | hx
        · exact h x hx
        · simp only [List.mem_singleton] at hx
          subst hx
          exact badA_wid hb (by simp)
theorem fitL_wid (l : List Arr) : ∀ a ∈ (fitL l).1, a.vals.length = (rAt (fitL l).1 0).vals.length := fitGo_wid _ _ _ _ (fun a ha => by cases ha)

/-! ### by kinds -/
theorem heldF_2 {v : VS} {l : List Arr} {now : Int} (hp : 0 < l.length) (hok : okL v l) (hk : v.k = 2) (n1 : 1 ≤ v.n) : heldF v l now = l.drop (l.length - v.n.toNat) := by
  unfold heldF
  rw [if_pos ⟨hp, hok⟩, fIdx_part (a := l.length - v.n.toNat) (k := l.length - (l.length - v.n.toNat)) (by omega) (fun i x hi _ => by unfold holdsP; rw [if_neg (by omega), if_pos hk]; congr 1; apply propext; omega)]
  exact List.take_of_length_le (by rw [List.length_drop]; omega)
theorem heldF_8 {v : VS} {l : List Arr} {now : Int} (hp : 0 < l.length) (hok : okL v l) (hk : v.k = 8) : heldF v l now = l.drop (l.length - 1) := by
  unfold heldF
  rw [if_pos ⟨hp, hok⟩, fIdx_part (a := l.length - 1) (k := 1) (by omega) (fun i x hi _ => by unfold holdsP; rw [if_neg (by omega), if_neg (by omega), if_pos hk]; congr 1; apply propext; omega)]
  exact List.take_of_length_le (by rw [List.length_drop]; omega)
theorem heldF_9 {v : VS} {l : List Arr} {now : Int} (hp : 0 < l.length) (hok : okL v l) (hk : v.k = 9) : heldF v l now = l.take 1 := by
  unfold heldF
  rw [if_pos ⟨hp, hok⟩, fIdx_part (a := 0) (k := 1) (by omega) (fun i x hi _ => by unfold holdsP; rw [if_neg (by omega), if_neg (by omega), if_neg (by omega), if_pos hk]; congr 1; apply propext; omega), List.drop_zero]
theorem heldF_4 {v : VS} {l : List Arr} {now : Int} (hp : 0 < l.length) (hok : okL v l) (hk : v.k = 4) : heldF v l now = lbL l v.n.toNat := by
  have g1 := Nat.div_mul_le_self l.length v.n.toNat
  have g2 : (l.length / v.n.toNat - 1) * v.n.toNat ≤ l.length / v.n.toNat * v.n.toNat := Nat.mul_le_mul_right _ (Nat.sub_le _ _)
  unfold heldF
  rw [if_pos ⟨hp, hok⟩]
  unfold lbL
  refine fIdx_part (by rw [Nat.add_sub_of_le g2]; exact g1) (fun i x hi _ => ?_)
  unfold holdsP lbP
  rw [if_neg (by omega), if_neg (by omega), if_neg (by omega), if_neg (by omega), if_neg (by omega), if_pos hk]
  congr 1
  apply propext
  exact part_iff g2 (fun hb => by rw [hb, Nat.zero_mul])
theorem heldF_6 {v : VS} {l : List Arr} {now : Int} (hp : 0 < l.length) (hok : okL v l) (hk : v.k = 6) : heldF v l now = fIdx (uniqP v l) 0 l := by
  unfold heldF
  rw [if_pos ⟨hp, hok⟩]
  congr 1
  funext i a
  unfold holdsP
  rw [if_neg (by omega), if_neg (by omega), if_neg (by omega), if_neg (by omega), if_neg (by omega), if_neg (by omega), if_neg (by omega), if_pos hk]
theorem heldF_7 {v : VS} {l : List Arr} {now : Int} (hp : 0 < l.length) (hok : okL v l) (hk : v.k = 7) : heldF v l now = sortF v l := by
  unfold heldF
  rw [if_pos ⟨hp, hok⟩]
  unfold sortF
  exact fIdx_of_filter (fun i a => by unfold holdsP; rw [if_neg (by omega), if_neg (by omega), if_neg (by omega), if_neg (by omega), if_neg (by omega), if_neg (by omega), if_neg (by omega), if_neg (by omega)]) l

/-! ### sorted -/
theorem lt_total {v : VS} {a b : Arr} (h : a.seq ≠ b.seq) (hn : ¬ ltC (cfV v) a b) : ltC (cfV v) b a := by
  have h1 := (cfV_ord v).anti a b
  have h2 := (cfV_ord v).anti b a
  unfold ltC at hn ⊢
  simp only [not_or, not_and] at hn
  obtain ⟨g1, g2⟩ := hn
  by_cases c : cfV v b a < 0
  · exact .inl c
  · have e1 : cfV v a b = 0 := by omega
    have e2 : cfV v b a = 0 := by omega
    have := g2 e1
    exact .inr ⟨e2, by omega⟩
def insL (v : VS) (x : Arr) : List Arr → List Arr
  | [] => [x]
  | y :: l => if ltB v x y = true then x :: y :: l else y :: insL v x l
def isortL (v : VS) : List Arr → List Arr
  | [] => []
  | x :: l => insL v x (isortL v l)
theorem insL_perm (v : VS) (x : Arr) : ∀ l, (insL v x l).Perm (x :: l)
  | [] => List.Perm.refl _
  | y :: l => by
    unfold insL
    split
    · exact List.Perm.refl _
    · exact ((insL_perm v x l).cons y).trans (List.Perm.swap x y l)
theorem isortL_perm (v : VS) : ∀ l, (isortL v l).Perm l
  | [] => List.Perm.refl _
  | x :: l => (insL_perm v x _).trans ((isortL_perm v l).cons x)
theorem insL_srt {v : VS} {x : Arr} : ∀ {l : List Arr}, l.Pairwise (ltC (cfV v)) → (∀ y ∈ l, x.seq ≠ y.seq) → (insL v x l).Pairwise (ltC (cfV v))
  | [], _, _ => List.pairwise_singleton _ _
  | y :: l, h, hne => by
    obtain ⟨h1, h2⟩ := List.pairwise_cons.1 h
    unfold insL
    split
    · rename_i hb
      have hxy := (ltB_iff _ _ _).1 hb
      refine List.pairwise_cons.2 ⟨fun z hz => ?_, h⟩
      rcases List.mem_cons.1 hz with rfl | hz
      · exact hxy
      · exact hxy.trans (cfV_ord v) (h1 z hz)
    · rename_i hb
      have hyx := lt_total (hne y (by simp)) (fun e => hb ((ltB_iff _ _ _).2 e))
      refine List.pairwise_cons.2 ⟨fun z hz => ?_, insL_srt h2 (fun z hz => hne z (by simp [hz]))⟩
      rcases List.mem_cons.1 ((insL_perm v x l).mem_iff.1 hz) with rfl | hz
      · exact hyx
      · exact h1 z hz
theorem isortL_srt {v : VS} : ∀ {l : List Arr}, SrtQ l → (isortL v l).Pairwise (ltC (cfV v))
  | [], _ => List.Pairwise.nil
  | x :: l, h => by
    obtain ⟨h1, h2⟩ := List.pairwise_cons.1 h
    exact insL_srt (isortL_srt h2) (fun y hy => by have := h1 y ((isortL_perm v l).mem_iff.1 hy); omega)
theorem sortF_len {v : VS} {l : List Arr} (hs : SrtQ l) (n1 : 1 ≤ v.n) : (sortF v l).length = min v.n.toNat l.length := by
  have hp := isortL_perm v l
  have hS : SrtC (cfV v) (isortL v l) 0 (isortL v l).length := fun i j _ hij hj => by
    rw [rAt_get (by omega), rAt_get hj]
    exact List.pairwise_iff_getElem.1 (isortL_srt hs) i j (by omega) hj hij
  rw [← sort_eq hp hS hs (m := v.n.toNat) (.inl (by omega)), (isortQ_perm _).length_eq, List.length_take, hp.length_eq]
theorem lbL_len (l : List Arr) (N : Nat) : (lbL l N).length ≤ N := by
  unfold lbL
  rw [List.length_take]
  refine Nat.le_trans (Nat.min_le_left _ _) ?_
  generalize l.length / N = B
  cases B with
  | zero => simp
  | succ B =>
    rw [Nat.succ_sub_one, Nat.succ_mul, Nat.add_sub_cancel_left]
    exact Nat.le_refl _
/-! ### unique -/
theorem uniq_pair (v : VS) (l : List Arr) : ∀ (m : List Arr) (j : Nat), l.drop j = m → (fIdx (uniqP v l) j m).Pairwise (fun a b => keyL b.vals v.cols ≠ keyL a.vals v.cols)
  | [], _, _ => List.Pairwise.nil
  | a :: m, j, h => by
    have h2 : l.drop (j + 1) = m := by rw [← List.drop_drop, h]; rfl
    have ih := uniq_pair v l m (j + 1) h2
    unfold fIdx
    split
    · rename_i hp
      refine List.pairwise_cons.2 ⟨fun b hb => ?_, ih⟩
      have hbm := fIdx_mem _ m (j + 1) b hb
      unfold uniqP at hp
      rw [h2, Bool.not_eq_true', List.any_eq_false] at hp
      simpa using hp b hbm
    · exact ih
theorem uniq_some (v : VS) {l : List Arr} (h : 0 < l.length) : 1 ≤ (fIdx (uniqP v l) 0 l).length := by
  obtain ⟨n, hn⟩ : ∃ n, l.length = n + 1 := ⟨l.length - 1, by omega⟩
  have e : l = l.take n ++ [rAt l n] := by
    rw [← take_next (by omega), List.take_of_length_le (by omega)]
  have hl : (l.take n).length = n := by rw [List.length_take]; omega
  have hu : uniqP v l n (rAt l n) = true := by
    unfold uniqP
    rw [List.drop_of_length_le (by omega)]
    rfl
  have : fIdx (uniqP v l) 0 l = fIdx (uniqP v l) 0 (l.take n) ++ [rAt l n] := by
    conv => lhs; arg 3; rw [e]
    rw [fIdx_append, hl, Nat.zero_add]
    congr 1
    unfold fIdx
    rw [if_pos hu]
    rfl
  rw [this, List.length_append, List.length_singleton]
  omega
end Go.Proofs.Ythjijjkoeoemgaa.Ab
