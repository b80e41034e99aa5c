/- The plain law of the next time: the document's search among the borders finds what content's change tells. -/
import Derived.Test.YthjijjkoeoemgaaCt13
namespace Go.Proofs.Ythjijjkoeoemgaa.Ab
open Go
set_option maxRecDepth 20000
set_option maxHeartbeats 2000000
set_option linter.unusedSimpArgs false
set_option linter.unusedVariables false

def leastI (best t now : Int) : Int := if now < t ∧ (best < 0 ∨ t < best) then t else best
def optI (o : Option Int) : Int := match o with
  | some t => t
  | none => -1
def timeFold (n now : Int) : List Arr → Int → Int
  | [], best => best
  | a :: l, best => timeFold n now l (leastI best (a.time + n) now)
theorem timeFold_stay {n now best : Int} (hb : 0 ≤ best) : ∀ {l : List Arr}, (∀ a ∈ l, best ≤ a.time + n) → timeFold n now l best = best
  | [], _ => rfl
  | a :: l, h => by
    have h1 := h a (by simp)
    have e : leastI best (a.time + n) now = best := by unfold leastI; rw [if_neg (by omega)]
    simp only [timeFold, e]
    exact timeFold_stay hb (fun x hx => h x (by simp [hx]))
theorem timeFold_eq (v : VS) {now : Int} (hnow : 0 ≤ now) : ∀ {l : List Arr}, l.Pairwise (fun a b => a.time ≤ b.time) →
    timeFold v.n now l (-1) = optI (match l.filter (timeP v now) with | [] => none | a :: _ => some (a.time + v.n))
  | [], _ => rfl
  | a :: l, h => by
    obtain ⟨h1, h2⟩ := List.pairwise_cons.1 h
    by_cases hc : now - v.n < a.time
    · have e : leastI (-1) (a.time + v.n) now = a.time + v.n := by unfold leastI; rw [if_pos (by omega)]
      have e2 : (a :: l).filter (timeP v now) = a :: l.filter (timeP v now) := by rw [List.filter_cons, if_pos (by simpa [timeP] using hc)]
      simp only [timeFold, e, e2, optI]
      exact timeFold_stay (by omega) (fun x hx => by have := h1 x hx; omega)
    · have e : leastI (-1) (a.time + v.n) now = -1 := by unfold leastI; rw [if_neg (by omega)]
      have e2 : (a :: l).filter (timeP v now) = l.filter (timeP v now) := by rw [List.filter_cons, if_neg (by simpa [timeP] using hc)]
      simp only [timeFold, e, e2]
      exact timeFold_eq v hnow h2

/-! ### batches -/
def sameQ (a b : List Arr) : Bool := decide (a.map Arr.seq = b.map Arr.seq)
noncomputable def brdStep (v : VS) (l : List Arr) (now k best : Int) : Int :=
  if now < t0 l + k * v.n ∧ sameQ (heldR v l (t0 l + k * v.n)) (heldR v l now) = false then leastI best (t0 l + k * v.n) now else best
noncomputable def brdFold (v : VS) (l : List Arr) (now : Int) : List Arr → Int → Int
  | [], best => best
  | a :: m, best => brdFold v l now m (brdStep v l now (bOf l v.n a + 1 + 1) (brdStep v l now (bOf l v.n a + 1) best))
theorem seq_inj {l : List Arr} (h : l.Pairwise fun a b => a.seq < b.seq) {a b : Arr} (ha : a ∈ l) (hb : b ∈ l) (e : a.seq = b.seq) : a = b := by
  induction l with
  | nil => cases ha
  | cons x l ih =>
    obtain ⟨h1, h2⟩ := List.pairwise_cons.1 h
    rcases List.mem_cons.1 ha with ha' | ha'
    · rcases List.mem_cons.1 hb with hb' | hb'
      · rw [ha', hb']
      · have := h1 b hb'; rw [ha'] at e; omega
    · rcases List.mem_cons.1 hb with hb' | hb'
      · have := h1 a ha'; rw [hb'] at e; omega
      · exact ih h2 ha' hb'
theorem heldR5_mem {v : VS} {l : List Arr} {now : Int} (h0 : 0 < l.length) (hok : okL v l) (hk : v.k = 5) (hn : 1 ≤ v.n) {a : Arr} (hf : ∀ x ∈ l, t0 l ≤ x.time) :
    a ∈ heldR v l now ↔ a ∈ l ∧ 0 < bNo l now v.n ∧ bOf l v.n a = bNo l now v.n - 1 := by
  unfold heldR
  rw [if_pos ⟨h0, hok⟩, if_neg (by omega), List.mem_filter]
  constructor
  · rintro ⟨h1, h2⟩
    refine ⟨h1, ?_⟩
    unfold batchP at h2
    simp only [Bool.and_eq_true, decide_eq_true_eq] at h2
    obtain ⟨h3, h4, h5⟩ := h2
    refine ⟨h3, ?_⟩
    unfold bOf
    have e1 := Int.emod_add_mul_ediv (a.time - t0 l) v.n
    have e2 := Int.emod_nonneg (a.time - t0 l) (b := v.n) (by omega)
    have e3 := Int.emod_lt_of_pos (a.time - t0 l) (b := v.n) (by omega)
    refine Int.le_antisymm (Int.le_of_lt_add_one ?_) ?_
    · exact Int.ediv_lt_of_lt_mul (by omega) (by rw [Int.add_mul, Int.one_mul]; omega)
    · exact Int.le_ediv_of_mul_le (by omega) (by omega)
  · rintro ⟨h1, h2, h3⟩
    refine ⟨h1, ?_⟩
    unfold batchP
    simp only [Bool.and_eq_true, decide_eq_true_eq]
    unfold bOf at h3
    have e1 := Int.emod_add_mul_ediv (a.time - t0 l) v.n
    have e2 := Int.emod_nonneg (a.time - t0 l) (b := v.n) (by omega)
    have e3 := Int.emod_lt_of_pos (a.time - t0 l) (b := v.n) (by omega)
    rw [h3, Int.mul_comm] at e1
    exact ⟨h2, by omega, by omega⟩
theorem bNo_border {l : List Arr} {n k : Int} (hn : 1 ≤ n) : bNo l (t0 l + k * n) n = k := by
  unfold bNo
  rw [show t0 l + k * n - t0 l = k * n by omega]
  exact Int.mul_ediv_cancel k (by omega)
theorem diff_of {v : VS} {l : List Arr} {A B : List Arr} (hs : l.Pairwise fun a b => a.seq < b.seq) (hA : ∀ x ∈ A, x ∈ l) (hB : ∀ x ∈ B, x ∈ l) {a : Arr} (h1 : a ∈ A) (h2 : a ∉ B) : sameQ A B = false ∧ sameQ B A = false := by
  have h3 : a.seq ∉ B.map Arr.seq := by
    intro h
    obtain ⟨b, hb, e⟩ := List.mem_map.1 h
    have := seq_inj hs (hB b hb) (hA a h1) e
    subst this
    exact h2 hb
  have h4 : a.seq ∈ A.map Arr.seq := List.mem_map_of_mem h1
  unfold sameQ
  simp only [decide_eq_false_iff_not]
  exact ⟨fun e => h3 (by rw [← e]; exact h4), fun e => h3 (by rw [e]; exact h4)⟩
theorem heldR_mem {v : VS} {l : List Arr} {now : Int} {x : Arr} (h : x ∈ heldR v l now) : x ∈ l := by
  unfold heldR at h
  split at h
  · split at h
    · exact (List.mem_filter.1 h).1
    · exact (List.mem_filter.1 h).1
  · cases h
theorem brd_pair (v : VS) (l : List Arr) (now : Int) (ht : TimesOk l now) (hnow : 0 ≤ now) (h0 : 0 < l.length) (hok : okL v l) (hk : v.k = 5) (a : Arr) (ha : a ∈ l) (best : Int) (hb : best = -1 ∨ best = t0 l + (bNo l now v.n + 1) * v.n) :
    brdStep v l now (bOf l v.n a + 1 + 1) (brdStep v l now (bOf l v.n a + 1) best) =
      if bOf l v.n a = bNo l now v.n ∨ bOf l v.n a = bNo l now v.n - 1 then t0 l + (bNo l now v.n + 1) * v.n else best := by
  obtain ⟨n1, n2⟩ := okL_n hok (.inr hk)
  obtain ⟨z0, z1, z2⟩ := ht.zero h0
  obtain ⟨_, e2, e3, e4, _⟩ := bNo_near (n := v.n) z0 z1 z2 n1 n2
  have hle := bOf_le (l := l) (n := v.n) (ht.hi a ha) n1
  have hb0 := (b_near (n := v.n) ht ha n1).2.1
  have hfirst := fun x (hx : x ∈ l) => ht.first hx
  have hm1 := fun now' x => heldR5_mem (a := x) (now := now') h0 hok hk n1 hfirst
  obtain ⟨b, hB⟩ : ∃ b, b = bNo l now v.n := ⟨_, rfl⟩
  rw [← hB] at hb e2 e3 e4 hle ⊢
  obtain ⟨β, hβ⟩ : ∃ β, β = bOf l v.n a := ⟨_, rfl⟩
  rw [← hβ] at hle hb0 ⊢
  have es := mul_succ' b v.n
  have hpos : ∀ k : Int, k ≤ b → t0 l + k * v.n ≤ now := fun k hkb => by
    have : k * v.n ≤ b * v.n := Int.mul_le_mul_of_nonneg_right hkb (by omega)
    omega
  have low : ∀ k c : Int, k ≤ b → brdStep v l now k c = c := fun k c hkb => by
    have := hpos k hkb
    unfold brdStep
    rw [if_neg (fun e => by omega)]
  have hnowB : now < t0 l + (b + 1) * v.n := by omega
  by_cases c1 : β = b
  · rw [if_pos (.inl c1), c1]
    have hd : sameQ (heldR v l (t0 l + (b + 1) * v.n)) (heldR v l now) = false := by
      refine (diff_of (v := v) ht.seqs (fun x hx => heldR_mem hx) (fun x hx => heldR_mem hx) (a := a) ?_ ?_).1
      · rw [hm1, bNo_border n1]; exact ⟨ha, by omega, by omega⟩
      · rw [hm1, ← hB]; rintro ⟨_, _, h⟩; omega
    have s1 : brdStep v l now (b + 1) best = t0 l + (b + 1) * v.n := by
      unfold brdStep
      rw [if_pos ⟨hnowB, hd⟩]
      unfold leastI
      rcases hb with rfl | rfl
      · rw [if_pos ⟨hnowB, .inl (by omega)⟩]
      · split <;> rfl
    rw [s1]
    unfold brdStep
    have es2 := mul_succ' (b + 1) v.n
    split
    · unfold leastI
      rw [if_neg (fun e => by omega)]
    · rfl
  · by_cases c2 : β = b - 1
    · rw [if_pos (.inr c2), c2, show b - 1 + 1 = b by omega, low b best (Int.le_refl _)]
      have hd : sameQ (heldR v l (t0 l + (b + 1) * v.n)) (heldR v l now) = false := by
        refine (diff_of (v := v) ht.seqs (fun x hx => heldR_mem hx) (fun x hx => heldR_mem hx) (a := a) ?_ ?_).2
        · rw [hm1, ← hB]; exact ⟨ha, by omega, by omega⟩
        · rw [hm1, bNo_border n1]; rintro ⟨_, _, h⟩; omega
      unfold brdStep
      rw [if_pos ⟨hnowB, hd⟩]
      unfold leastI
      rcases hb with rfl | rfl
      · rw [if_pos ⟨hnowB, .inl (by omega)⟩]
      · split <;> rfl
    · rw [if_neg (fun e => by rcases e with e | e; exact c1 e; exact c2 e), low _ _ (by omega), low _ _ (by omega)]
theorem brdFold_eq (v : VS) (l : List Arr) (now : Int) (ht : TimesOk l now) (hnow : 0 ≤ now) (h0 : 0 < l.length) (hok : okL v l) (hk : v.k = 5) : ∀ (m : List Arr) (best : Int), (∀ a ∈ m, a ∈ l) → (best = -1 ∨ best = t0 l + (bNo l now v.n + 1) * v.n) →
    brdFold v l now m best = if best = -1 ∧ ¬ ∃ a ∈ m, bOf l v.n a = bNo l now v.n ∨ bOf l v.n a = bNo l now v.n - 1 then -1 else t0 l + (bNo l now v.n + 1) * v.n
  | [], best, _, hb => by
    unfold brdFold
    rcases hb with rfl | rfl
    · rw [if_pos ⟨rfl, fun ⟨_, h, _⟩ => by cases h⟩]
    · split
      · rename_i h; exact h.1
      · rfl
  | a :: m, best, hm, hb => by
    have ha := hm a (by simp)
    simp only [brdFold]
    rw [brd_pair v l now ht hnow h0 hok hk a ha best hb]
    by_cases hc : bOf l v.n a = bNo l now v.n ∨ bOf l v.n a = bNo l now v.n - 1
    · rw [if_pos hc, brdFold_eq v l now ht hnow h0 hok hk m _ (fun x hx => hm x (by simp [hx])) (.inr rfl)]
      have hz := (ht.zero h0).1
      have hbb := (okL_n hok (.inr hk)).1
      obtain ⟨z0, z1, z2⟩ := ht.zero h0
      obtain ⟨_, e2, _, e4, _⟩ := bNo_near (n := v.n) z0 z1 z2 (okL_n hok (.inr hk)).1 (okL_n hok (.inr hk)).2
      have es := mul_succ' (bNo l now v.n) v.n
      rw [if_neg (fun e => by have := e.1; omega), if_neg (fun e => e.2 ⟨a, by simp, hc⟩)]
    · rw [if_neg hc, brdFold_eq v l now ht hnow h0 hok hk m best (fun x hx => hm x (by simp [hx])) hb]
      have : (∃ x ∈ m, bOf l v.n x = bNo l now v.n ∨ bOf l v.n x = bNo l now v.n - 1) ↔ ∃ x ∈ a :: m, bOf l v.n x = bNo l now v.n ∨ bOf l v.n x = bNo l now v.n - 1 := by
        constructor
        · rintro ⟨x, hx, h⟩; exact ⟨x, by simp [hx], h⟩
        · rintro ⟨x, hx, h⟩
          rcases List.mem_cons.1 hx with rfl | hx
          · exact absurd h hc
          · exact ⟨x, hx, h⟩
      simp only [and_congr_right_iff, this]
/-- What the document's search finds, at one view. -/
noncomputable def nextI (v : VS) (l : List Arr) (now : Int) : Int :=
  if 0 < l.length ∧ okL v l then if v.k = 3 then timeFold v.n now l (-1) else if v.k = 5 then brdFold v l now l (-1) else -1 else -1
theorem nextI_eq (v : VS) (l : List Arr) (now : Int) (ht : TimesOk l now) (hnow : 0 ≤ now) : nextI v l now = optI (changeO v l now) := by
  unfold nextI changeO
  by_cases hc : 0 < l.length ∧ okL v l
  · rw [if_pos hc, if_pos hc]
    obtain ⟨h0, hok⟩ := hc
    by_cases h3 : v.k = 3
    · rw [if_pos h3, if_pos h3, timeFold_eq v hnow ht.mono]
      unfold heldR
      rw [if_pos ⟨h0, hok⟩, if_pos h3]
      cases l.filter (timeP v now) <;> rfl
    · rw [if_neg h3, if_neg h3]
      by_cases h5 : v.k = 5
      · rw [if_pos h5, if_pos h5, brdFold_eq v l now ht hnow h0 hok h5 l (-1) (fun _ h => h) (.inl rfl)]
        unfold batchO
        obtain ⟨n1, n2⟩ := okL_n hok (.inr h5)
        have hm1 := fun x => heldR5_mem (a := x) (now := now) h0 hok h5 n1 (fun y hy => ht.first hy)
        by_cases hex : ∃ a ∈ l, bOf l v.n a = bNo l now v.n ∨ bOf l v.n a = bNo l now v.n - 1
        · rw [if_neg (fun e => e.2 hex), if_pos]
          · rfl
          · obtain ⟨a, ha, h | h⟩ := hex
            · right
              rw [List.any_eq_true]
              exact ⟨a, ha, by simpa using h⟩
            · left
              have := (b_near (n := v.n) ht ha n1).2.1
              exact List.length_pos_of_mem ((hm1 a).2 ⟨ha, by omega, h⟩)
        · rw [if_pos ⟨rfl, hex⟩, if_neg]
          · rfl
          · rintro (h | h)
            · obtain ⟨a, ha⟩ := List.exists_mem_of_length_pos h
              obtain ⟨q1, _, q2⟩ := (hm1 a).1 ha
              exact hex ⟨a, q1, .inr q2⟩
            · rw [List.any_eq_true] at h
              obtain ⟨a, ha, h⟩ := h
              exact hex ⟨a, ha, .inl (by simpa using h)⟩
      · rw [if_neg h5, if_neg h5]; rfl
  · rw [if_neg hc, if_neg hc]; rfl
theorem changeO_gt {v : VS} {l : List Arr} {now t : Int} (ht : TimesOk l now) (hnow : 0 ≤ now) (h : changeO v l now = some t) : now < t := by
  unfold changeO at h
  split at h
  · rename_i hc
    obtain ⟨h0, hok⟩ := hc
    split at h
    · rename_i h3
      split at h
      · cases h
      · rename_i a m he
        cases h
        have hm : a ∈ heldR v l now := by rw [he]; simp
        unfold heldR at hm
        rw [if_pos ⟨h0, hok⟩, if_pos h3] at hm
        have := (List.mem_filter.1 hm).2
        simp only [timeP, decide_eq_true_eq] at this
        omega
    · split at h
      · rename_i h5
        unfold batchO at h
        split at h
        · cases h
          obtain ⟨z0, z1, z2⟩ := ht.zero h0
          obtain ⟨_, e2, _, e4, _⟩ := bNo_near (n := v.n) z0 z1 z2 (okL_n hok (.inr h5)).1 (okL_n hok (.inr h5)).2
          have es := mul_succ' (bNo l now v.n) v.n
          omega
        · cases h
      · cases h
  · cases h
end Go.Proofs.Ythjijjkoeoemgaa.Ab
