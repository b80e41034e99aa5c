/- The plain laws of what is held: whatever the order of the views; and between now and the next time. -/
import Derived.Test.YthjijjkoeoemgaaCt30
import Derived.Test.YthjijjkoeoemgaaCt14
namespace Go.Proofs.Ythjijjkoeoemgaa.Ab
open Go
set_option maxRecDepth 20000
set_option maxHeartbeats 4000000
set_option linter.unusedSimpArgs false
set_option linter.unusedVariables false

theorem hasA_false {l : List Arr} {q : Int} (h : ∀ a ∈ l, a.seq ≠ q) : hasA l q = false := by
  unfold hasA
  rw [List.any_eq_false]
  intro a ha
  simpa using h a ha
theorem hasA_true {l : List Arr} {a : Arr} (h : a ∈ l) : hasA l a.seq = true := by
  unfold hasA
  rw [List.any_eq_true]
  exact ⟨a, h, by simp⟩
theorem sub_filter : ∀ {x l : List Arr}, List.Sublist x l → SrtQ l → x = l.filter (fun a => hasA x a.seq)
  | _, _, .slnil, _ => rfl
  | x, _, .cons (l₂ := l) a h, hs => by
    obtain ⟨h1, h2⟩ := List.pairwise_cons.1 hs
    have e : hasA x a.seq = false := hasA_false (fun b hb => by have := h1 b (h.subset hb); omega)
    rw [List.filter_cons, e, if_neg (by simp)]
    exact sub_filter h h2
  | _, _, .cons_cons (l₁ := x) (l₂ := l) a h, hs => by
    obtain ⟨h1, h2⟩ := List.pairwise_cons.1 hs
    have e : hasA (a :: x) a.seq = true := hasA_true (by simp)
    have ih := sub_filter h h2
    rw [List.filter_cons, if_pos e]
    congr 1
    refine ih.trans (List.filter_congr (fun b hb => ?_))
    have hne := h1 b hb
    unfold hasA
    rw [List.any_cons, show decide (a.seq = b.seq) = false from decide_eq_false (by omega), Bool.false_or]
theorem ofF_filter (l : List Arr) (now : Int) : ∀ (vs : List VS) (out : List Arr), ofF l now vs out = out.filter (fun a => vs.all fun v => hasA (heldF v l now) a.seq)
  | [], out => (List.filter_eq_self.2 (fun _ _ => rfl)).symm
  | v :: vs, out => by
    unfold ofF
    rw [ofF_filter l now vs, List.filter_filter]
    congr 1
    funext a
    rw [List.all_cons, Bool.and_comm]
theorem ofL_filter {vs : List VS} {l : List Arr} {now : Int} (hs : SrtQ l) (h : vs ≠ []) : ofL vs l now = l.filter (fun a => vs.all fun v => hasA (heldF v l now) a.seq) := by
  cases vs with
  | nil => exact absurd rfl h
  | cons v vs =>
    show ofF l now vs (heldF v l now) = _
    rw [ofF_filter]
    conv => lhs; rw [sub_filter (heldF_sublist v l now) hs]
    rw [List.filter_filter]
    refine List.filter_congr (fun a ha => ?_)
    rw [List.all_cons, Bool.and_comm]
theorem ofL_reverse {vs : List VS} {l : List Arr} {now : Int} (hs : SrtQ l) : ofL vs.reverse l now = ofL vs l now := by
  by_cases h : vs = []
  · rw [h]; rfl
  · rw [ofL_filter hs h, ofL_filter hs (by simpa using h)]
    refine List.filter_congr (fun a _ => ?_)
    rw [List.all_reverse]

/-! ### nothing changes till then -/
theorem minO_lt {u : Int} {o c : Option Int} (h : ∀ t, minO o c = some t → u < t) : (∀ t, o = some t → u < t) ∧ (∀ t, c = some t → u < t) := by
  cases c with
  | none => exact ⟨fun t ht => h t (by cases o <;> exact ht), fun t ht => (by cases ht)⟩
  | some c =>
    cases o with
    | none => exact ⟨fun t ht => (by cases ht), fun t ht => h t ht⟩
    | some o =>
      have h' : ∀ t, (if c < o then some c else some o) = some t → u < t := h
      split at h'
      · have := h' c rfl
        exact ⟨fun t ht => by cases ht; omega, fun t ht => by cases ht; omega⟩
      · have := h' o rfl
        exact ⟨fun t ht => by cases ht; omega, fun t ht => by cases ht; omega⟩
theorem nextO_lt {l : List Arr} {now u : Int} : ∀ (vs : List VS) (o : Option Int), (∀ t, nextO l now vs o = some t → u < t) → (∀ t, o = some t → u < t) ∧ ∀ v ∈ vs, ∀ t, changeO v l now = some t → u < t
  | [], o, h => ⟨h, fun v hv => by cases hv⟩
  | v :: vs, o, h => by
    obtain ⟨h1, h2⟩ := nextO_lt vs _ h
    obtain ⟨h3, h4⟩ := minO_lt h1
    refine ⟨h3, fun w hw => ?_⟩
    rcases List.mem_cons.1 hw with rfl | hw
    · exact h4
    · exact h2 w hw
theorem heldF_R {v : VS} {l : List Arr} {now : Int} (hk : v.k = 3 ∨ v.k = 5) : heldF v l now = heldR v l now := by
  unfold heldF heldR
  by_cases h : 0 < l.length ∧ okL v l
  · rw [if_pos h, if_pos h]
    rcases hk with hk | hk
    · rw [if_pos hk]
      exact fIdx_of_filter (fun i a => by unfold holdsP; rw [if_neg (by omega), if_neg (by omega), if_neg (by omega), if_neg (by omega), if_pos hk]) l
    · rw [if_neg (by omega)]
      exact fIdx_of_filter (fun i a => by unfold holdsP; rw [if_neg (by omega), if_neg (by omega), if_neg (by omega), if_neg (by omega), if_neg (by omega), if_neg (by omega), if_pos hk]) l
  · rw [if_neg h, if_neg h]
theorem heldF_still {v : VS} {l : List Arr} {now u : Int} (ht : TimesOk l now) (hu : now ≤ u) (h : ∀ t, changeO v l now = some t → u < t) : heldF v l u = heldF v l now := by
  by_cases hok : 0 < l.length ∧ okL v l
  · by_cases h3 : v.k = 3
    · rw [heldF_R (.inl h3), heldF_R (.inl h3)]
      have hch : changeO v l now = (match heldR v l now with | [] => none | a :: _ => some (a.time + v.n)) := by unfold changeO; rw [if_pos hok, if_pos h3]; cases heldR v l now <;> rfl
      have hR : heldR v l now = l.filter (timeP v now) := by unfold heldR; rw [if_pos hok, if_pos h3]
      have hR2 : heldR v l u = l.filter (timeP v u) := by unfold heldR; rw [if_pos hok, if_pos h3]
      rw [hR2, hR]
      refine List.filter_congr (fun a ha => ?_)
      unfold timeP
      congr 1
      apply propext
      constructor
      · intro h1; omega
      · intro h1
        have hmem : a ∈ heldR v l now := by rw [hR, List.mem_filter]; exact ⟨ha, by unfold timeP; simpa using h1⟩
        cases hc : heldR v l now with
        | nil => rw [hc] at hmem; cases hmem
        | cons b m =>
          rw [hc] at hch hmem
          have hb := h _ hch
          have hmono : (b :: m).Pairwise fun a b => a.time ≤ b.time := by rw [← hc, hR]; exact List.Pairwise.sublist List.filter_sublist ht.mono
          have : b.time ≤ a.time := by
            rcases List.mem_cons.1 hmem with rfl | hm
            · exact Int.le_refl _
            · exact (List.pairwise_cons.1 hmono).1 a hm
          omega
    · by_cases h5 : v.k = 5
      · rw [heldF_R (.inr h5), heldF_R (.inr h5)]
        obtain ⟨n1, n2⟩ := okL_n hok.2 (.inr h5)
        have hch : changeO v l now = batchO v l now := by unfold changeO; rw [if_pos hok, if_neg h3, if_pos h5]
        rw [hch] at h
        have hle : bNo l now v.n ≤ bNo l u v.n := by unfold bNo; exact Int.ediv_le_ediv (by omega) (by omega)
        have hform : bNo l u v.n = bNo l now v.n → heldR v l u = heldR v l now := fun e => by
          unfold heldR
          rw [if_pos hok, if_pos hok, if_neg h3, if_neg h3, e]
        unfold batchO at h
        split at h
        · have hb := h _ rfl
          apply hform
          refine Int.le_antisymm (Int.le_of_lt_add_one ?_) hle
          unfold bNo at hb ⊢
          exact Int.ediv_lt_of_lt_mul (by omega) (by omega)
        · rename_i hno
          simp only [not_or, Nat.not_lt, Nat.le_zero_eq, List.length_eq_zero_iff] at hno
          obtain ⟨h1, h2⟩ := hno
          have hnone : ∀ a ∈ l, bOf l v.n a ≠ bNo l now v.n := fun a ha e => h2 (by rw [List.any_eq_true]; exact ⟨a, ha, by simpa using e⟩)
          rw [h1]
          rw [List.eq_nil_iff_forall_not_mem]
          intro a ha
          obtain ⟨g1, g2, g3⟩ := (heldR5_mem hok.1 hok.2 h5 n1 (fun x hx => ht.first hx)).1 ha
          have hb := bOf_le (l := l) (ht.hi a g1) n1
          have hn := hnone a g1
          have e : bNo l u v.n = bNo l now v.n := by omega
          have hin : a ∈ heldR v l now := (heldR5_mem hok.1 hok.2 h5 n1 (fun x hx => ht.first hx)).2 ⟨g1, by omega, by omega⟩
          rw [h1] at hin
          cases hin
      · unfold heldF
        rw [if_pos hok, if_pos hok]
        congr 1
        funext i a
        unfold holdsP
        by_cases k1 : v.k = 1
        · rw [if_pos k1, if_pos k1]
        · by_cases k2 : v.k = 2
          · rw [if_neg k1, if_neg k1, if_pos k2, if_pos k2]
          · rw [if_neg k1, if_neg k1, if_neg k2, if_neg k2, if_neg h3, if_neg h3, if_neg h5, if_neg h5]
  · unfold heldF
    rw [if_neg hok, if_neg hok]
theorem ofL_congr {l : List Arr} {now u : Int} {vs : List VS} (h : ∀ v ∈ vs, heldF v l u = heldF v l now) : ofL vs l u = ofL vs l now := by
  cases vs with
  | nil => rfl
  | cons v vs =>
    show ofF l u vs (heldF v l u) = ofF l now vs (heldF v l now)
    rw [ofF_filter, ofF_filter, h v (by simp)]
    refine List.filter_congr (fun a _ => ?_)
    have : ∀ w ∈ vs, hasA (heldF w l u) a.seq = hasA (heldF w l now) a.seq := fun w hw => by rw [h w (by simp [hw])]
    clear h
    induction vs with
    | nil => rfl
    | cons w vs ih => rw [List.all_cons, List.all_cons, this w (by simp), ih (fun x hx => this x (by simp [hx]))]
theorem ofL_still {l : List Arr} {now u : Int} {vs : List VS} (ht : TimesOk l now) (hu : now ≤ u) (h : ∀ t, nextO l now vs none = some t → u < t) : ofL vs l u = ofL vs l now :=
  ofL_congr (fun v hv => heldF_still ht hu (fun t e => (nextO_lt vs none h).2 v hv t e))
theorem LOk.later {l : List Arr} {now u : Int} (h : LOk l now) (hu : now ≤ u) (h2 : u ≤ 1099511627776) : LOk l u :=
  ⟨⟨h.t.lo, fun a ha => Int.le_trans (h.t.hi a ha) hu, h2, h.t.mono, h.t.seqs, h.t.vals, h.t.len⟩, Int.le_trans h.n0 hu, h.q, h.vin⟩
end Go.Proofs.Ythjijjkoeoemgaa.Ab
