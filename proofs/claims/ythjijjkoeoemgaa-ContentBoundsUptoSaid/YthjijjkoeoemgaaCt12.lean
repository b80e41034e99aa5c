/- When what views hold changes: content's batch, change and Next. -/
import Derived.Test.YthjijjkoeoemgaaCt11
import Derived.Test.YthjijjkoeoemgaaAbD
namespace Go.Proofs.Ythjijjkoeoemgaa.Ab
open Go
set_option maxRecDepth 20000
set_option maxHeartbeats 4000000
set_option linter.unusedSimpArgs false
set_option linter.unusedVariables false

theorem okL_n {v : VS} {l : List Arr} (h : okL v l) (hk : v.k = 3 ∨ v.k = 5) : 1 ≤ v.n ∧ v.n ≤ 1099511627776 := by
  unfold okL errV at h
  split at h
  · rename_i ho
    unfold okView at ho
    rw [if_neg (by omega), if_neg (by omega), if_pos hk] at ho
    simp only [Bool.and_eq_true, decide_eq_true_eq] at ho
    exact ho.1
  · exact absurd h (by decide)
noncomputable instance (v : VS) (l : List Arr) : Decidable (okL v l) := inferInstanceAs (Decidable (_ = _))
/-- The batch in which an arrival came. -/
def bOf (l : List Arr) (n : Int) (a : Arr) : Int := (a.time - t0 l) / n
noncomputable def heldR (v : VS) (l : List Arr) (now : Int) : List Arr :=
  if 0 < l.length ∧ okL v l then (if v.k = 3 then l.filter (timeP v now) else l.filter (batchP v (bNo l now v.n) (t0 l + (bNo l now v.n - 1) * v.n))) else []
theorem acells_arrs {b : Nat} {τ : AHeap} {s : AV} {l m : List Arr} {σ : AHeap} (h : OutSl b τ 3 s (acells l) l.length) (hm : m.length ≤ 200) (hl : l.length ≤ m.length) (hmem : ∀ a ∈ l, a ∈ m) (hr : RowsOk τ m) : Arrs τ s l :=
  acells_outsl h (by unfold maxElems; omega) (fun a ha => hr a (hmem a ha))
theorem near_sub {a b : Int} (h1 : 0 ≤ a) (h2 : a ≤ 1099511627776) (h3 : 0 ≤ b) (h4 : b ≤ 1099511627776) : near (a - b) := ⟨by omega, by omega⟩
theorem near_add {a b : Int} (h1 : 0 ≤ a) (h2 : a ≤ 1099511627776) (h3 : 0 ≤ b) (h4 : b ≤ 1099511627776) : near (a + b) := ⟨by omega, by omega⟩
theorem ok3_fuel {n f : Nat} (h : n ≤ 200) : n + 20 ≤ 220 := by omega

theorem run26b (σ : AHeap) (s : AV) (l : List Arr) (v : VS) (now : Int) (h : Arrs σ s l) (hv : v.ok σ) (ht : TimesOk l now) (hn0 : 0 ≤ now) (hk : v.k = 3 ∨ v.k = 5) (f : Nat) (hf : 300 ≤ f) :
    OptP (evCall D9 f 26 [.agg v.cells, s, .one (.int .i64 now)] σ) (fun _ r τ => Arrs τ r (heldR v l now) ∧ Keeps σ τ) := by
  have hlen := ht.len
  rcases hk with hk | hk
  · refine run26 σ s l v now h hv 43 220 (heldR v l now) ?_ ?_ ?_ ?_ f (by omega)
    · intro _ _ τ f hf; rw [hk]; exact how3 τ f hf
    · intro h0 hok τ hkp f hf
      obtain ⟨b1, b2⟩ := okL_n hok (.inl hk)
      have e : heldR v l now = l.filter (timeP v now) := by unfold heldR; rw [if_pos ⟨h0, hok⟩, if_pos hk]
      rw [e]
      refine (run43 τ s l v now (h.keeps hkp) (near_sub hn0 ht.up (by omega) b2) f (by omega)).mono ?_
      rintro r τ' ⟨h1, h2⟩
      exact ⟨acells_arrs (σ := σ) h1 hlen (List.length_filter_le _ _) (fun a ha => (List.mem_filter.1 ha).1) (h.keeps (hkp.trans h2)).2, h2⟩
    · intro h0; unfold heldR; rw [if_neg (by omega)]
    · intro h0; unfold heldR; rw [if_neg (fun e => h0 e.2)]
  · refine run26 σ s l v now h hv 45 220 (heldR v l now) ?_ ?_ ?_ ?_ f (by omega)
    · intro _ _ τ f hf; rw [hk]; exact how5 τ f hf
    · intro h0 hok τ hkp f hf
      obtain ⟨b1, b2⟩ := okL_n hok (.inr hk)
      have e : heldR v l now = l.filter (batchP v (bNo l now v.n) (t0 l + (bNo l now v.n - 1) * v.n)) := by unfold heldR; rw [if_pos ⟨h0, hok⟩, if_neg (by omega)]
      rw [e]
      refine (run45 τ s l v now (h.keeps hkp) ht h0 b1 b2 f (by omega)).mono ?_
      rintro r τ' ⟨h1, h2⟩
      exact ⟨acells_arrs (σ := σ) h1 hlen (List.length_filter_le _ _) (fun a ha => (List.mem_filter.1 ha).1) (h.keeps (hkp.trans h2)).2, h2⟩
    · intro h0; unfold heldR; rw [if_neg (by omega)]
    · intro h0; unfold heldR; rw [if_neg (fun e => h0 e.2)]

/-- A time, if there is one. -/
def optT (o : Option Int) : AV := match o with
  | some t => .tup [.one (.int .i64 t), .one (.bool true)]
  | none => .tup [.one (.int .i64 0), .one (.bool false)]
noncomputable def batchO (v : VS) (l : List Arr) (now : Int) : Option Int :=
  if 0 < (heldR v l now).length ∨ (l.any fun a => decide (bOf l v.n a = bNo l now v.n)) = true then some (t0 l + (bNo l now v.n + 1) * v.n) else none

theorem bOf_le {l : List Arr} {now n : Int} {a : Arr} (h : a.time ≤ now) (hn : 1 ≤ n) : bOf l n a ≤ bNo l now n := by
  unfold bOf bNo
  exact Int.ediv_le_ediv (by omega) (by omega)
theorem TimesOk.first {l : List Arr} {now : Int} (h : TimesOk l now) {a : Arr} (ha : a ∈ l) : t0 l ≤ a.time := by
  cases l with
  | nil => cases ha
  | cons x l =>
    rcases List.mem_cons.1 ha with rfl | h1
    · exact Int.le_refl _
    · exact (List.pairwise_cons.1 h.mono).1 a h1
theorem b_near {l : List Arr} {now n : Int} {a : Arr} (h : TimesOk l now) (ha : a ∈ l) (hn : 1 ≤ n) : (a.time - t0 l).tdiv n = bOf l n a ∧ 0 ≤ bOf l n a ∧ bOf l n a ≤ 1099511627776 := by
  have h1 := h.first ha
  have h2 := h.hi a ha
  have h3 := h.up
  have h0 := h.lo _ (rAt_mem (show 0 < l.length from List.length_pos_of_mem ha))
  have h0' : 0 ≤ t0 l := h0
  unfold bOf
  refine ⟨Int.tdiv_eq_ediv_of_nonneg (by omega), Int.ediv_nonneg (by omega) (by omega), ?_⟩
  have := Int.ediv_le_self n (show 0 ≤ a.time - t0 l by omega)
  omega
def I36 (σ : AHeap) (s : AV) (l : List Arr) (now n t b : Int) (cells : List SV) (k : Nat) (fr : List AV) (τ : AHeap) : Prop :=
  ∃ i, k = l.length - i ∧ i ≤ l.length ∧ fr.length = 60 ∧ getSlot fr 3 = .one (.ptr σ.size 0) ∧ getSlot fr 8 = .one (.int .i64 t) ∧ getSlot fr 9 = .one (.int .i64 b) ∧ getSlot fr 36 = s ∧ getSlot fr 37 = .one (.int .i64 (l.length : Int)) ∧ getSlot fr 38 = .one (.int .i64 (i : Int)) ∧
    Keeps σ τ ∧ τ.get σ.size = some ⟨cells, .own⟩ ∧ ∀ j, j < i → bOf l n (rAt l j) ≠ b
theorem any_false {α : Type} {l : List α} {p : α → Bool} (h : ∀ i (hi : i < l.length), p l[i] = false) : l.any p = false := by
  rw [List.any_eq_false]
  intro a ha
  obtain ⟨j, hj, rfl⟩ := List.mem_iff_getElem.1 ha
  simp [h j hj]
theorem ends_tok {t : Tok} {call : CallF} {m : Nat} {c : ACode} {fr : List AV} {σ : AHeap} {N : KN} {E : KE} {R : KN} : EndsC t call m c fr σ N E R = EndsC .go call m c fr σ N E R := rfl
theorem lt_fuel {n f : Nat} (h : n ≤ 200) (h2 : 600 ≤ f + 1) : n < f := by omega
theorem run36 (σ : AHeap) (s : AV) (l : List Arr) (v : VS) (now : Int) (h : Arrs σ s l) (hv : v.ok σ) (ht : TimesOk l now) (h0 : 0 < l.length) (hok : okL v l) (hk : v.k = 5) (f : Nat) (hf : 600 ≤ f) :
    OptP (evCall D9 f 36 [.agg v.cells, s, .one (.int .i64 now)] σ) (fun _ r τ => r = optT (batchO v l now) ∧ Keeps σ τ) := by
  obtain ⟨f, rfl⟩ : ∃ k, f = k + 1 := ⟨f - 1, by omega⟩
  refine evCall_code (D9_prim 36) ((D9_code 36).trans code36) ?_
  obtain ⟨b1, b2⟩ := okL_n hok (.inr hk)
  have hlen := ht.len
  obtain ⟨g0, g1, g2⟩ := ht.zero h0
  obtain ⟨e1, e2, e3, e4, e5⟩ := bNo_near (n := v.n) g0 g1 g2 b1 b2
  have eT : t0 l = (rAt l 0).time := rfl
  have hbO : batchO v l now = batchO v l now := rfl
  conv at hbO => rhs; unfold batchO
  obtain ⟨b, hb⟩ : ∃ b, b = bNo l now v.n := ⟨_, rfl⟩
  rw [← hb] at e1 e2 e3 e4 e5 hbO
  obtain ⟨t, hT⟩ : ∃ t, t = t0 l := ⟨_, rfl⟩
  rw [← hT] at g0 g1 e1 e3 e4 eT hbO
  have em := mul_succ' b v.n
  obtain ⟨m, hm⟩ : ∃ m, m = (b + 1) * v.n := ⟨_, rfl⟩
  have w1 : wr .i64 (now - t) = now - t := wr_near ⟨by omega, by omega⟩
  have w2 : wr .i64 ((now - t).tdiv v.n) = b := by rw [e1]; exact wr_near ⟨by omega, by omega⟩
  have w3 : wr .i64 (b + 1) = b + 1 := wr_near ⟨by omega, by omega⟩
  have w4 : wr .i64 ((b + 1) * v.n) = m := by rw [← hm]; exact wr_near ⟨by omega, by omega⟩
  have w5 : wr .i64 (t + m) = t + m := wr_near ⟨by omega, by omega⟩
  rw [← hm] at hbO
  obtain ⟨τ, hτ⟩ : ∃ τ, τ = σ.alloc ⟨[.int .i64 v.k, .int .i64 v.n, v.s, .bool v.d], .own⟩ := ⟨_, rfl⟩
  have hkp : Keeps σ τ := by rw [hτ]; exact (Keeps.refl σ).alloc
  have q1 : τ.get σ.size = some ⟨[.int .i64 v.k, .int .i64 v.n, v.s, .bool v.d], .own⟩ := by rw [hτ]; simp
  have hh := run26b τ s l v now (h.keeps hkp) (hv.keeps hkp) ht (by omega) (.inr hk) f (by omega)
  unfold VS.cells at hh ⊢
  have hnz : ¬ v.n = 0 := by omega
  rcases h.rd with ⟨_, rfl⟩ | ⟨id, off, cap, rfl, hmx, hrd⟩
  · simp at h0
  obtain ⟨_, _, p2, _⟩ := hrd 0 h0
  rw [← eT, ← hkp.2 id (rd_lt p2)] at p2
  simp only [Nat.zero_mul, Nat.add_zero] at p2
  have h0' : (0 : Int) < (l.length : Int) := by omega
  simp (maxDischargeDepth := 99) [c36, ← hτ, p2, q1, h0, h0', hnz, w1, w2]
  refine hh.mono ?_
  rintro r τ2 ⟨hA, k2⟩
  have kk := hkp.trans k2
  have q2 : τ2.get σ.size = some ⟨[.int .i64 v.k, .int .i64 v.n, v.s, .bool v.d], .own⟩ := by rw [k2.2 _ (AHeap.get_lt q1), q1]
  by_cases hh0 : 0 < (heldR v l now).length
  · rw [if_pos (.inl hh0)] at hbO
    rw [hbO]
    rcases hA.rd with ⟨_, e⟩ | ⟨id2, off2, cap2, rfl, _, _⟩
    · rw [e] at hh0; simp at hh0
    generalize (heldR v l now).length = z at hh0
    have hz : (0 : Int) < (z : Int) := by omega
    simp (maxDischargeDepth := 99) [q2, hz, hh0, w3, w4, w5, optT, kk]
  · have hz : (heldR v l now).length = 0 := by omega
    have hlast : EndsC .go (evCall D9 f) f (ACode.block 0 (ACode.loop c36_0)) [] τ2 (fun _ _ _ => True) (fun _ _ _ _ => True) (fun _ _ _ => True) → True := fun _ => trivial
    have hloop : ∀ fr, fr.length = 60 → getSlot fr 3 = .one (.ptr σ.size 0) → getSlot fr 8 = .one (.int .i64 t) → getSlot fr 9 = .one (.int .i64 b) → getSlot fr 36 = .one (.slice id off 3 l.length cap) → getSlot fr 37 = .one (.int .i64 (l.length : Int)) → getSlot fr 38 = .one (.int .i64 0) →
        EndsC .go (evCall D9 f) f (ACode.loop c36_0) fr τ2 (fun _ _ _ => False) (fun j _ fr τ3 => j = 0 ∧ fr.length = 60 ∧ Keeps σ τ3 ∧ batchO v l now = none)
          (fun _ fr τ3 => fr.length = 60 ∧ Keeps σ τ3 ∧ batchO v l now = some (t + m) ∧ getSlot fr 6 = .one (.int .i64 (t + m)) ∧ getSlot fr 7 = .one (.bool true)) := by
      intro fr a1 a2 a3 a4 a5 a6 a7
      refine ends_loop (I := I36 σ (.one (.slice id off 3 l.length cap)) l now v.n t b [.int .i64 v.k, .int .i64 v.n, v.s, .bool v.d]) ?_ (k := l.length) ⟨0, rfl, Nat.zero_le _, a1, a2, a3, a4, a5, a6, a7, kk, q2, fun j hj => absurd hj (Nat.not_lt_zero _)⟩ (lt_fuel hlen hf)
      rintro k fr τ3 ⟨i, rfl, hi, f0, f3, f8, f9, f36, f37, f38, k3, q3, hall⟩
      by_cases hlt : i < l.length
      · obtain ⟨p0, _, _, _⟩ := hrd i hlt
        rw [← k3.2 id (rd_lt p0)] at p0
        have hw := wr_next hlt hmx
        have hlt' : (i : Int) < (l.length : Int) := Int.ofNat_lt.2 hlt
        have hmem := rAt_mem hlt
        obtain ⟨d1, d2, d3⟩ := b_near (n := v.n) ht hmem b1
        have d4 := bOf_le (l := l) (n := v.n) (ht.hi _ hmem) b1
        have d5 := ht.first hmem
        have d6 := ht.hi _ hmem
        have hnext := y2 (P := fun j => bOf l v.n (rAt l j) ≠ b) hall
        have hany : bOf l v.n (rAt l i) = b → (l.any fun a => decide (bOf l v.n a = b)) = true := fun e => by
          rw [List.any_eq_true]; exact ⟨_, hmem, by simpa using e⟩
        rw [← hT] at d1 d5
        rw [← hb] at d4
        obtain ⟨β, hβ⟩ : ∃ β, β = bOf l v.n (rAt l i) := ⟨_, rfl⟩
        rw [← hβ] at d1 d2 d3 d4 hnext hany
        clear hβ
        generalize rAt l i = a at p0 d1 d5 d6
        simp only [Arr.av, Arr.cells] at p0
        have v1 : wr .i64 (a.time - t) = a.time - t := wr_near ⟨by omega, by omega⟩
        have v2 : wr .i64 ((a.time - t).tdiv v.n) = β := by rw [d1]; exact wr_near ⟨by omega, by omega⟩
        have v3 : wr .i64 (β + 1) = β + 1 := wr_near ⟨by omega, by omega⟩
        obtain ⟨τ4, hτ4⟩ : ∃ τ4, τ4 = (τ3.alloc ⟨[.int .i64 0, .int .i64 0, .nilSlice], .own⟩).put τ3.size ⟨[.int .i64 a.seq, .int .i64 a.time, a.row], .own⟩ := ⟨_, rfl⟩
        have k4 : Keeps τ3 τ4 := by rw [hτ4]; exact (Keeps.alloc (Keeps.refl _)).put (Nat.le_refl _)
        have hb4 : τ4.get τ3.size = some ⟨[.int .i64 a.seq, .int .i64 a.time, a.row], .own⟩ := by rw [hτ4, AHeap.get_put', if_pos ⟨rfl, by rw [AHeap.size_alloc]; omega⟩]
        have hwz : writeAt (τ3.alloc ⟨[.int .i64 0, .int .i64 0, .nilSlice], .own⟩) τ3.size 0 [.int .i64 a.seq, .int .i64 a.time, a.row] = some τ4 := by
          rw [hτ4]
          simp [writeAt, splice]
        have q4 : τ4.get σ.size = some ⟨[.int .i64 v.k, .int .i64 v.n, v.s, .bool v.d], .own⟩ := by rw [k4.2 _ (AHeap.get_lt q3), q3]
        by_cases hβ : β = b
        · subst hβ
          rw [if_pos (.inr (hany rfl))] at hbO
          have hgt : β < β + 1 := by omega
          simp (maxDischargeDepth := 99) [c36_0, f0, f3, f8, f9, f36, f37, f38, hlt, hlt', p0, hwz, hb4, q4, -writeAt, hnz, v1, v2, v3, w4, w5, hgt, k3.trans k4, hbO]
        · have hng : ¬ b < β + 1 := by omega
          simp (maxDischargeDepth := 99) [c36_0, f0, f3, f8, f9, f36, f37, f38, hlt, hlt', p0, hwz, hb4, q4, -writeAt, hnz, v1, v2, v3, hng, hw]
          exact ⟨l.length - (i + 1), y1 hlt, i + 1, rfl, hlt, by simp [f0], by simp [f0, f3], by simp [f0, f8], by simp [f0, f9], by simp [f0, f36], by simp [f0, f37], by simp [f0], k3.trans k4, q4, hnext hβ⟩
      · obtain rfl : i = l.length := by omega
        have hnone : batchO v l now = none := by
          rw [hbO, if_neg]
          rintro (h | h)
          · exact hh0 h
          · rw [any_false] at h
            · cases h
            · intro j hj
              have := hall j hj
              simpa [rAt, List.getD, hj] using this
        simp (maxDischargeDepth := 99) [c36_0, f0, f37, f38, k3, hnone]
    have hs : lenA r 3 0 := by
      rcases hA.rd with ⟨h, _⟩ | ⟨id, off, cap, h, _⟩
      · exact .inl ⟨h, rfl⟩
      · rw [hz] at h; exact .inr ⟨_, _, _, h⟩
    rcases hs with ⟨rfl, _⟩ | ⟨id2, off2, cap2, rfl⟩
    all_goals
      simp (maxDischargeDepth := 99)
      refine (hloop _ (by simp) (by simp) (by simp) (by simp) (by simp) (by simp) (by simp)).mono ?_ ?_ ?_
      · intro _ _ _ h; exact h.elim
      · rintro j tk fr τ3 ⟨rfl, a1, a2, a3⟩
        refine ⟨rfl, ?_⟩
        rw [ends_tok, a3]
        simp (maxDischargeDepth := 99) [a1, a2, optT]
      · rintro tk fr τ3 ⟨a1, a2, a3, a4, a5⟩
        rw [a3]
        simp (maxDischargeDepth := 99) [a1, a2, a4, a5, optT]
end Go.Proofs.Ythjijjkoeoemgaa.Ab
