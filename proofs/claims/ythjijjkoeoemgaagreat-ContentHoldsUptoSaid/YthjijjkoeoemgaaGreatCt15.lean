/- The document's views by time: what they hold, and the search for the next time. -/
import Derived.Test.YthjijjkoeoemgaaGreatCt14
import Derived.Test.YthjijjkoeoemgaaGreatLitB
namespace Go.Proofs.YthjijjkoeoemgaaGreat.Ab
open Go
set_option maxRecDepth 20000
set_option maxHeartbeats 4000000
set_option linter.unusedSimpArgs false
set_option linter.unusedVariables false

theorem run_least (best t now : Int) (σ : AHeap) (f : Nat) (hf : 5 ≤ f) : OptP (evCall D9 f 27 [.one (.int .i64 best), .one (.int .i64 t), .one (.int .i64 now)] σ) (fun _ r τ => r = .one (.int .i64 (leastI best t now)) ∧ τ = σ) := by
  obtain ⟨f, rfl⟩ : ∃ k, f = k + 1 := ⟨f - 1, by omega⟩
  refine evCall_code (D9_prim 27) ((D9_code 27).trans coder27) ?_
  unfold leastI
  by_cases h1 : now < t
  · by_cases h2 : best < 0
    · simp (maxDischargeDepth := 99) [cr27, h1, h2]
    · by_cases h3 : t < best
      · simp (maxDischargeDepth := 99) [cr27, h1, h2, h3]
      · simp (maxDischargeDepth := 99) [cr27, h1, h2, h3]
  · simp (maxDischargeDepth := 99) [cr27, h1]

/-! ### same -/
theorem sameQ_ne {l1 l2 : List Arr} {i : Nat} (h1 : i < l1.length) (h2 : i < l2.length) (h : (rAt l1 i).seq ≠ (rAt l2 i).seq) : sameQ l1 l2 = false := by
  unfold sameQ
  simp only [decide_eq_false_iff_not]
  intro e
  have : (l1.map Arr.seq)[i]? = (l2.map Arr.seq)[i]? := by rw [e]
  simp only [List.getElem?_map, List.getElem?_eq_getElem h1, List.getElem?_eq_getElem h2, Option.map_some, Option.some.injEq] at this
  apply h
  simpa [rAt, List.getD, h1, h2] using this
theorem sameQ_eq {l1 l2 : List Arr} (hl : l1.length = l2.length) (h : ∀ i, i < l1.length → (rAt l1 i).seq = (rAt l2 i).seq) : sameQ l1 l2 = true := by
  unfold sameQ
  rw [decide_eq_true_iff]
  apply List.ext_getElem (by simpa using hl)
  intro i h1 h2
  have h1' : i < l1.length := by simpa using h1
  have h2' : i < l2.length := by simpa using h2
  have := h i h1'
  simpa [rAt, List.getD, h1', h2'] using this
theorem sameQ_len {l1 l2 : List Arr} (hl : l1.length ≠ l2.length) : sameQ l1 l2 = false := by
  unfold sameQ
  simp only [decide_eq_false_iff_not]
  intro e
  apply hl
  have := congrArg List.length e
  simpa using this
theorem run_same (σ : AHeap) (s1 s2 : AV) (l1 l2 : List Arr) (h1 : Arrs σ s1 l1) (h2 : Arrs σ s2 l2) (f : Nat) (hf : l1.length + 12 ≤ f) :
    OptP (evCall D9 f 42 [s1, s2] σ) (fun _ v τ => v = .one (.bool (sameQ l1 l2)) ∧ τ = σ) := by
  obtain ⟨f, rfl⟩ : ∃ k, f = k + 1 := ⟨f - 1, by omega⟩
  refine evCall_code (D9_prim 42) ((D9_code 42).trans coder42) ?_
  by_cases hlen : l1.length = l2.length
  · rcases h1.rd with ⟨rfl, rfl⟩ | ⟨i1, o1, c1, rfl, m1, r1⟩
    · have hl2 : l2 = [] := List.length_eq_zero_iff.1 hlen.symm
      subst hl2
      have hB : sameQ [] [] = true := rfl
      have hs2 : s2 = .one .nilSlice ∨ ∃ id off cap, s2 = .one (.slice id off 3 0 cap) := by
        rcases h2.rd with ⟨h, _⟩ | ⟨id, off, cap, h, _⟩
        · exact .inl h
        · exact .inr ⟨id, off, cap, h⟩
      rcases hs2 with rfl | ⟨i2, o2, c2, rfl⟩
      all_goals
        simp (maxDischargeDepth := 99) [cr42]
        refine ends_loop (I := fun k fr τ => k = 0 ∧ τ = σ ∧ fr.length = 28 ∧ getSlot fr 0 = .one .nilSlice ∧ getSlot fr 5 = .one (.int .i64 0)) ?_ (k := 0) ?_ (by omega)
        · rintro k fr τ ⟨rfl, rfl, hfl, f0, f5⟩
          simp (maxDischargeDepth := 99) [cr42_0, hfl, f0, f5, hB]
        · simp
    · rcases h2.rd with ⟨rfl, rfl⟩ | ⟨i2, o2, c2, rfl, m2, r2⟩
      · have hl1 : l1 = [] := List.length_eq_zero_iff.1 hlen
        subst hl1
        have hB : sameQ [] [] = true := rfl
        simp (maxDischargeDepth := 99) [cr42]
        refine ends_loop (I := fun k fr τ => k = 0 ∧ τ = σ ∧ fr.length = 28 ∧ getSlot fr 0 = .one (.slice i1 o1 3 0 c1) ∧ getSlot fr 5 = .one (.int .i64 0)) ?_ (k := 0) ?_ (by omega)
        · rintro k fr τ ⟨rfl, rfl, hfl, f0, f5⟩
          simp (maxDischargeDepth := 99) [cr42_0, hfl, f0, f5, hB]
        · simp
      · rw [← hlen]
        simp (maxDischargeDepth := 99) [cr42]
        refine ends_loop (I := fun k fr τ => ∃ i, k = l1.length - i ∧ i ≤ l1.length ∧ τ = σ ∧ fr.length = 28 ∧ getSlot fr 0 = .one (.slice i1 o1 3 l1.length c1) ∧ getSlot fr 1 = .one (.slice i2 o2 3 l1.length c2) ∧
            getSlot fr 5 = .one (.int .i64 i) ∧ ∀ j, j < i → (rAt l1 j).seq = (rAt l2 j).seq) ?_ (k := l1.length) ?_ (by omega)
        · rintro k fr τ ⟨i, rfl, hi, rfl, hfl, f0, f1, f5, hall⟩
          by_cases hlt : i < l1.length
          · have hlt2 : i < l2.length := by omega
            obtain ⟨_, p1, _, _⟩ := r1 i hlt
            obtain ⟨_, q1, _, _⟩ := r2 i hlt2
            have hw := wr_next hlt m1
            have hne := sameQ_ne hlt hlt2
            have hnext := y2 (P := fun j => (rAt l1 j).seq = (rAt l2 j).seq) hall
            generalize (rAt l1 i).seq = x at p1 hne hnext
            generalize (rAt l2 i).seq = y at q1 hne hnext
            by_cases ha : x = y
            · simp (maxDischargeDepth := 99) [cr42_0, hfl, f0, f1, f5, hlt, p1, q1, ha, hw]
              exact ⟨l1.length - (i + 1), y1 hlt, i + 1, rfl, hlt, by simp, hnext ha⟩
            · have hn := hne ha
              simp (maxDischargeDepth := 99) [cr42_0, hfl, f0, f1, f5, hlt, p1, q1, ha, hn]
          · have hB := sameQ_eq hlen (fun j hj => hall j (by omega))
            simp (maxDischargeDepth := 99) [cr42_0, hfl, f0, f1, f5, hlt, hB]
        · exact ⟨0, rfl, Nat.zero_le _, rfl, by simp, by simp, by simp, by simp, fun j hj => absurd hj (Nat.not_lt_zero _)⟩
  · have hB := sameQ_len hlen
    rcases h1.rd with ⟨rfl, rfl⟩ | ⟨i1, o1, c1, rfl, m1, r1⟩ <;> rcases h2.rd with ⟨rfl, rfl⟩ | ⟨i2, o2, c2, rfl, m2, r2⟩
    · simp at hlen
    · have hl2 : ¬ (0 : Int) = (l2.length : Int) := by simp only [List.length_nil] at hlen; omega
      have hl3 : ¬ l2 = [] := by intro e; subst e; exact hlen rfl
      simp (maxDischargeDepth := 99) [cr42, hB, hl2, hl3]
    · have hl2 : ¬ (l1.length : Int) = 0 := by simp only [List.length_nil] at hlen; omega
      have hl3 : ¬ l1 = [] := by intro e; subst e; exact hlen rfl
      simp (maxDischargeDepth := 99) [cr42, hB, hl2, hl3]
    · have hl2 : ¬ (l1.length : Int) = (l2.length : Int) := by omega
      simp (maxDischargeDepth := 99) [cr42, hlen, hB, hl2]

/-! ### holds, of the views by time -/
theorem rholds3 (σ : AHeap) (s : AV) (l : List Arr) (v : VS) (now : Int) (i : Nat) (h : Arrs σ s l) (hi : i < l.length) (hk : v.k = 3) (hn : near (now - v.n)) (f : Nat) (hf : 5 ≤ f) :
    OptP (evCall D9 f 21 [.agg v.cells, s, .one (.int .i64 (i : Int)), .one (.int .i64 now)] σ) (fun _ r τ => r = .one (.bool (timeP v now (rAt l i))) ∧ Keeps σ τ) := by
  obtain ⟨f, rfl⟩ : ∃ k, f = k + 1 := ⟨f - 1, by omega⟩
  refine evCall_code (D9_prim 21) ((D9_code 21).trans coder21) ?_
  rcases h.rd with ⟨_, rfl⟩ | ⟨id, off, cap, rfl, hm, hr⟩
  · simp at hi
  obtain ⟨_, _, p2, _⟩ := hr i hi
  have hid := rd_lt p2
  have hne : ¬ id = σ.size := by omega
  have hw := wr_near hn
  simp (maxDischargeDepth := 99) [cr21, VS.cells, hk, hi, p2, hne, hw, timeP]
theorem rholds5 (σ : AHeap) (s : AV) (l : List Arr) (v : VS) (now : Int) (i : Nat) (h : Arrs σ s l) (hi : i < l.length) (hk : v.k = 5) (z0 : 0 ≤ t0 l) (z1 : t0 l ≤ now) (z2 : now ≤ 3400000000000) (n1 : 1 ≤ v.n) (n2 : v.n ≤ 1099511627776) (f : Nat) (hf : 5 ≤ f) :
    OptP (evCall D9 f 21 [.agg v.cells, s, .one (.int .i64 (i : Int)), .one (.int .i64 now)] σ) (fun _ r τ => r = .one (.bool (batchP v (bNo l now v.n) (t0 l + (bNo l now v.n - 1) * v.n) (rAt l i))) ∧ Keeps σ τ) := by
  obtain ⟨f, rfl⟩ : ∃ k, f = k + 1 := ⟨f - 1, by omega⟩
  refine evCall_code (D9_prim 21) ((D9_code 21).trans coder21) ?_
  have e1 : (now - t0 l).tdiv v.n = bNo l now v.n := Int.tdiv_eq_ediv_of_nonneg (by omega)
  have e0 := Int.emod_add_mul_ediv (now - t0 l) v.n
  have e6 := Int.emod_nonneg (now - t0 l) (b := v.n) (by omega)
  have e7 := Int.emod_lt_of_pos (now - t0 l) (b := v.n) (by omega)
  have e2 : 0 ≤ bNo l now v.n := Int.ediv_nonneg (by omega) (by omega)
  have e5 : bNo l now v.n ≤ now - t0 l := Int.ediv_le_self _ (by omega)
  rw [show (now - t0 l) / v.n = bNo l now v.n from rfl, Int.mul_comm] at e0
  have eT : t0 l = (rAt l 0).time := rfl
  obtain ⟨b, hb⟩ : ∃ b, b = bNo l now v.n := ⟨_, rfl⟩
  rw [← hb] at e0 e1 e2 e5 ⊢
  obtain ⟨t, hT⟩ : ∃ t, t = t0 l := ⟨_, rfl⟩
  rw [← hT] at e0 e1 e5 e6 e7 eT z0 z1 ⊢
  have em := mul_pred b v.n
  obtain ⟨m, hm⟩ : ∃ m, m = (b - 1) * v.n := ⟨_, rfl⟩
  obtain ⟨fr, hfr⟩ : ∃ fr, fr = t + (b - 1) * v.n := ⟨_, rfl⟩
  rw [← hfr]
  have w1 : wr .i64 (now - t) = now - t := wr_near ⟨by omega, by omega⟩
  have w2 : wr .i64 ((now - t).tdiv v.n) = b := by rw [e1]; exact wr_near ⟨by omega, by omega⟩
  have w3 : wr .i64 (b - 1) = b - 1 := wr_near ⟨by omega, by omega⟩
  have w4 : wr .i64 ((b - 1) * v.n) = m := by rw [← hm]; exact wr_near ⟨by omega, by omega⟩
  have w5 : wr .i64 (t + m) = fr := by rw [hfr, ← hm]; exact wr_near ⟨by omega, by omega⟩
  have w6 : wr .i64 (fr + v.n) = fr + v.n := wr_near ⟨by omega, by omega⟩
  have h0 : 0 < l.length := by omega
  rcases h.rd with ⟨_, rfl⟩ | ⟨id, off, cap, rfl, hm, hr⟩
  · simp at hi
  obtain ⟨_, _, p2, _⟩ := hr i hi
  obtain ⟨_, _, p0, _⟩ := hr 0 h0
  rw [← eT] at p0
  simp only [Nat.zero_mul, Nat.add_zero] at p0
  have hid := rd_lt p2
  have hne : ¬ id = σ.size := by omega
  have hnz : ¬ v.n = 0 := by omega
  generalize (rAt l i) = a at p2 ⊢
  unfold batchP
  by_cases c1 : 0 < b
  · by_cases c2 : fr ≤ a.time
    · simp (maxDischargeDepth := 99) [cr21, VS.cells, hk, hi, h0, p2, p0, hne, hnz, w1, w2, w3, w4, w5, w6, c1, c2]
    · simp (maxDischargeDepth := 99) [cr21, VS.cells, hk, hi, h0, p2, p0, hne, hnz, w1, w2, w3, w4, w5, w6, c1, c2]
  · simp (maxDischargeDepth := 99) [cr21, VS.cells, hk, hi, h0, p2, p0, hne, hnz, w1, w2, w3, w4, w5, w6, c1]

/-! ### One -/
def I11 (σ : AHeap) (s : AV) (l : List Arr) (v : VS) (now : Int) (pr : Nat → Arr → Bool) (k : Nat) (fr : List AV) (τ : AHeap) : Prop :=
  ∃ i, k = l.length - i ∧ i ≤ l.length ∧ fr.length = 41 ∧ getSlot fr 1 = s ∧ getSlot fr 2 = .one (.int .i64 now) ∧ getSlot fr 3 = .one (.ptr σ.size 0) ∧ getSlot fr 8 = .one (.int .i64 (i : Int)) ∧
    OutSl (σ.size + 1) τ 3 (getSlot fr 7) (acells (fIdx pr 0 (l.take i))) (fIdx pr 0 (l.take i)).length ∧ Keeps σ τ ∧ τ.get σ.size = some ⟨v.cells, .own⟩
def O11 (σ : AHeap) (m : List Arr) (fr : List AV) (τ : AHeap) : Prop :=
  fr.length = 41 ∧ OutSl σ.size τ 3 (getSlot fr 7) (acells m) m.length ∧ Keeps σ τ
theorem rOne (σ : AHeap) (s : AV) (l : List Arr) (v : VS) (now : Int) (h : Arrs σ s l) (hv : v.ok σ) (K : Nat) (pr : Nat → Arr → Bool) (R : List Arr)
    (hrun : 0 < l.length → okL v l → ∀ τ, Keeps σ τ → ∀ i, i < l.length → ∀ f, K ≤ f → OptP (evCall D9 f 21 [.agg v.cells, s, .one (.int .i64 (i : Int)), .one (.int .i64 now)] τ) (fun _ r τ' => r = .one (.bool (pr i (rAt l i))) ∧ Keeps τ τ'))
    (h0 : l.length = 0 → R = []) (h1 : ¬ okL v l → R = []) (h2 : 0 < l.length → okL v l → R = fIdx pr 0 l) (hm200 : l.length ≤ 200) (f : Nat) (hf : K + 300 ≤ f) :
    OptP (evCall D9 f 11 [.agg v.cells, s, .one (.int .i64 now)] σ) (fun _ r τ => Arrs τ r R ∧ Keeps σ τ) := by
  obtain ⟨f, rfl⟩ : ∃ k, f = k + 1 := ⟨f - 1, by omega⟩
  refine evCall_code (D9_prim 11) ((D9_code 11).trans coder11) ?_
  have hnil : ∀ τ, Arrs τ (.one .nilSlice) [] := fun τ => ⟨.inl ⟨rfl, rfl⟩, fun a ha => by cases ha⟩
  obtain ⟨τ, hτ⟩ : ∃ τ, τ = σ.alloc ⟨[.int .i64 v.k, .int .i64 v.n, v.s, .bool v.d], .own⟩ := ⟨_, rfl⟩
  have hk : Keeps σ τ := by rw [hτ]; exact (Keeps.refl _).alloc
  have hb : τ.get σ.size = some ⟨[.int .i64 v.k, .int .i64 v.n, v.s, .bool v.d], .own⟩ := by rw [hτ]; simp
  by_cases hl : l.length = 0
  · have hR := h0 hl
    have el : l = [] := List.length_eq_zero_iff.1 hl
    subst el
    subst hR
    rcases h.rd with ⟨rfl, _⟩ | ⟨id, off, cap, rfl, _⟩
    · simp (maxDischargeDepth := 99) [cr11, VS.cells, hnil]
    · simp (maxDischargeDepth := 99) [cr11, VS.cells, hnil]
  · have hpos : 0 < l.length := by omega
    rcases h.rd with ⟨_, e⟩ | ⟨id, off, cap, rfl, hm, hrd⟩
    · exact absurd (by rw [e]; rfl) hl
    obtain ⟨_, _, _, p3⟩ := hrd 0 hpos
    simp only [Nat.zero_mul, Nat.add_zero] at p3
    rw [← hk.2 id (rd_lt p3)] at p3
    have hl' : ¬ (l.length : Int) = 0 := by omega
    have hl'' : ¬ l = [] := by intro e; rw [e] at hl; exact hl rfl
    have hrow := row_len (h.2 _ (rAt_mem hpos))
    have hpc := pCheck_eq (hv.keeps hk) (wid l)
    unfold wid at hpc
    obtain ⟨f, rfl⟩ : ∃ k, f = k + 1 := ⟨f - 1, by omega⟩
    by_cases hok : okL v l
    · have hR := hrun hpos hok
      have hE := h2 hpos hok
      subst hE
      unfold okL wid at hok
      rw [hok] at hpc
      generalize (rAt l 0).vals.length = w at hrow hpc
      rcases hrow with ⟨e1, rfl⟩ | ⟨ri, ro, rc, e1⟩
      all_goals
        rw [e1] at p3
        try simp only [Int.natCast_zero] at hpc
        simp (maxDischargeDepth := 99) [cr11, VS.cells, hl', hl'', p3, hpos, D9_8, ← hτ, hpc, hb]
        refine ends_to 0 (O11 σ (fIdx pr 0 l)) ?_ ?_
        · refine ends_loop (I := I11 σ (.one (.slice id off 3 l.length cap)) l v now pr) ?_ (k := l.length) ?_ (by omega)
          · rintro k fr τ1 ⟨i, rfl, hi, hlen, f1, f2, f3, f8, hO, hk1, hb1⟩
            by_cases hlt : i < l.length
            · obtain ⟨p0, _, _, _⟩ := hrd i hlt
              have hid := rd_lt p0
              have hw := wr_next hlt hm
              have hlt' : (i : Int) < (l.length : Int) := Int.ofNat_lt.2 hlt
              have hnx := fIdx_next pr hlt
              have hbd := fIdx_bound pr hlt hm
              have hc := hR τ1 hk1 i hlt (f + 1) (by omega)
              generalize rAt l i = a at p0 hnx hc
              simp only [Arr.av, Arr.cells] at p0
              unfold VS.cells at hc hb1
              simp (maxDischargeDepth := 99) [cr11_0, hlen, f1, f2, f3, f8, hlt, hlt', hb1]
              refine hc.mono ?_
              rintro r τ2 ⟨rfl, k2⟩
              have hk2 := hk1.trans k2
              rw [← hk2.2 id hid] at p0
              have hO2 := hO.stay (τ' := τ2) (fun j _ h2 => k2.2 j h2)
              have hb2 : τ2.get σ.size = some ⟨[.int .i64 v.k, .int .i64 v.n, v.s, .bool v.d], .own⟩ := by rw [k2.2 _ (AHeap.get_lt hb1), hb1]
              have hsz := AHeap.get_lt hb2
              cases hpr : pr i a with
              | true =>
                have hO4 : OutSl (σ.size + 1) (τ2.alloc ⟨[.int .i64 a.seq, .int .i64 a.time, a.row], .own⟩) 3 (getSlot fr 7) (acells (fIdx pr 0 (l.take i))) (fIdx pr 0 (l.take i)).length :=
                  hO2.stay (fun j h1 h2 => by rw [AHeap.get_alloc, if_neg (by omega)])
                have hap := append_out (b := σ.size + 1) (bytes := 40) (vs := [.int .i64 a.seq, .int .i64 a.time, a.row]) hO4 (by rw [AHeap.size_alloc]; omega) (by omega) rfl hbd (by decide)
                simp (maxDischargeDepth := 99) [hlen, f1, f8, hlt, hlt', p0, srcLen, srcCells]
                refine hap.mono ?_
                rintro s' τ4 ⟨q1, q2, q3⟩
                have low : ∀ j, j < σ.size + 1 → τ4.get j = τ2.get j := fun j hj => by rw [q3 j hj, AHeap.get_alloc, if_neg (by omega)]
                have k4 : Keeps σ τ4 := ⟨by rw [q2, AHeap.size_alloc]; have := hk2.1; omega, fun j hj => by rw [low j (by omega)]; exact hk2.2 j hj⟩
                simp (maxDischargeDepth := 99) [hlen, f8, hw]
                refine ⟨l.length - (i + 1), y1 hlt, i + 1, rfl, hlt, by simp [hlen], by simp [hlen, f1], by simp [hlen, f2], by simp [hlen, f3], by simp [hlen], ?_, k4, by rw [low _ (by omega), hb2]; rfl⟩
                rw [hnx]
                simp [hlen, fIdx, hpr, acells_append, acells, Arr.cells]
                exact q1
              | false =>
                simp (maxDischargeDepth := 99) [hlen, f8, hw]
                refine ⟨l.length - (i + 1), y1 hlt, i + 1, rfl, hlt, by simp [hlen], by simp [hlen, f1], by simp [hlen, f2], by simp [hlen, f3], by simp [hlen], ?_, hk2, by rw [hb2]; rfl⟩
                rw [hnx]
                simpa [hlen, fIdx, hpr] using hO2
            · obtain rfl : i = l.length := by omega
              rw [List.take_of_length_le (Nat.le_refl _)] at hO
              simp (maxDischargeDepth := 99) [cr11_0, hlen, f1, f8]
              exact ⟨by simp [hlen], by simpa [hlen] using hO.low (by omega), hk1⟩
          · exact ⟨0, rfl, Nat.zero_le _, by simp, by simp, by simp, by simp, by simp, by simpa [fIdx, acells] using OutSl.nil _ _ _, hk, by rw [hb]; rfl⟩
        · rintro fr τ1 ⟨hlen, hO, hk1⟩
          simp (maxDischargeDepth := 99) [hlen]
          have := fIdx_len pr l 0
          exact ⟨acells_outsl hO (by unfold maxElems; omega) (fun a ha => (h.keeps hk1).2 a (fIdx_mem pr l 0 a ha)), hk1⟩
    · have hR := h1 hok
      subst hR
      unfold okL wid at hok
      generalize (rAt l 0).vals.length = w at hrow hpc hok
      rcases hrow with ⟨e1, rfl⟩ | ⟨ri, ro, rc, e1⟩
      all_goals
        rw [e1] at p3
        try simp only [Int.natCast_zero] at hpc hok
        simp (maxDischargeDepth := 99) [cr11, VS.cells, hl', hl'', p3, hpos, D9_8, ← hτ, hpc, hb, hok, hnil, hk]
end Go.Proofs.YthjijjkoeoemgaaGreat.Ab
